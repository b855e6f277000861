/- Texts laid together: W3 W4 W5 W6 WA Lb0 Lr8 Lb1a Lb3 Pt1 Le1 Le2 Lt1 Lt2. -/
import Derived.Test.YtjdhigcefkihiaaPc3
import Derived.KernelRfl
set_option linter.unusedVariables false
set_option linter.unusedSimpArgs false
open Nat renaming reduceAdd→ν1,reduceLeDiff→ν2,reduceLT→ν3,reduceMul→ν4,reduceSub→ν5
open Int renaming reduceToNat→ι1,reduceSub→ι2,reduceAdd→ι3,reduceNeg→ι4
open Array renaming toList→ι5
open Ne renaming symm→ν6
open List renaming forall_mem_cons→ν7
namespace Go.Proofs.Ytjdhigcefkihiaa
open Go Go.Sep
attribute [local irreducible] wpC headF
def D63:Info:=⟨38,fun i=>if i=6 then ([[],[],[0,1],[],[],[],[],[5,6],[5,6,7],[3,4,5,6,7,8],[3,4,5,6,7,8,9],[0,1,2,3,4,5,6,7,8,9,10],[0,1,2,3,4,5,6,7,8,9,10,11]],[(0,[]),(1,[]),(2,[]),(3,[]),(4,[]),(5,[]),(6,[]),(7,[]),(8,[3,4]),(9,[]),(10,[]),(11,[]),(12,[])]) else ([],[]),fun i=>if i=3 then ([2,10,11],[5,12]) else ([],[])⟩
def L63_0 (K:AV→Heap→Prop) (v2:AV) (v5:AV) (v10:AV) (v11:AV) (v12:AV) (H:Heap):Prop:=LoopV (wpC Try.prog tab D63 (cAt [1,1,0,1,0,0] (bodyOf Try.f63))) [2,10,11] (PostF.block 0 (PostF.thenA (wpC Try.prog tab D63 (cAt [1,1,1] (bodyOf Try.f63))) (retF tab [.tmp 4] K))) [5,12] [AV.any,AV.any,v2,AV.any,AV.any,v5,AV.any,AV.any,AV.any,AV.any,v10,v11,v12,AV.any,AV.any,AV.any,AV.any,AV.any,AV.any,AV.any,AV.any,AV.any,AV.any,AV.any,AV.any,AV.any,AV.any,AV.any,AV.any,AV.any,AV.any,AV.any,AV.any,AV.any,AV.any,AV.any,AV.any,AV.any] H
def B63_0 (K:AV→Heap→Prop) (N1:AV→AV→Heap→Prop) (v2:AV) (v5:AV) (v10:AV) (v11:AV) (v12:AV) (H:Heap):Prop:=
 binV tab .lss 3 v12 v11 fun v13=>
 condV v13 (indexAddrV tab 30 v10 v12 fun v14=>
 loadV tab 80 v14 H fun v15=>
 allocV tab 80 H fun v7 H3=>
 storeV tab 80 v7 v15 H3 fun H4=>
 lenV tab 71 v5 fun v17=>
 fieldAddrV tab 80 v7 0 fun v18=>
 loadV tab 3 v18 H4 fun v19=>
 CallT Try.prog 69 [v19] H4 fun v20 H5=>
 binV tab .sub 3 v17 v20 fun v21=>
 sliceV tab 71 v5 none (some v21) none fun v24=>
 loadV tab 32 v2 H5 fun v25=>
 loadV tab 80 v7 H5 fun v26=>
 sliceV tab 71 v5 (some v21) none none fun v29=>
 CallT Try.prog 108 [v29] H5 fun v30 H6=>
 (loadV tab 32 v2 H6 fun v9025=>
 v25=v9025)∧
 (loadV tab 80 v7 H6 fun v9026=>
 v26=v9026)∧
 CallT Try.prog 107 [v25,v26,v30] H6 fun v31 H7=>
 buildSliceV tab 71 1 [(0,v31)] H7 (wkK fun v32 H8=>
 appendV tab 71 71 v24 v32 H8 (wkK fun v33 H9=>
 binV tab .add 3 v12 (AV.p (.int .i64 1)) fun v34=>
 N1 v33 v34 H9)))
 (indexAddrV tab 71 v5 (AV.p (.int .i64 0)) fun v36=>
 loadV tab 76 v36 H fun v37=>
 K v37 H)
def W63 (v0:AV) (v1:AV) (H:Heap) (K:AV→Heap→Prop):Prop:=
 boxV v0 H fun v2 H1=>
 buildSliceV tab 71 0 [] H1 (wkK fun v9 H2=>
 lenV tab 30 v1 fun v11=>
 L63_0 K v2 v9 v1 v11 (AV.p (.int .i64 0)) H2)
theorem W63_wp (v0:AV) (v1:AV) (H:Heap) (K:AV→Heap→Prop):wpC Try.prog tab D63 (bodyOf Try.f63) (retF tab [.tmp 4] K) (nthA [v0,v1]) H=W63 v0 v1 H K:=by kernel_rfl
theorem W63_ok {v0 v1:AV} {H:Heap} {K:AV→Heap→Prop} (h:W63 v0 v1 H K):CallT Try.prog 63 [v0,v1] H K:=
  CallT.of_wp (D:=D63) tab_ok mixed Try.func63 (c:=bodyOf Try.f63) (by kernel_rfl) rfl (by kernel_rfl) (rs:=#[.tmp 4]) rfl (by decide +kernel) (by kernel_rfl) (W63_wp v0 v1 H K) h
theorem L63_0_rule {K:AV→Heap→Prop} {v2 v5 v10 v11 v12:AV} {H:Heap} {σ:Type} (s0:σ) (f5:σ→AV) (f12:σ→AV) (TH:σ→Heap) (pre:σ→Prop) (μ:σ→Nat)
    (h0:pre s0∧AV.wk v5 (f5 s0)∧AV.wk v12 (f12 s0)∧Heap.le (TH s0) H)
    (round:∀s,pre s→B63_0 K (fun w5 w12 H'=>∃s',pre s'∧μ s' < μ s∧AV.wk w5 (f5 s')∧AV.wk w12 (f12 s')∧Heap.le (TH s') H') v2 (f5 s) v10 v11 (f12 s) (TH s)) :
    L63_0 K v2 v5 v10 v11 v12 H:=by
  unfold L63_0
  exact LoopV.mk s0 (fun s=>[f5 s,f12 s]) TH pre μ (fun _=>rfl) (Eq.mp (by kernel_rfl) h0) (fun s hs=>Eq.mp (by kernel_rfl) (round s hs))
def D67:Info:=⟨20,fun i=>([],[]),fun i=>([],[])⟩
def W67 (v0:AV) (v1:AV) (H:Heap) (K:AV→Heap→Prop):Prop:=
 binV tab .leq 3 v1 (AV.p (.int .i64 1)) fun v7=>
 condV v7 (K (AV.p (.int .i64 0)) H)
 (CallT Try.prog 109 [v0] H fun v9 H1=>
 binV tab .gtr 3 v1 (AV.p (.int .i64 200)) fun v11=>
 condV v11 (binV tab .mul 3 v9 (AV.p (.int .i64 256)) fun v13=>
 CallT Try.prog 109 [v0] H1 fun v15 H2=>
 binV tab .add 3 v13 v15 fun v16=>
 binV tab .rem 3 v16 v1 fun v19=>
 K v19 H2)
 (binV tab .rem 3 v9 v1 fun v19=>
 K v19 H1))
theorem W67_wp (v0:AV) (v1:AV) (H:Heap) (K:AV→Heap→Prop):wpC Try.prog tab D67 (bodyOf Try.f67) (retF tab [.tmp 4] K) (nthA [v0,v1]) H=W67 v0 v1 H K:=by kernel_rfl
theorem W67_ok {v0 v1:AV} {H:Heap} {K:AV→Heap→Prop} (h:W67 v0 v1 H K):CallT Try.prog 67 [v0,v1] H K:=
  CallT.of_wp (D:=D67) tab_ok mixed Try.func67 (c:=bodyOf Try.f67) (by kernel_rfl) rfl (by kernel_rfl) (rs:=#[.tmp 4]) rfl (by decide +kernel) (by kernel_rfl) (W67_wp v0 v1 H K) h
def D68:Info:=⟨50,fun i=>([],[]),fun i=>([],[])⟩
def J68_0 (K:AV→Heap→Prop) (v0:AV) (v13:AV) (H:Heap):Prop:=
 condV v13 (CallT Try.prog 67 [v0,(AV.p (.int .i64 2))] H fun v15 H3=>
 buildV tab 80 [(0,(AV.p (.int .i64 2))),(1,v15)] fun v16=>
 buildSliceV tab 30 1 [(0,v16)] H3 (wkK fun v17 H4=>
 K v17 H4))
 (CallT Try.prog 67 [v0,(AV.p (.int .i64 3))] H fun v19 H5=>
 buildV tab 80 [(0,(AV.p (.int .i64 1))),(1,v19)] fun v20=>
 buildSliceV tab 30 1 [(0,v20)] H5 (wkK fun v21 H6=>
 K v21 H6))
def W68 (v0:AV) (v1:AV) (H:Heap) (K:AV→Heap→Prop):Prop:=
 binV tab .eql 3 v1 (AV.p (.int .i64 0)) fun v7=>
 grdV v7 false (CallT Try.prog 94 [v0,(AV.p (.int .i64 6))] H fun v10 H1=>
 condV v10 (CallT Try.prog 94 [v0,(AV.p (.int .i64 12))] H1 fun v13 H2=>
 J68_0 K v0 v13 H2)
 (CallT Try.prog 94 [v0,(AV.p (.int .i64 3))] H1 fun v23 H7=>
 condV v23 (binV tab .sub 3 v1 (AV.p (.int .i64 1)) fun v26=>
 CallT Try.prog 68 [v0,v26] H7 fun v27 H8=>
 buildSliceV tab 23 3 [(0,(AV.p (.int .i64 3))),(1,(AV.p (.int .i64 3))),(2,(AV.p (.int .i64 4)))] H8 (wkK fun v29 H9=>
 CallT Try.prog 81 [v0,v29] H9 fun v30 H10=>
 buildV tab 80 [(0,v30)] fun v31=>
 buildSliceV tab 30 1 [(0,v31)] H10 (wkK fun v32 H11=>
 appendV tab 30 30 v27 v32 H11 (wkK fun v33 H12=>
 K v33 H12))))
 (buildSliceV tab 23 5 [(0,(AV.p (.int .i64 5))),(1,(AV.p (.int .i64 6))),(2,(AV.p (.int .i64 7))),(3,(AV.p (.int .i64 7))),(4,(AV.p (.int .i64 8)))] H7 (wkK fun v35 H13=>
 CallT Try.prog 81 [v0,v35] H13 fun v36 H14=>
 binV tab .sub 3 v1 (AV.p (.int .i64 1)) fun v39=>
 CallT Try.prog 68 [v0,v39] H14 fun v40 H15=>
 binV tab .sub 3 v1 (AV.p (.int .i64 1)) fun v43=>
 CallT Try.prog 68 [v0,v43] H15 fun v44 H16=>
 appendV tab 30 30 v40 v44 H16 (wkK fun v45 H17=>
 buildV tab 80 [(0,v36)] fun v47=>
 buildSliceV tab 30 1 [(0,v47)] H17 (wkK fun v48 H18=>
 appendV tab 30 30 v45 v48 H18 (wkK fun v49 H19=>
 K v49 H19)))))))
 (CallT Try.prog 94 [v0,(AV.p (.int .i64 12))] H fun v13 H20=>
 J68_0 K v0 v13 H20)
theorem W68_wp (v0:AV) (v1:AV) (H:Heap) (K:AV→Heap→Prop):wpC Try.prog tab D68 (bodyOf Try.f68) (retF tab [.tmp 4] K) (nthA [v0,v1]) H=W68 v0 v1 H K:=by kernel_rfl
theorem W68_ok {v0 v1:AV} {H:Heap} {K:AV→Heap→Prop} (h:W68 v0 v1 H K):CallT Try.prog 68 [v0,v1] H K:=
  CallT.of_wp (D:=D68) tab_ok mixed Try.func68 (c:=bodyOf Try.f68) (by kernel_rfl) rfl (by kernel_rfl) (rs:=#[.tmp 4]) rfl (by decide +kernel) (by kernel_rfl) (W68_wp v0 v1 H K) h
def D69:Info:=⟨15,fun i=>([],[]),fun i=>([],[])⟩
def J69_0 (K:AV→Heap→Prop) (v3:AV) (v7:AV) (H:Heap):Prop:=
 condV v7 (K (AV.p (.int .i64 1)) H)
 (binV tab .eql 3 v3 (AV.p (.int .i64 5)) fun v11=>
 condV v11 (condV v11 (K (AV.p (.int .i64 2)) H)
 (K (AV.p (.int .i64 (-1))) H))
 (binV tab .eql 3 v3 (AV.p (.int .i64 6)) fun v12=>
 condV v12 (condV v12 (K (AV.p (.int .i64 2)) H)
 (K (AV.p (.int .i64 (-1))) H))
 (binV tab .eql 3 v3 (AV.p (.int .i64 7)) fun v13=>
 condV v13 (condV v13 (K (AV.p (.int .i64 2)) H)
 (K (AV.p (.int .i64 (-1))) H))
 (binV tab .eql 3 v3 (AV.p (.int .i64 8)) fun v14=>
 condV v14 (K (AV.p (.int .i64 2)) H)
 (K (AV.p (.int .i64 (-1))) H)))))
def J69_1 (K:AV→Heap→Prop) (v3:AV) (v4:AV) (H:Heap):Prop:=
 condV v4 (K (AV.p (.int .i64 0)) H)
 (binV tab .eql 3 v3 (AV.p (.int .i64 3)) fun v8=>
 condV v8 (J69_0 K v3 v8 H)
 (binV tab .eql 3 v3 (AV.p (.int .i64 4)) fun v9=>
 J69_0 K v3 v9 H))
def W69 (v0:AV) (H:Heap) (K:AV→Heap→Prop):Prop:=
 binV tab .eql 3 v0 (AV.p (.int .i64 1)) fun v5=>
 condV v5 (J69_1 K v0 v5 H)
 (binV tab .eql 3 v0 (AV.p (.int .i64 2)) fun v6=>
 J69_1 K v0 v6 H)
theorem W69_wp (v0:AV) (H:Heap) (K:AV→Heap→Prop):wpC Try.prog tab D69 (bodyOf Try.f69) (retF tab [.tmp 2] K) (nthA [v0]) H=W69 v0 H K:=by kernel_rfl
theorem W69_ok {v0:AV} {H:Heap} {K:AV→Heap→Prop} (h:W69 v0 H K):CallT Try.prog 69 [v0] H K:=
  CallT.of_wp (D:=D69) tab_ok mixed Try.func69 (c:=bodyOf Try.f69) (by kernel_rfl) rfl (by kernel_rfl) (rs:=#[.tmp 2]) rfl (by decide +kernel) (by kernel_rfl) (W69_wp v0 H K) h
def D70:Info:=⟨8,fun i=>([],[]),fun i=>([],[])⟩
def W70 (v0:AV) (H:Heap) (K:AV→Heap→Prop):Prop:=
 CallT Try.prog 37 [v0] H fun v5 H1=>
 unV .not v5 fun v6=>
 condV v6 (K (.tup [(AV.p .nil),(AV.p (.bool false))]) H1)
 (K (.tup [v0,(AV.p (.bool true))]) H1)
theorem W70_wp (v0:AV) (H:Heap) (K:AV→Heap→Prop):wpC Try.prog tab D70 (bodyOf Try.f70) (retF tab [.tmp 2,.tmp 3] K) (nthA [v0]) H=W70 v0 H K:=by kernel_rfl
theorem W70_ok {v0:AV} {H:Heap} {K:AV→Heap→Prop} (h:W70 v0 H K):CallT Try.prog 70 [v0] H K:=
  CallT.of_wp (D:=D70) tab_ok mixed Try.func70 (c:=bodyOf Try.f70) (by kernel_rfl) rfl (by kernel_rfl) (rs:=#[.tmp 2,.tmp 3]) rfl (by decide +kernel) (by kernel_rfl) (W70_wp v0 H K) h
def D72:Info:=⟨15,fun i=>([],[]),fun i=>([],[])⟩
def J72_0 (K:AV→Heap→Prop) (v3:AV) (v7:AV) (H:Heap):Prop:=
 condV v7 (K (AV.p (.int .i64 1)) H)
 (binV tab .eql 3 v3 (AV.p (.int .i64 5)) fun v11=>
 condV v11 (condV v11 (K (AV.p (.int .i64 2)) H)
 (K (AV.p (.int .i64 (-1))) H))
 (binV tab .eql 3 v3 (AV.p (.int .i64 6)) fun v12=>
 condV v12 (condV v12 (K (AV.p (.int .i64 2)) H)
 (K (AV.p (.int .i64 (-1))) H))
 (binV tab .eql 3 v3 (AV.p (.int .i64 7)) fun v13=>
 condV v13 (condV v13 (K (AV.p (.int .i64 2)) H)
 (K (AV.p (.int .i64 (-1))) H))
 (binV tab .eql 3 v3 (AV.p (.int .i64 8)) fun v14=>
 condV v14 (K (AV.p (.int .i64 2)) H)
 (K (AV.p (.int .i64 (-1))) H)))))
def J72_1 (K:AV→Heap→Prop) (v3:AV) (v4:AV) (H:Heap):Prop:=
 condV v4 (K (AV.p (.int .i64 0)) H)
 (binV tab .eql 3 v3 (AV.p (.int .i64 3)) fun v8=>
 condV v8 (J72_0 K v3 v8 H)
 (binV tab .eql 3 v3 (AV.p (.int .i64 4)) fun v9=>
 J72_0 K v3 v9 H))
def W72 (v0:AV) (H:Heap) (K:AV→Heap→Prop):Prop:=
 binV tab .eql 3 v0 (AV.p (.int .i64 1)) fun v5=>
 condV v5 (J72_1 K v0 v5 H)
 (binV tab .eql 3 v0 (AV.p (.int .i64 2)) fun v6=>
 J72_1 K v0 v6 H)
theorem W72_wp (v0:AV) (H:Heap) (K:AV→Heap→Prop):wpC Try.prog tab D72 (bodyOf Try.f72) (retF tab [.tmp 2] K) (nthA [v0]) H=W72 v0 H K:=by kernel_rfl
theorem W72_ok {v0:AV} {H:Heap} {K:AV→Heap→Prop} (h:W72 v0 H K):CallT Try.prog 72 [v0] H K:=
  CallT.of_wp (D:=D72) tab_ok mixed Try.func72 (c:=bodyOf Try.f72) (by kernel_rfl) rfl (by kernel_rfl) (rs:=#[.tmp 2]) rfl (by decide +kernel) (by kernel_rfl) (W72_wp v0 H K) h
def D73:Info:=⟨8,fun i=>([],[]),fun i=>([],[])⟩
def W73 (v0:AV) (H:Heap) (K:AV→Heap→Prop):Prop:=
 CallT Try.prog 38 [v0] H fun v5 H1=>
 unV .not v5 fun v6=>
 condV v6 (K (.tup [(AV.p .nil),(AV.p (.bool false))]) H1)
 (K (.tup [v0,(AV.p (.bool true))]) H1)
theorem W73_wp (v0:AV) (H:Heap) (K:AV→Heap→Prop):wpC Try.prog tab D73 (bodyOf Try.f73) (retF tab [.tmp 2,.tmp 3] K) (nthA [v0]) H=W73 v0 H K:=by kernel_rfl
theorem W73_ok {v0:AV} {H:Heap} {K:AV→Heap→Prop} (h:W73 v0 H K):CallT Try.prog 73 [v0] H K:=
  CallT.of_wp (D:=D73) tab_ok mixed Try.func73 (c:=bodyOf Try.f73) (by kernel_rfl) rfl (by kernel_rfl) (rs:=#[.tmp 2,.tmp 3]) rfl (by decide +kernel) (by kernel_rfl) (W73_wp v0 H K) h
def D74:Info:=⟨41,fun i=>([],[]),fun i=>([],[])⟩
def J74_0 (K:AV→Heap→Prop) (v0:AV) (v3:AV) (H:Heap):Prop:=
 CallT Try.prog 67 [v0,(AV.p (.int .i64 40))] H fun v20 H5=>
 binV tab .eql 3 v20 (AV.p (.int .i64 0)) fun v22=>
 condV v22 (sliceV tab 30 v3 (some (AV.p (.int .i64 1))) none none fun v24=>
 K v24 H5)
 (binV tab .eql 3 v20 (AV.p (.int .i64 1)) fun v26=>
 condV v26 (indexAddrV tab 30 v3 (AV.p (.int .i64 0)) fun v28=>
 fieldAddrV tab 80 v28 1 fun v29=>
 storeV tab 3 v29 (AV.p (.int .i64 3)) H5 fun H6=>
 K v3 H6)
 (binV tab .eql 3 v20 (AV.p (.int .i64 2)) fun v31=>
 condV v31 (lenV tab 30 v3 fun v34=>
 binV tab .sub 3 v34 (AV.p (.int .i64 1)) fun v35=>
 CallT Try.prog 67 [v0,(AV.p (.int .i64 10))] H5 fun v37 H7=>
 indexAddrV tab 30 v3 v35 fun v38=>
 fieldAddrV tab 80 v38 0 fun v39=>
 storeV tab 3 v39 v37 H7 fun H8=>
 K v3 H8)
 (K v3 H5)))
def W74 (v0:AV) (H:Heap) (K:AV→Heap→Prop):Prop:=
 CallT Try.prog 67 [v0,(AV.p (.int .i64 2))] H fun v6 H1=>
 binV tab .add 3 (AV.p (.int .i64 2)) v6 fun v7=>
 CallT Try.prog 68 [v0,v7] H1 fun v8 H2=>
 lenV tab 30 v8 fun v10=>
 binV tab .gtr 3 v10 (AV.p (.int .i64 16)) fun v11=>
 grdV v11 true (CallT Try.prog 94 [v0,(AV.p (.int .i64 10))] H2 fun v14 H3=>
 unV .not v14 fun v15=>
 condV v15 (CallT Try.prog 68 [v0,(AV.p (.int .i64 2))] H3 fun v18 H4=>
 J74_0 K v0 v18 H4)
 (J74_0 K v0 v8 H3))
 (J74_0 K v0 v8 H2)
theorem W74_wp (v0:AV) (H:Heap) (K:AV→Heap→Prop):wpC Try.prog tab D74 (bodyOf Try.f74) (retF tab [.tmp 2] K) (nthA [v0]) H=W74 v0 H K:=by kernel_rfl
theorem W74_ok {v0:AV} {H:Heap} {K:AV→Heap→Prop} (h:W74 v0 H K):CallT Try.prog 74 [v0] H K:=
  CallT.of_wp (D:=D74) tab_ok mixed Try.func74 (c:=bodyOf Try.f74) (by kernel_rfl) rfl (by kernel_rfl) (rs:=#[.tmp 2]) rfl (by decide +kernel) (by kernel_rfl) (W74_wp v0 H K) h
def D75:Info:=⟨57,fun i=>if i=12 then ([[],[0],[],[],[2,3],[0,1,2,3,4],[0,1,2,3,4,5]],[(0,[]),(1,[]),(2,[]),(3,[1]),(4,[1]),(5,[]),(6,[])]) else ([],[]),fun i=>([],[])⟩
def J75_0 (K:AV→Heap→Prop) (v0:AV) (v2:AV) (v3:AV) (H:Heap):Prop:=
 CallT Try.prog 67 [v0,(AV.p (.int .i64 40))] H fun v31 H14=>
 binV tab .eql 3 v31 (AV.p (.int .i64 0)) fun v33=>
 condV v33 (buildSliceV tab 23 3 [(0,(AV.p (.int .i64 0))),(1,(AV.p (.int .i64 24))),(2,(AV.p (.int .i64 25)))] H14 (wkK fun v36 H15=>
 CallT Try.prog 81 [v0,v36] H15 fun v37 H16=>
 CallT Try.prog 111 [v0,v37] H16 fun v38 H17=>
 fieldAddrV tab 32 v3 1 fun v39=>
 storeV tab 23 v39 v38 H17 fun H18=>
 loadV tab 32 v3 H18 fun v56=>
 storeV tab 32 v2 v56 H18 fun H20=>
 loadV tab 32 v2 H20 fun r0=>
 K r0 H20))
 (binV tab .eql 3 v31 (AV.p (.int .i64 1)) fun v41=>
 condV v41 (buildSliceV tab 23 2 [(0,(AV.p (.int .i64 24))),(1,(AV.p (.int .i64 25)))] H14 (wkK fun v44 H21=>
 CallT Try.prog 81 [v0,v44] H21 fun v45 H22=>
 CallT Try.prog 111 [v0,v45] H22 fun v46 H23=>
 fieldAddrV tab 32 v3 0 fun v47=>
 storeV tab 23 v47 v46 H23 fun H24=>
 loadV tab 32 v3 H24 fun v56=>
 storeV tab 32 v2 v56 H24 fun H25=>
 loadV tab 32 v2 H25 fun r0=>
 K r0 H25))
 (binV tab .eql 3 v31 (AV.p (.int .i64 2)) fun v49=>
 condV v49 (fieldAddrV tab 32 v3 1 fun v50=>
 loadV tab 23 v50 H14 fun v51=>
 buildSliceV tab 23 3 [(0,(AV.p (.int .i64 (-1)))),(1,(AV.p (.int .i64 7))),(2,(AV.p (.int .i64 8)))] H14 (wkK fun v53 H26=>
 (loadV tab 23 v50 H26 fun v9051=>
 v51=v9051)∧
 CallT Try.prog 81 [v0,v53] H26 fun v54 H27=>
 (loadV tab 23 v50 H27 fun v9051=>
 v51=v9051)∧
 indexAddrV tab 23 v51 (AV.p (.int .i64 0)) fun v55=>
 storeV tab 3 v55 v54 H27 fun H28=>
 loadV tab 32 v3 H28 fun v56=>
 storeV tab 32 v2 v56 H28 fun H29=>
 loadV tab 32 v2 H29 fun r0=>
 K r0 H29))
 (loadV tab 32 v3 H14 fun v56=>
 storeV tab 32 v2 v56 H14 fun H30=>
 loadV tab 32 v2 H30 fun r0=>
 K r0 H30)))
def J75_1 (K:AV→Heap→Prop) (v0:AV) (v2:AV) (v3:AV) (H:Heap):Prop:=
 CallT Try.prog 94 [v0,(AV.p (.int .i64 4))] H fun v23 H11=>
 condV v23 (fieldAddrV tab 32 v3 0 fun v24=>
 loadV tab 23 v24 H11 fun v25=>
 fieldAddrV tab 32 v3 1 fun v26=>
 loadV tab 23 v26 H11 fun v27=>
 appendV tab 23 23 v25 v27 H11 (wkK fun v28 H12=>
 fieldAddrV tab 32 v3 0 fun v29=>
 storeV tab 23 v29 v28 H12 fun H13=>
 J75_0 K v0 v2 v3 H13))
 (J75_0 K v0 v2 v3 H11)
def W75 (v0:AV) (H:Heap) (K:AV→Heap→Prop):Prop:=
 allocV tab 32 H fun v2 H1=>
 CallT Try.prog 67 [v0,(AV.p (.int .i64 6))] H1 fun v6 H2=>
 CallT Try.prog 111 [v0,v6] H2 fun v7 H3=>
 CallT Try.prog 67 [v0,(AV.p (.int .i64 5))] H3 fun v10 H4=>
 binV tab .add 3 (AV.p (.int .i64 1)) v10 fun v11=>
 CallT Try.prog 111 [v0,v11] H4 fun v12 H5=>
 buildV tab 32 [(0,v7),(1,v12)] fun v13=>
 allocV tab 32 H5 fun v3 H6=>
 storeV tab 32 v3 v13 H6 fun H7=>
 CallT Try.prog 94 [v0,(AV.p (.int .i64 4))] H7 fun v15 H8=>
 condV v15 (fieldAddrV tab 32 v3 1 fun v16=>
 loadV tab 23 v16 H8 fun v17=>
 fieldAddrV tab 32 v3 1 fun v18=>
 loadV tab 23 v18 H8 fun v19=>
 appendV tab 23 23 v17 v19 H8 (wkK fun v20 H9=>
 fieldAddrV tab 32 v3 1 fun v21=>
 storeV tab 23 v21 v20 H9 fun H10=>
 J75_1 K v0 v2 v3 H10))
 (J75_1 K v0 v2 v3 H8)
theorem W75_wp (v0:AV) (H:Heap) (K:AV→Heap→Prop):wpC Try.prog tab D75 (bodyOf Try.f75) (retF tab [.cell 2 32] K) (nthA [v0]) H=W75 v0 H K:=by kernel_rfl
theorem W75_ok {v0:AV} {H:Heap} {K:AV→Heap→Prop} (h:W75 v0 H K):CallT Try.prog 75 [v0] H K:=
  CallT.of_wp (D:=D75) tab_ok mixed Try.func75 (c:=bodyOf Try.f75) (by kernel_rfl) rfl (by kernel_rfl) (rs:=#[.cell 2 32]) rfl (by decide +kernel) (by kernel_rfl) (W75_wp v0 H K) h
def D76:Info:=⟨6,fun i=>([],[]),fun i=>([],[])⟩
def W76 (v0:AV) (H:Heap) (K:AV→Heap→Prop):Prop:=
 buildSliceV tab 23 10 [(0,(AV.p (.int .i64 (-1)))),(1,(AV.p (.int .i64 0))),(2,(AV.p (.int .i64 1))),(3,(AV.p (.int .i64 2))),(4,(AV.p (.int .i64 3))),(5,(AV.p (.int .i64 5))),(6,(AV.p (.int .i64 8))),(7,(AV.p (.int .i64 13))),(8,(AV.p (.int .i64 1000))),(9,(AV.p (.int .i64 1001)))] H (wkK fun v4 H1=>
 CallT Try.prog 81 [v0,v4] H1 fun v5 H2=>
 K v5 H2)
theorem W76_wp (v0:AV) (H:Heap) (K:AV→Heap→Prop):wpC Try.prog tab D76 (bodyOf Try.f76) (retF tab [.tmp 2] K) (nthA [v0]) H=W76 v0 H K:=by kernel_rfl
theorem W76_ok {v0:AV} {H:Heap} {K:AV→Heap→Prop} (h:W76 v0 H K):CallT Try.prog 76 [v0] H K:=
  CallT.of_wp (D:=D76) tab_ok mixed Try.func76 (c:=bodyOf Try.f76) (by kernel_rfl) rfl (by kernel_rfl) (rs:=#[.tmp 2]) rfl (by decide +kernel) (by kernel_rfl) (W76_wp v0 H K) h
def D77:Info:=⟨15,fun i=>([],[]),fun i=>([],[])⟩
def W77 (v0:AV) (v1:AV) (v2:AV) (H:Heap) (K:AV→Heap→Prop):Prop:=
 binV tab .geq 3 v0 v1 fun v9=>
 grdV v9 true (binV tab .leq 3 v0 v2 fun v13=>
 K v13 H)
 (K (AV.p (.bool false)) H)
theorem W77_wp (v0:AV) (v1:AV) (v2:AV) (H:Heap) (K:AV→Heap→Prop):wpC Try.prog tab D77 (bodyOf Try.f77) (retF tab [.tmp 6] K) (nthA [v0,v1,v2]) H=W77 v0 v1 v2 H K:=by kernel_rfl
theorem W77_ok {v0 v1 v2:AV} {H:Heap} {K:AV→Heap→Prop} (h:W77 v0 v1 v2 H K):CallT Try.prog 77 [v0,v1,v2] H K:=
  CallT.of_wp (D:=D77) tab_ok mixed Try.func77 (c:=bodyOf Try.f77) (by kernel_rfl) rfl (by kernel_rfl) (rs:=#[.tmp 6]) rfl (by decide +kernel) (by kernel_rfl) (W77_wp v0 v1 v2 H K) h
def D78:Info:=⟨21,fun i=>([],[]),fun i=>if i=2 then ([1,2,9,10],[11]) else ([],[])⟩
def L78_0 (K:AV→Heap→Prop) (v1:AV) (v2:AV) (v9:AV) (v10:AV) (v11:AV) (H:Heap):Prop:=LoopV (wpC Try.prog tab D78 (cAt [1,0,1,0,0] (bodyOf Try.f78))) [1,2,9,10] (PostF.block 0 (PostF.thenA (wpC Try.prog tab D78 (cAt [1,1] (bodyOf Try.f78))) (retF tab [.tmp 6] K))) [11] [AV.any,v1,v2,AV.any,AV.any,AV.any,AV.any,AV.any,AV.any,v9,v10,v11,AV.any,AV.any,AV.any,AV.any,AV.any,AV.any,AV.any,AV.any,AV.any] H
def B78_0 (K:AV→Heap→Prop) (N1:AV→Heap→Prop) (v1:AV) (v2:AV) (v9:AV) (v10:AV) (v11:AV) (H:Heap):Prop:=
 binV tab .lss 3 v11 v10 fun v12=>
 condV v12 (indexAddrV tab 23 v9 v11 fun v13=>
 loadV tab 3 v13 H fun v14=>
 CallT Try.prog 77 [v14,v1,v2] H fun v18 H1=>
 unV .not v18 fun v19=>
 condV v19 (K (AV.p (.bool false)) H1)
 (binV tab .add 3 v11 (AV.p (.int .i64 1)) fun v20=>
 N1 v20 H1))
 (K (AV.p (.bool true)) H)
def W78 (v0:AV) (v1:AV) (v2:AV) (H:Heap) (K:AV→Heap→Prop):Prop:=
 lenV tab 23 v0 fun v10=>
 L78_0 K v1 v2 v0 v10 (AV.p (.int .i64 0)) H
theorem W78_wp (v0:AV) (v1:AV) (v2:AV) (H:Heap) (K:AV→Heap→Prop):wpC Try.prog tab D78 (bodyOf Try.f78) (retF tab [.tmp 6] K) (nthA [v0,v1,v2]) H=W78 v0 v1 v2 H K:=by kernel_rfl
theorem W78_ok {v0 v1 v2:AV} {H:Heap} {K:AV→Heap→Prop} (h:W78 v0 v1 v2 H K):CallT Try.prog 78 [v0,v1,v2] H K:=
  CallT.of_wp (D:=D78) tab_ok mixed Try.func78 (c:=bodyOf Try.f78) (by kernel_rfl) rfl (by kernel_rfl) (rs:=#[.tmp 6]) rfl (by decide +kernel) (by kernel_rfl) (W78_wp v0 v1 v2 H K) h
theorem L78_0_rule {K:AV→Heap→Prop} {v1 v2 v9 v10 v11:AV} {H:Heap} {σ:Type} (s0:σ) (f11:σ→AV) (TH:σ→Heap) (pre:σ→Prop) (μ:σ→Nat)
    (h0:pre s0∧AV.wk v11 (f11 s0)∧Heap.le (TH s0) H)
    (round:∀s,pre s→B78_0 K (fun w11 H'=>∃s',pre s'∧μ s' < μ s∧AV.wk w11 (f11 s')∧Heap.le (TH s') H') v1 v2 v9 v10 (f11 s) (TH s)) :
    L78_0 K v1 v2 v9 v10 v11 H:=by
  unfold L78_0
  exact LoopV.mk s0 (fun s=>[f11 s]) TH pre μ (fun _=>rfl) (Eq.mp (by kernel_rfl) h0) (fun s hs=>Eq.mp (by kernel_rfl) (round s hs))
def D79:Info:=⟨9,fun i=>([],[]),fun i=>([],[])⟩
def W79 (v0:AV) (H:Heap) (K:AV→Heap→Prop):Prop:=
 binV tab .geq 3 v0 (AV.p (.int .i64 0)) fun v4=>
 grdV v4 true (binV tab .leq 3 v0 (AV.p (.int .i64 1000)) fun v7=>
 K v7 H)
 (K (AV.p (.bool false)) H)
theorem W79_wp (v0:AV) (H:Heap) (K:AV→Heap→Prop):wpC Try.prog tab D79 (bodyOf Try.f79) (retF tab [.tmp 2] K) (nthA [v0]) H=W79 v0 H K:=by kernel_rfl
theorem W79_ok {v0:AV} {H:Heap} {K:AV→Heap→Prop} (h:W79 v0 H K):CallT Try.prog 79 [v0] H K:=
  CallT.of_wp (D:=D79) tab_ok mixed Try.func79 (c:=bodyOf Try.f79) (by kernel_rfl) rfl (by kernel_rfl) (rs:=#[.tmp 2]) rfl (by decide +kernel) (by kernel_rfl) (W79_wp v0 H K) h
def D81:Info:=⟨12,fun i=>([],[]),fun i=>([],[])⟩
def W81 (v0:AV) (v1:AV) (H:Heap) (K:AV→Heap→Prop):Prop:=
 lenV tab 23 v1 fun v8=>
 CallT Try.prog 67 [v0,v8] H fun v9 H1=>
 indexAddrV tab 23 v1 v9 fun v10=>
 loadV tab 3 v10 H1 fun v11=>
 K v11 H1
theorem W81_wp (v0:AV) (v1:AV) (H:Heap) (K:AV→Heap→Prop):wpC Try.prog tab D81 (bodyOf Try.f81) (retF tab [.tmp 4] K) (nthA [v0,v1]) H=W81 v0 v1 H K:=by kernel_rfl
theorem W81_ok {v0 v1:AV} {H:Heap} {K:AV→Heap→Prop} (h:W81 v0 v1 H K):CallT Try.prog 81 [v0,v1] H K:=
  CallT.of_wp (D:=D81) tab_ok mixed Try.func81 (c:=bodyOf Try.f81) (by kernel_rfl) rfl (by kernel_rfl) (rs:=#[.tmp 4]) rfl (by decide +kernel) (by kernel_rfl) (W81_wp v0 v1 H K) h
def D82:Info:=⟨20,fun i=>if i=1 then ([[],[],[0,1],[],[3],[3,4],[0,1,2,3,4,5],[0,1,2,3,4,5,6],[],[],[0,1,2,8,9],[0,1,2,3,4,5,6,7,8,9,10],[0,1,2,3,4,5,6,7,8,9,10,11],[0,1,2,3,4,5,6,7,8,9,10,11,12]],[(0,[]),(1,[]),(3,[]),(4,[]),(5,[]),(8,[]),(9,[]),(2,[8]),(6,[]),(7,[]),(10,[7]),(11,[]),(12,[]),(13,[])]) else ([],[]),fun i=>([],[])⟩
def W82 (v0:AV) (v1:AV) (v2:AV) (H:Heap) (K:AV→Heap→Prop):Prop:=
 boxV v1 H fun v4 H1=>
 loadV tab 32 v4 H1 fun v8=>
 lenV tab 30 v0 fun v11=>
 binV tab .sub 3 v11 (AV.p (.int .i64 1)) fun v12=>
 loadV tab 32 v4 H1 fun v15=>
 CallT Try.prog 54 [v0,v8] H1 fun v9 H2=>
 (loadV tab 32 v4 H2 fun v9015=>
 v15=v9015)∧
 indexAddrV tab 71 v9 v12 fun v13=>
 loadV tab 76 v13 H2 fun v14=>
 CallT Try.prog 112 [v15,v2] H2 fun v17 H3=>
 (loadV tab 76 v13 H3 fun v9014=>
 v14=v9014)∧
 indexAddrV tab 76 v14 v17 fun v18=>
 loadV tab 4 v18 H3 fun v19=>
 K v19 H3
theorem W82_wp (v0:AV) (v1:AV) (v2:AV) (H:Heap) (K:AV→Heap→Prop):wpC Try.prog tab D82 (bodyOf Try.f82) (retF tab [.tmp 6] K) (nthA [v0,v1,v2]) H=W82 v0 v1 v2 H K:=by kernel_rfl
theorem W82_ok {v0 v1 v2:AV} {H:Heap} {K:AV→Heap→Prop} (h:W82 v0 v1 v2 H K):CallT Try.prog 82 [v0,v1,v2] H K:=
  CallT.of_wp (D:=D82) tab_ok mixed Try.func82 (c:=bodyOf Try.f82) (by kernel_rfl) rfl (by kernel_rfl) (rs:=#[.tmp 6]) rfl (by decide +kernel) (by kernel_rfl) (W82_wp v0 v1 v2 H K) h
end Go.Proofs.Ytjdhigcefkihiaa
namespace Go.Proofs.Ytjdhigcefkihiaa
open Go Go.Sep
attribute [local irreducible] wpC headF
def D88:Info:=⟨34,fun i=>([],[]),fun i=>([],[])⟩
def W88 (v0:AV) (H:Heap) (K:AV→Heap→Prop):Prop:=
 boxV v0 H fun v1 H1=>
 fieldAddrV tab 80 v1 0 fun v3=>
 loadV tab 3 v3 H1 fun v4=>
 binV tab .eql 3 v4 (AV.p (.int .i64 1)) fun v6=>
 condV v6 (fieldAddrV tab 80 v1 1 fun v7=>
 loadV tab 3 v7 H1 fun v8=>
 binV tab .geq 3 v8 (AV.p (.int .i64 0)) fun v9=>
 grdV v9 true (fieldAddrV tab 80 v1 1 fun v11=>
 loadV tab 3 v11 H1 fun v12=>
 binV tab .lss 3 v12 (AV.p (.int .i64 3)) fun v13=>
 K v13 H1)
 (K (AV.p (.bool false)) H1))
 (binV tab .eql 3 v4 (AV.p (.int .i64 2)) fun v16=>
 condV v16 (fieldAddrV tab 80 v1 1 fun v17=>
 loadV tab 3 v17 H1 fun v18=>
 binV tab .eql 3 v18 (AV.p (.int .i64 0)) fun v19=>
 grdV v19 false (fieldAddrV tab 80 v1 1 fun v21=>
 loadV tab 3 v21 H1 fun v22=>
 binV tab .eql 3 v22 (AV.p (.int .i64 1)) fun v23=>
 K v23 H1)
 (K (AV.p (.bool true)) H1))
 (fieldAddrV tab 80 v1 0 fun v25=>
 loadV tab 3 v25 H1 fun v26=>
 CallT Try.prog 69 [v26] H1 fun v27 H2=>
 binV tab .gtr 3 v27 (AV.p (.int .i64 0)) fun v28=>
 grdV v28 true (fieldAddrV tab 80 v1 1 fun v30=>
 loadV tab 3 v30 H2 fun v31=>
 binV tab .eql 3 v31 (AV.p (.int .i64 0)) fun v32=>
 K v32 H2)
 (K (AV.p (.bool false)) H2)))
theorem W88_wp (v0:AV) (H:Heap) (K:AV→Heap→Prop):wpC Try.prog tab D88 (bodyOf Try.f88) (retF tab [.tmp 2] K) (nthA [v0]) H=W88 v0 H K:=by kernel_rfl
theorem W88_ok {v0:AV} {H:Heap} {K:AV→Heap→Prop} (h:W88 v0 H K):CallT Try.prog 88 [v0] H K:=
  CallT.of_wp (D:=D88) tab_ok mixed Try.func88 (c:=bodyOf Try.f88) (by kernel_rfl) rfl (by kernel_rfl) (rs:=#[.tmp 2]) rfl (by decide +kernel) (by kernel_rfl) (W88_wp v0 H K) h
def D89:Info:=⟨18,fun i=>([],[]),fun i=>([],[])⟩
def W89 (v0:AV) (H:Heap) (K:AV→Heap→Prop):Prop:=
 boxV v0 H fun v1 H1=>
 fieldAddrV tab 80 v1 0 fun v3=>
 loadV tab 3 v3 H1 fun v4=>
 binV tab .eql 3 v4 (AV.p (.int .i64 1)) fun v6=>
 condV v6 (fieldAddrV tab 80 v1 1 fun v7=>
 loadV tab 3 v7 H1 fun v8=>
 CallT Try.prog 77 [v8,(AV.p (.int .i64 0)),(AV.p (.int .i64 2))] H1 fun v9 H2=>
 K v9 H2)
 (binV tab .eql 3 v4 (AV.p (.int .i64 2)) fun v11=>
 condV v11 (fieldAddrV tab 80 v1 1 fun v12=>
 loadV tab 3 v12 H1 fun v13=>
 CallT Try.prog 77 [v13,(AV.p (.int .i64 0)),(AV.p (.int .i64 1))] H1 fun v14 H3=>
 K v14 H3)
 (fieldAddrV tab 80 v1 1 fun v15=>
 loadV tab 3 v15 H1 fun v16=>
 binV tab .eql 3 v16 (AV.p (.int .i64 0)) fun v17=>
 K v17 H1))
theorem W89_wp (v0:AV) (H:Heap) (K:AV→Heap→Prop):wpC Try.prog tab D89 (bodyOf Try.f89) (retF tab [.tmp 2] K) (nthA [v0]) H=W89 v0 H K:=by kernel_rfl
theorem W89_ok {v0:AV} {H:Heap} {K:AV→Heap→Prop} (h:W89 v0 H K):CallT Try.prog 89 [v0] H K:=
  CallT.of_wp (D:=D89) tab_ok mixed Try.func89 (c:=bodyOf Try.f89) (by kernel_rfl) rfl (by kernel_rfl) (rs:=#[.tmp 2]) rfl (by decide +kernel) (by kernel_rfl) (W89_wp v0 H K) h
def D90:Info:=⟨73,fun i=>if i=1 then ([[],[],[1],[1,2],[0,1,2,3],[0,1,2,3,4],[],[6],[],[0,1,2,3,4,5,6,7,8],[0,1,2,3,4,5,6,7,8,9]],[(0,[]),(1,[]),(2,[]),(3,[]),(4,[]),(5,[]),(6,[]),(7,[5]),(8,[]),(9,[]),(10,[])]) else ([],[]),fun i=>if i=12 then ([1,5,57,58],[7,59]) else ([],[])⟩
def L90_0 (K:AV→Heap→Prop) (v1:AV) (v5:AV) (v7:AV) (v57:AV) (v58:AV) (v59:AV) (H:Heap):Prop:=LoopV (wpC Try.prog tab D90 (cAt [1,1,1,1,0,1,0,0] (bodyOf Try.f90))) [1,5,57,58] (PostF.block 1 (PostF.thenA (wpC Try.prog tab D90 (cAt [1,1,1,1,1] (bodyOf Try.f90))) (retF tab [.tmp 4] K))) [7,59] [AV.any,v1,AV.any,AV.any,AV.any,v5,AV.any,v7,AV.any,AV.any,AV.any,AV.any,AV.any,AV.any,AV.any,AV.any,AV.any,AV.any,AV.any,AV.any,AV.any,AV.any,AV.any,AV.any,AV.any,AV.any,AV.any,AV.any,AV.any,AV.any,AV.any,AV.any,AV.any,AV.any,AV.any,AV.any,AV.any,AV.any,AV.any,AV.any,AV.any,AV.any,AV.any,AV.any,AV.any,AV.any,AV.any,AV.any,AV.any,AV.any,AV.any,AV.any,AV.any,AV.any,AV.any,AV.any,AV.any,v57,v58,v59,AV.any,AV.any,AV.any,AV.any,AV.any,AV.any,AV.any,AV.any,AV.any,AV.any,AV.any,AV.any,AV.any] H
def B90_0 (K:AV→Heap→Prop) (N1:AV→AV→Heap→Prop) (v1:AV) (v5:AV) (v7:AV) (v57:AV) (v58:AV) (v59:AV) (H:Heap):Prop:=
 binV tab .lss 3 v59 v58 fun v60=>
 condV v60 (indexAddrV tab 115 v57 v59 fun v61=>
 loadV tab 30 v61 H fun v62=>
 CallT Try.prog 90 [v62,v1] H fun v66 H10=>
 appendV tab 30 30 v7 v66 H10 (wkK fun v67 H11=>
 binV tab .add 3 v59 (AV.p (.int .i64 1)) fun v68=>
 N1 v67 v68 H11))
 (loadV tab 80 v5 H fun v70=>
 buildSliceV tab 30 1 [(0,v70)] H (wkK fun v71 H12=>
 appendV tab 30 30 v7 v71 H12 (wkK fun v72 H13=>
 K v72 H13)))
def J90_1 (K:AV→Heap→Prop) (v1:AV) (v5:AV) (v6:AV) (v50:AV) (H:Heap):Prop:=
 condV v50 (fieldAddrV tab 80 v5 0 fun v52=>
 loadV tab 3 v52 H fun v53=>
 CallT Try.prog 119 [v53] H fun v54 H7=>
 fieldAddrV tab 80 v5 0 fun v55=>
 storeV tab 3 v55 v54 H7 fun H8=>
 buildSliceV tab 30 0 [] H8 (wkK fun v56 H14=>
 lenV tab 115 v6 fun v58=>
 L90_0 K v1 v5 v56 v6 v58 (AV.p (.int .i64 0)) H14))
 (buildSliceV tab 30 0 [] H (wkK fun v56 H15=>
 lenV tab 115 v6 fun v58=>
 L90_0 K v1 v5 v56 v6 v58 (AV.p (.int .i64 0)) H15))
def J90_2 (K:AV→Heap→Prop) (v1:AV) (v5:AV) (v6:AV) (v43:AV) (H:Heap):Prop:=
 condV v43 (fieldAddrV tab 80 v5 1 fun v45=>
 loadV tab 3 v45 H fun v46=>
 binV tab .sub 3 (AV.p (.int .i64 1)) v46 fun v47=>
 buildV tab 80 [(0,(AV.p (.int .i64 2))),(1,v47)] fun v48=>
 buildSliceV tab 30 1 [(0,v48)] H (wkK fun v49 H6=>
 K v49 H6))
 (J90_1 K v1 v5 v6 v1 H)
def W90 (v0:AV) (v1:AV) (H:Heap) (K:AV→Heap→Prop):Prop:=
 lenV tab 30 v0 fun v12=>
 binV tab .sub 3 v12 (AV.p (.int .i64 1)) fun v13=>
 indexAddrV tab 30 v0 v13 fun v14=>
 loadV tab 80 v14 H fun v15=>
 CallT Try.prog 118 [v0] H fun v17 H1=>
 (loadV tab 80 v14 H1 fun v9015=>
 v15=v9015)∧
 allocV tab 80 H1 fun v5 H2=>
 storeV tab 80 v5 v15 H2 fun H3=>
 fieldAddrV tab 80 v5 0 fun v19=>
 loadV tab 3 v19 H3 fun v20=>
 binV tab .eql 3 v20 (AV.p (.int .i64 3)) fun v21=>
 condV v21 (indexAddrV tab 115 v17 (AV.p (.int .i64 0)) fun v23=>
 loadV tab 30 v23 H3 fun v24=>
 unV .not v1 fun v26=>
 CallT Try.prog 90 [v24,v26] H3 fun v27 H4=>
 K v27 H4)
 (fieldAddrV tab 80 v5 0 fun v29=>
 loadV tab 3 v29 H3 fun v30=>
 binV tab .eql 3 v30 (AV.p (.int .i64 1)) fun v31=>
 grdV v31 true (condV v1 (loadV tab 80 v5 H3 fun v35=>
 buildV tab 80 [(0,(AV.p (.int .i64 3)))] fun v36=>
 buildSliceV tab 30 2 [(0,v35),(1,v36)] H3 (wkK fun v37 H5=>
 K v37 H5))
 (fieldAddrV tab 80 v5 0 fun v39=>
 loadV tab 3 v39 H3 fun v40=>
 binV tab .eql 3 v40 (AV.p (.int .i64 2)) fun v41=>
 grdV v41 true (J90_2 K v1 v5 v17 v1 H3)
 (J90_1 K v1 v5 v17 v1 H3)))
 (fieldAddrV tab 80 v5 0 fun v39=>
 loadV tab 3 v39 H3 fun v40=>
 binV tab .eql 3 v40 (AV.p (.int .i64 2)) fun v41=>
 grdV v41 true (J90_2 K v1 v5 v17 v1 H3)
 (J90_1 K v1 v5 v17 v1 H3)))
theorem W90_wp (v0:AV) (v1:AV) (H:Heap) (K:AV→Heap→Prop):wpC Try.prog tab D90 (bodyOf Try.f90) (retF tab [.tmp 4] K) (nthA [v0,v1]) H=W90 v0 v1 H K:=by kernel_rfl
theorem W90_ok {v0 v1:AV} {H:Heap} {K:AV→Heap→Prop} (h:W90 v0 v1 H K):CallT Try.prog 90 [v0,v1] H K:=
  CallT.of_wp (D:=D90) tab_ok mixed Try.func90 (c:=bodyOf Try.f90) (by kernel_rfl) rfl (by kernel_rfl) (rs:=#[.tmp 4]) rfl (by decide +kernel) (by kernel_rfl) (W90_wp v0 v1 H K) h
theorem L90_0_rule {K:AV→Heap→Prop} {v1 v5 v7 v57 v58 v59:AV} {H:Heap} {σ:Type} (s0:σ) (f7:σ→AV) (f59:σ→AV) (TH:σ→Heap) (pre:σ→Prop) (μ:σ→Nat)
    (h0:pre s0∧AV.wk v7 (f7 s0)∧AV.wk v59 (f59 s0)∧Heap.le (TH s0) H)
    (round:∀s,pre s→B90_0 K (fun w7 w59 H'=>∃s',pre s'∧μ s' < μ s∧AV.wk w7 (f7 s')∧AV.wk w59 (f59 s')∧Heap.le (TH s') H') v1 v5 (f7 s) v57 v58 (f59 s) (TH s)) :
    L90_0 K v1 v5 v7 v57 v58 v59 H:=by
  unfold L90_0
  exact LoopV.mk s0 (fun s=>[f7 s,f59 s]) TH pre μ (fun _=>rfl) (Eq.mp (by kernel_rfl) h0) (fun s hs=>Eq.mp (by kernel_rfl) (round s hs))
def D91:Info:=⟨76,fun i=>if i=14 then ([[],[],[1],[],[0,1,2,3],[],[5],[0,1,2,3,4,5,6],[0,1,2,3,4,5,6,7]],[(0,[]),(1,[]),(2,[]),(3,[]),(5,[]),(4,[6,5]),(6,[6]),(7,[]),(8,[])]) else ([],[]),fun i=>([],[])⟩
def J91_0 (K:AV→Heap→Prop) (v0:AV) (v1:AV) (v2:AV) (v8:AV) (H:Heap):Prop:=
 binV tab .sub 3 v1 (AV.p (.int .i64 1)) fun v59=>
 CallT Try.prog 121 [v0,v59] H fun v60 H14=>
 binV tab .sub 3 v60 (AV.p (.int .i64 1)) fun v61=>
 CallT Try.prog 91 [v0,v61,v2] H14 fun v63 H15=>
 binV tab .sub 3 v1 (AV.p (.int .i64 1)) fun v67=>
 CallT Try.prog 91 [v0,v67,v2] H15 fun v69 H16=>
 appendV tab 30 30 v63 v69 H16 (wkK fun v70 H17=>
 buildV tab 80 [(0,v8)] fun v73=>
 buildSliceV tab 30 1 [(0,v73)] H17 (wkK fun v74 H18=>
 appendV tab 30 30 v70 v74 H18 (wkK fun v75 H19=>
 K v75 H19)))
def W91 (v0:AV) (v1:AV) (v2:AV) (H:Heap) (K:AV→Heap→Prop):Prop:=
 indexAddrV tab 30 v0 v1 fun v12=>
 loadV tab 80 v12 H fun v13=>
 allocV tab 80 H fun v7 H1=>
 storeV tab 80 v7 v13 H1 fun H2=>
 fieldAddrV tab 80 v7 0 fun v14=>
 loadV tab 3 v14 H2 fun v15=>
 binV tab .eql 3 v15 (AV.p (.int .i64 3)) fun v17=>
 condV v17 (binV tab .sub 3 v1 (AV.p (.int .i64 1)) fun v20=>
 unV .not v2 fun v22=>
 CallT Try.prog 91 [v0,v20,v22] H2 fun v23 H3=>
 K v23 H3)
 (binV tab .eql 3 v15 (AV.p (.int .i64 1)) fun v25=>
 condV v25 (condV v2 (loadV tab 80 v7 H2 fun v27=>
 buildV tab 80 [(0,(AV.p (.int .i64 3)))] fun v28=>
 buildSliceV tab 30 2 [(0,v27),(1,v28)] H2 (wkK fun v29 H4=>
 K v29 H4))
 (loadV tab 80 v7 H2 fun v30=>
 buildSliceV tab 30 1 [(0,v30)] H2 (wkK fun v31 H5=>
 K v31 H5)))
 (binV tab .eql 3 v15 (AV.p (.int .i64 2)) fun v33=>
 condV v33 (condV v2 (fieldAddrV tab 80 v7 1 fun v35=>
 loadV tab 3 v35 H2 fun v36=>
 binV tab .sub 3 (AV.p (.int .i64 1)) v36 fun v37=>
 fieldAddrV tab 80 v7 1 fun v38=>
 storeV tab 3 v38 v37 H2 fun H6=>
 loadV tab 80 v7 H6 fun v39=>
 buildSliceV tab 30 1 [(0,v39)] H6 (wkK fun v40 H8=>
 K v40 H8))
 (loadV tab 80 v7 H2 fun v39=>
 buildSliceV tab 30 1 [(0,v39)] H2 (wkK fun v40 H9=>
 K v40 H9)))
 (binV tab .eql 3 v15 (AV.p (.int .i64 4)) fun v42=>
 condV v42 (binV tab .sub 3 v1 (AV.p (.int .i64 1)) fun v45=>
 loadV tab 80 v7 H2 fun v48=>
 safeV (buildN tab 30 1 [(0,v48)])∧
 CallT Try.prog 91 [v0,v45,v2] H2 fun v47 H10=>
 (loadV tab 80 v7 H10 fun v9048=>
 v48=v9048)∧
 newV (buildN tab 30 1 [(0,v48)]) H10 fun v49 H11=>
 appendV tab 30 30 v47 v49 H11 (wkK fun v50 H12=>
 K v50 H12))
 (fieldAddrV tab 80 v7 0 fun v51=>
 loadV tab 3 v51 H2 fun v52=>
 condV v2 (CallT Try.prog 120 [v52] H2 fun v55 H13=>
 J91_0 K v0 v1 v2 v55 H13)
 (J91_0 K v0 v1 v2 v52 H2)))))
theorem W91_wp (v0:AV) (v1:AV) (v2:AV) (H:Heap) (K:AV→Heap→Prop):wpC Try.prog tab D91 (bodyOf Try.f91) (retF tab [.tmp 6] K) (nthA [v0,v1,v2]) H=W91 v0 v1 v2 H K:=by kernel_rfl
theorem W91_ok {v0 v1 v2:AV} {H:Heap} {K:AV→Heap→Prop} (h:W91 v0 v1 v2 H K):CallT Try.prog 91 [v0,v1,v2] H K:=
  CallT.of_wp (D:=D91) tab_ok mixed Try.func91 (c:=bodyOf Try.f91) (by kernel_rfl) rfl (by kernel_rfl) (rs:=#[.tmp 6]) rfl (by decide +kernel) (by kernel_rfl) (W91_wp v0 v1 v2 H K) h
def D92:Info:=⟨25,fun i=>([],[]),fun i=>if i=2 then ([0,5,6],[7]) else ([],[])⟩
def L92_0 (K:AV→Heap→Prop) (v0:AV) (v5:AV) (v6:AV) (v7:AV) (H:Heap):Prop:=LoopV (wpC Try.prog tab D92 (cAt [1,0,1,0,0] (bodyOf Try.f92))) [0,5,6] (PostF.block 0 (PostF.thenA (wpC Try.prog tab D92 (cAt [1,1] (bodyOf Try.f92))) (retF tab [.tmp 2] K))) [7] [v0,AV.any,AV.any,AV.any,AV.any,v5,v6,v7,AV.any,AV.any,AV.any,AV.any,AV.any,AV.any,AV.any,AV.any,AV.any,AV.any,AV.any,AV.any,AV.any,AV.any,AV.any,AV.any,AV.any] H
def B92_0 (K:AV→Heap→Prop) (N1:AV→Heap→Prop) (v0:AV) (v5:AV) (v6:AV) (v7:AV) (H:Heap):Prop:=
 binV tab .lss 3 v7 v6 fun v8=>
 condV v8 (indexAddrV tab 30 v5 v7 fun v10=>
 loadV tab 80 v10 H fun v11=>
 allocV tab 80 H fun v4 H1=>
 storeV tab 80 v4 v11 H1 fun H2=>
 fieldAddrV tab 80 v4 0 fun v12=>
 loadV tab 3 v12 H2 fun v13=>
 binV tab .eql 3 v13 (AV.p (.int .i64 3)) fun v14=>
 grdV v14 true (binV tab .sub 3 v7 (AV.p (.int .i64 1)) fun v18=>
 indexAddrV tab 30 v0 v18 fun v19=>
 fieldAddrV tab 80 v19 0 fun v20=>
 loadV tab 3 v20 H2 fun v21=>
 binV tab .neq 3 v21 (AV.p (.int .i64 1)) fun v22=>
 condV v22 (K (AV.p (.bool false)) H2)
 (binV tab .add 3 v7 (AV.p (.int .i64 1)) fun v24=>
 N1 v24 H2))
 (binV tab .add 3 v7 (AV.p (.int .i64 1)) fun v24=>
 N1 v24 H2))
 (K (AV.p (.bool true)) H)
def W92 (v0:AV) (H:Heap) (K:AV→Heap→Prop):Prop:=
 lenV tab 30 v0 fun v6=>
 L92_0 K v0 v0 v6 (AV.p (.int .i64 0)) H
theorem W92_wp (v0:AV) (H:Heap) (K:AV→Heap→Prop):wpC Try.prog tab D92 (bodyOf Try.f92) (retF tab [.tmp 2] K) (nthA [v0]) H=W92 v0 H K:=by kernel_rfl
theorem W92_ok {v0:AV} {H:Heap} {K:AV→Heap→Prop} (h:W92 v0 H K):CallT Try.prog 92 [v0] H K:=
  CallT.of_wp (D:=D92) tab_ok mixed Try.func92 (c:=bodyOf Try.f92) (by kernel_rfl) rfl (by kernel_rfl) (rs:=#[.tmp 2]) rfl (by decide +kernel) (by kernel_rfl) (W92_wp v0 H K) h
theorem L92_0_rule {K:AV→Heap→Prop} {v0 v5 v6 v7:AV} {H:Heap} {σ:Type} (s0:σ) (f7:σ→AV) (TH:σ→Heap) (pre:σ→Prop) (μ:σ→Nat)
    (h0:pre s0∧AV.wk v7 (f7 s0)∧Heap.le (TH s0) H)
    (round:∀s,pre s→B92_0 K (fun w7 H'=>∃s',pre s'∧μ s' < μ s∧AV.wk w7 (f7 s')∧Heap.le (TH s') H') v0 v5 v6 (f7 s) (TH s)) :
    L92_0 K v0 v5 v6 v7 H:=by
  unfold L92_0
  exact LoopV.mk s0 (fun s=>[f7 s]) TH pre μ (fun _=>rfl) (Eq.mp (by kernel_rfl) h0) (fun s hs=>Eq.mp (by kernel_rfl) (round s hs))
def D93:Info:=⟨26,fun i=>([],[]),fun i=>if i=3 then ([7,8],[3,9]) else ([],[])⟩
def L93_0 (K:AV→Heap→Prop) (v3:AV) (v7:AV) (v8:AV) (v9:AV) (H:Heap):Prop:=LoopV (wpC Try.prog tab D93 (cAt [1,1,0,1,0,0] (bodyOf Try.f93))) [7,8] (PostF.block 0 (PostF.thenA (wpC Try.prog tab D93 (cAt [1,1,1] (bodyOf Try.f93))) (retF tab [.tmp 2] K))) [3,9] [AV.any,AV.any,AV.any,v3,AV.any,AV.any,AV.any,v7,v8,v9,AV.any,AV.any,AV.any,AV.any,AV.any,AV.any,AV.any,AV.any,AV.any,AV.any,AV.any,AV.any,AV.any,AV.any,AV.any,AV.any] H
def B93_0 (K:AV→Heap→Prop) (N1:AV→AV→Heap→Prop) (v3:AV) (v7:AV) (v8:AV) (v9:AV) (H:Heap):Prop:=
 binV tab .lss 3 v9 v8 fun v10=>
 condV v10 (indexAddrV tab 30 v7 v9 fun v11=>
 loadV tab 80 v11 H fun v12=>
 allocV tab 80 H fun v5 H2=>
 storeV tab 80 v5 v12 H2 fun H3=>
 fieldAddrV tab 80 v5 0 fun v13=>
 loadV tab 3 v13 H3 fun v14=>
 binV tab .eql 3 v14 (AV.p (.int .i64 1)) fun v15=>
 condV v15 (fieldAddrV tab 80 v5 1 fun v17=>
 loadV tab 3 v17 H3 fun v18=>
 buildSliceV tab 23 1 [(0,v18)] H3 (wkK fun v19 H4=>
 appendV tab 23 23 v3 v19 H4 (wkK fun v20 H5=>
 binV tab .add 3 v9 (AV.p (.int .i64 1)) fun v21=>
 N1 v20 v21 H5)))
 (binV tab .add 3 v9 (AV.p (.int .i64 1)) fun v21=>
 N1 v3 v21 H3))
 (CallT Try.prog 105 [v3] H fun v23 H6=>
 CallT Try.prog 106 [v3] H6 fun v25 H7=>
 K v25 H7)
def W93 (v0:AV) (H:Heap) (K:AV→Heap→Prop):Prop:=
 buildSliceV tab 23 0 [] H (wkK fun v6 H1=>
 lenV tab 30 v0 fun v8=>
 L93_0 K v6 v0 v8 (AV.p (.int .i64 0)) H1)
theorem W93_wp (v0:AV) (H:Heap) (K:AV→Heap→Prop):wpC Try.prog tab D93 (bodyOf Try.f93) (retF tab [.tmp 2] K) (nthA [v0]) H=W93 v0 H K:=by kernel_rfl
theorem W93_ok {v0:AV} {H:Heap} {K:AV→Heap→Prop} (h:W93 v0 H K):CallT Try.prog 93 [v0] H K:=
  CallT.of_wp (D:=D93) tab_ok mixed Try.func93 (c:=bodyOf Try.f93) (by kernel_rfl) rfl (by kernel_rfl) (rs:=#[.tmp 2]) rfl (by decide +kernel) (by kernel_rfl) (W93_wp v0 H K) h
theorem L93_0_rule {K:AV→Heap→Prop} {v3 v7 v8 v9:AV} {H:Heap} {σ:Type} (s0:σ) (f3:σ→AV) (f9:σ→AV) (TH:σ→Heap) (pre:σ→Prop) (μ:σ→Nat)
    (h0:pre s0∧AV.wk v3 (f3 s0)∧AV.wk v9 (f9 s0)∧Heap.le (TH s0) H)
    (round:∀s,pre s→B93_0 K (fun w3 w9 H'=>∃s',pre s'∧μ s' < μ s∧AV.wk w3 (f3 s')∧AV.wk w9 (f9 s')∧Heap.le (TH s') H') (f3 s) v7 v8 (f9 s) (TH s)) :
    L93_0 K v3 v7 v8 v9 H:=by
  unfold L93_0
  exact LoopV.mk s0 (fun s=>[f3 s,f9 s]) TH pre μ (fun _=>rfl) (Eq.mp (by kernel_rfl) h0) (fun s hs=>Eq.mp (by kernel_rfl) (round s hs))
def D94:Info:=⟨9,fun i=>([],[]),fun i=>([],[])⟩
def W94 (v0:AV) (v1:AV) (H:Heap) (K:AV→Heap→Prop):Prop:=
 CallT Try.prog 67 [v0,v1] H fun v7 H1=>
 binV tab .eql 3 v7 (AV.p (.int .i64 0)) fun v8=>
 K v8 H1
theorem W94_wp (v0:AV) (v1:AV) (H:Heap) (K:AV→Heap→Prop):wpC Try.prog tab D94 (bodyOf Try.f94) (retF tab [.tmp 4] K) (nthA [v0,v1]) H=W94 v0 v1 H K:=by kernel_rfl
theorem W94_ok {v0 v1:AV} {H:Heap} {K:AV→Heap→Prop} (h:W94 v0 v1 H K):CallT Try.prog 94 [v0,v1] H K:=
  CallT.of_wp (D:=D94) tab_ok mixed Try.func94 (c:=bodyOf Try.f94) (by kernel_rfl) rfl (by kernel_rfl) (rs:=#[.tmp 4]) rfl (by decide +kernel) (by kernel_rfl) (W94_wp v0 v1 H K) h
def D101:Info:=⟨108,fun i=>([],[]),fun i=>([],[])⟩
def W101 (v0:AV) (v1:AV) (v2:AV) (v3:AV) (v4:AV) (v5:AV) (v6:AV) (H:Heap) (K:AV→Heap→Prop):Prop:=
 indexAddrV tab 30 v0 v2 fun v20=>
 loadV tab 80 v20 H fun v21=>
 allocV tab 80 H fun v15 H1=>
 storeV tab 80 v15 v21 H1 fun H2=>
 fieldAddrV tab 80 v15 0 fun v22=>
 loadV tab 3 v22 H2 fun v23=>
 binV tab .eql 3 v23 (AV.p (.int .i64 1)) fun v25=>
 condV v25 (fieldAddrV tab 80 v15 1 fun v27=>
 loadV tab 3 v27 H2 fun v28=>
 convV tab 3 77 v28 fun v29=>
 binV tab .shr 3 v3 v29 fun v30=>
 binV tab .and 3 v30 (AV.p (.int .i64 1)) fun v31=>
 binV tab .eql 3 v31 (AV.p (.int .i64 1)) fun v32=>
 K v32 H2)
 (binV tab .eql 3 v23 (AV.p (.int .i64 2)) fun v34=>
 condV v34 (fieldAddrV tab 80 v15 1 fun v35=>
 loadV tab 3 v35 H2 fun v36=>
 binV tab .eql 3 v36 (AV.p (.int .i64 1)) fun v37=>
 K v37 H2)
 (binV tab .eql 3 v23 (AV.p (.int .i64 3)) fun v39=>
 condV v39 (binV tab .sub 3 v2 (AV.p (.int .i64 1)) fun v42=>
 indexAddrV tab 71 v1 v42 fun v43=>
 loadV tab 76 v43 H2 fun v44=>
 indexAddrV tab 76 v44 v4 fun v46=>
 loadV tab 4 v46 H2 fun v47=>
 unV .not v47 fun v48=>
 K v48 H2)
 (binV tab .eql 3 v23 (AV.p (.int .i64 4)) fun v50=>
 condV v50 (binV tab .sub 3 v2 (AV.p (.int .i64 1)) fun v53=>
 indexAddrV tab 71 v1 v53 fun v54=>
 loadV tab 76 v54 H2 fun v55=>
 indexAddrV tab 76 v55 v5 fun v57=>
 loadV tab 4 v57 H2 fun v58=>
 K v58 H2)
 (binV tab .sub 3 v2 (AV.p (.int .i64 1)) fun v62=>
 CallT Try.prog 121 [v0,v62] H2 fun v63 H3=>
 binV tab .sub 3 v63 (AV.p (.int .i64 1)) fun v64=>
 indexAddrV tab 71 v1 v64 fun v65=>
 loadV tab 76 v65 H3 fun v66=>
 indexAddrV tab 76 v66 v4 fun v68=>
 loadV tab 4 v68 H3 fun v69=>
 binV tab .sub 3 v2 (AV.p (.int .i64 1)) fun v72=>
 indexAddrV tab 71 v1 v72 fun v73=>
 loadV tab 76 v73 H3 fun v74=>
 indexAddrV tab 76 v74 v4 fun v76=>
 loadV tab 4 v76 H3 fun v77=>
 fieldAddrV tab 80 v15 0 fun v78=>
 loadV tab 3 v78 H3 fun v79=>
 binV tab .eql 3 v79 (AV.p (.int .i64 5)) fun v81=>
 condV v81 (grdV v69 true (K v77 H3)
 (K (AV.p (.bool false)) H3))
 (binV tab .eql 3 v79 (AV.p (.int .i64 6)) fun v87=>
 condV v87 (grdV v69 false (K v77 H3)
 (K (AV.p (.bool true)) H3))
 (binV tab .eql 3 v79 (AV.p (.int .i64 7)) fun v93=>
 condV v93 (grdV v77 false (grdV v69 true (K v6 H3)
 (K (AV.p (.bool false)) H3))
 (K (AV.p (.bool true)) H3))
 (grdV v77 true (grdV v69 false (K v6 H3)
 (K (AV.p (.bool true)) H3))
 (K (AV.p (.bool false)) H3))))))))
theorem W101_wp (v0:AV) (v1:AV) (v2:AV) (v3:AV) (v4:AV) (v5:AV) (v6:AV) (H:Heap) (K:AV→Heap→Prop):wpC Try.prog tab D101 (bodyOf Try.f101) (retF tab [.tmp 14] K) (nthA [v0,v1,v2,v3,v4,v5,v6]) H=W101 v0 v1 v2 v3 v4 v5 v6 H K:=by kernel_rfl
theorem W101_ok {v0 v1 v2 v3 v4 v5 v6:AV} {H:Heap} {K:AV→Heap→Prop} (h:W101 v0 v1 v2 v3 v4 v5 v6 H K):CallT Try.prog 101 [v0,v1,v2,v3,v4,v5,v6] H K:=
  CallT.of_wp (D:=D101) tab_ok mixed Try.func101 (c:=bodyOf Try.f101) (by kernel_rfl) rfl (by kernel_rfl) (rs:=#[.tmp 14]) rfl (by decide +kernel) (by kernel_rfl) (W101_wp v0 v1 v2 v3 v4 v5 v6 H K) h
def D102:Info:=⟨28,fun i=>if i=3 then ([[],[0],[],[],[3],[3,4],[2,3,4,5],[],[7],[7,8],[2,3,4,5,6,7,8,9],[0,1,2,3,4,5,6,7,8,9,10],[0,1,2,3,4,5,6,7,8,9,10,11],[0,1,2,3,4,5,6,7,8,9,10,11,12]],[(0,[]),(1,[]),(2,[]),(3,[]),(4,[]),(5,[]),(6,[]),(7,[]),(8,[]),(9,[]),(10,[]),(11,[]),(12,[]),(13,[])]) else ([],[]),fun i=>([],[])⟩
def W102 (v0:AV) (v1:AV) (H:Heap) (K:AV→Heap→Prop):Prop:=
 boxV v0 H fun v2 H1=>
 fieldAddrV tab 32 v2 0 fun v6=>
 loadV tab 23 v6 H1 fun v7=>
 lenV tab 23 v7 fun v8=>
 binV tab .lss 3 v1 v8 fun v9=>
 condV v9 (fieldAddrV tab 32 v2 0 fun v10=>
 loadV tab 23 v10 H1 fun v11=>
 indexAddrV tab 23 v11 v1 fun v13=>
 loadV tab 3 v13 H1 fun v14=>
 K v14 H1)
 (fieldAddrV tab 32 v2 1 fun v15=>
 loadV tab 23 v15 H1 fun v16=>
 fieldAddrV tab 32 v2 0 fun v18=>
 loadV tab 23 v18 H1 fun v19=>
 lenV tab 23 v19 fun v20=>
 binV tab .sub 3 v1 v20 fun v21=>
 fieldAddrV tab 32 v2 1 fun v22=>
 loadV tab 23 v22 H1 fun v23=>
 lenV tab 23 v23 fun v24=>
 binV tab .rem 3 v21 v24 fun v25=>
 indexAddrV tab 23 v16 v25 fun v26=>
 loadV tab 3 v26 H1 fun v27=>
 K v27 H1)
theorem W102_wp (v0:AV) (v1:AV) (H:Heap) (K:AV→Heap→Prop):wpC Try.prog tab D102 (bodyOf Try.f102) (retF tab [.tmp 4] K) (nthA [v0,v1]) H=W102 v0 v1 H K:=by kernel_rfl
theorem W102_ok {v0 v1:AV} {H:Heap} {K:AV→Heap→Prop} (h:W102 v0 v1 H K):CallT Try.prog 102 [v0,v1] H K:=
  CallT.of_wp (D:=D102) tab_ok mixed Try.func102 (c:=bodyOf Try.f102) (by kernel_rfl) rfl (by kernel_rfl) (rs:=#[.tmp 4]) rfl (by decide +kernel) (by kernel_rfl) (W102_wp v0 v1 H K) h
def D103:Info:=⟨6,fun i=>([],[]),fun i=>([],[])⟩
def W103 (v0:AV) (H:Heap) (K:AV→Heap→Prop):Prop:=
 CallT Try.prog 124 [v0,(.fn 125 [])] H fun v4 H1=>
 unV .not v4 fun v5=>
 K v5 H1
theorem W103_wp (v0:AV) (H:Heap) (K:AV→Heap→Prop):wpC Try.prog tab D103 (bodyOf Try.f103) (retF tab [.tmp 2] K) (nthA [v0]) H=W103 v0 H K:=by kernel_rfl
theorem W103_ok {v0:AV} {H:Heap} {K:AV→Heap→Prop} (h:W103 v0 H K):CallT Try.prog 103 [v0] H K:=
  CallT.of_wp (D:=D103) tab_ok mixed Try.func103 (c:=bodyOf Try.f103) (by kernel_rfl) rfl (by kernel_rfl) (rs:=#[.tmp 2]) rfl (by decide +kernel) (by kernel_rfl) (W103_wp v0 H K) h
def D107:Info:=⟨91,fun i=>if i=14 then ([[],[],[0,1],[],[3],[0,1,2,3,4],[0,1,2,3,4,5],[0,1,2,3,4,5,6],[0,1,2,3,4,5,6,7]],[(0,[]),(1,[]),(3,[]),(4,[]),(2,[4]),(5,[]),(6,[]),(7,[]),(8,[])]) else if i=18 then ([[],[],[],[1,2],[0,1,2,3],[0,1,2,3,4]],[(0,[]),(1,[]),(2,[]),(3,[0]),(4,[]),(5,[])]) else ([],[]),fun i=>if i=9 then ([3,4,7,8,33],[9,34]) else ([],[])⟩
def L107_0 (K:AV→Heap→Prop) (v3:AV) (v4:AV) (v7:AV) (v8:AV) (v9:AV) (v33:AV) (v34:AV) (H:Heap):Prop:=LoopV (wpC Try.prog tab D107 (cAt [1,1,1,1,0,1,0,0] (bodyOf Try.f107))) [3,4,7,8,33] (PostF.block 1 (PostF.thenA (wpC Try.prog tab D107 (cAt [1,1,1,1,1] (bodyOf Try.f107))) (retF tab [.tmp 6] K))) [9,34] [AV.any,AV.any,AV.any,v3,v4,AV.any,AV.any,v7,v8,v9,AV.any,AV.any,AV.any,AV.any,AV.any,AV.any,AV.any,AV.any,AV.any,AV.any,AV.any,AV.any,AV.any,AV.any,AV.any,AV.any,AV.any,AV.any,AV.any,AV.any,AV.any,AV.any,AV.any,v33,v34,AV.any,AV.any,AV.any,AV.any,AV.any,AV.any,AV.any,AV.any,AV.any,AV.any,AV.any,AV.any,AV.any,AV.any,AV.any,AV.any,AV.any,AV.any,AV.any,AV.any,AV.any,AV.any,AV.any,AV.any,AV.any,AV.any,AV.any,AV.any,AV.any,AV.any,AV.any,AV.any,AV.any,AV.any,AV.any,AV.any,AV.any,AV.any,AV.any,AV.any,AV.any,AV.any,AV.any,AV.any,AV.any,AV.any,AV.any,AV.any,AV.any,AV.any,AV.any,AV.any,AV.any,AV.any,AV.any,AV.any] H
def J107_1 (K:AV→Heap→Prop) (N1:AV→AV→Heap→Prop) (v3:AV) (v4:AV) (v7:AV) (v8:AV) (v9:AV) (v11:AV) (v33:AV) (v34:AV) (H:Heap):Prop:=
 buildSliceV tab 76 1 [(0,v11)] H (wkK fun v87 H12=>
 appendV tab 76 76 v9 v87 H12 (wkK fun v88 H13=>
 binV tab .add 3 v34 (AV.p (.int .i64 1)) fun v89=>
 N1 v88 v89 H13))
def B107_0 (K:AV→Heap→Prop) (N1:AV→AV→Heap→Prop) (v3:AV) (v4:AV) (v7:AV) (v8:AV) (v9:AV) (v33:AV) (v34:AV) (H:Heap):Prop:=
 binV tab .lss 3 v34 v33 fun v35=>
 condV v35 (fieldAddrV tab 80 v4 1 fun v37=>
 loadV tab 3 v37 H fun v38=>
 binV tab .eql 3 v38 (AV.p (.int .i64 1)) fun v39=>
 fieldAddrV tab 80 v4 0 fun v40=>
 loadV tab 3 v40 H fun v41=>
 binV tab .eql 3 v41 (AV.p (.int .i64 1)) fun v43=>
 condV v43 (loadV tab 32 v3 H fun v44=>
 fieldAddrV tab 80 v4 1 fun v47=>
 loadV tab 3 v47 H fun v48=>
 CallT Try.prog 117 [v44,v34] H fun v46 H11=>
 (loadV tab 3 v47 H11 fun v9048=>
 v48=v9048)∧
 binV tab .shr 3 v46 v48 fun v49=>
 binV tab .and 3 v49 (AV.p (.int .i64 1)) fun v50=>
 binV tab .eql 3 v50 (AV.p (.int .i64 1)) fun v51=>
 J107_1 K N1 v3 v4 v7 v8 v9 v51 v33 v34 H11)
 (binV tab .eql 3 v41 (AV.p (.int .i64 3)) fun v53=>
 condV v53 (loadV tab 98 v7 H fun v54=>
 callF Try.prog v54 [v34] H fun v56 H14=>
 unV .not v56 fun v57=>
 J107_1 K N1 v3 v4 v7 v8 v9 v57 v33 v34 H14)
 (binV tab .eql 3 v41 (AV.p (.int .i64 4)) fun v59=>
 condV v59 (loadV tab 98 v7 H fun v60=>
 loadV tab 32 v3 H fun v61=>
 CallT Try.prog 133 [v61,v34] H fun v63 H15=>
 (loadV tab 98 v7 H15 fun v9060=>
 v60=v9060)∧
 callF Try.prog v60 [v63] H15 fun v64 H16=>
 J107_1 K N1 v3 v4 v7 v8 v9 v64 v33 v34 H16)
 (binV tab .eql 3 v41 (AV.p (.int .i64 5)) fun v66=>
 condV v66 (loadV tab 98 v7 H fun v67=>
 callF Try.prog v67 [v34] H fun v69 H17=>
 grdV v69 true (loadV tab 98 v8 H17 fun v71=>
 callF Try.prog v71 [v34] H17 fun v73 H18=>
 J107_1 K N1 v3 v4 v7 v8 v9 v73 v33 v34 H18)
 (buildSliceV tab 76 1 [(0,(AV.p (.bool false)))] H17 (wkK fun v87 H19=>
 appendV tab 76 76 v9 v87 H19 (wkK fun v88 H20=>
 binV tab .add 3 v34 (AV.p (.int .i64 1)) fun v89=>
 N1 v88 v89 H20))))
 (binV tab .eql 3 v41 (AV.p (.int .i64 6)) fun v76=>
 condV v76 (loadV tab 98 v7 H fun v77=>
 callF Try.prog v77 [v34] H fun v79 H21=>
 grdV v79 false (loadV tab 98 v8 H21 fun v81=>
 callF Try.prog v81 [v34] H21 fun v83 H22=>
 J107_1 K N1 v3 v4 v7 v8 v9 v83 v33 v34 H22)
 (buildSliceV tab 76 1 [(0,(AV.p (.bool true)))] H21 (wkK fun v87 H23=>
 appendV tab 76 76 v9 v87 H23 (wkK fun v88 H24=>
 binV tab .add 3 v34 (AV.p (.int .i64 1)) fun v89=>
 N1 v88 v89 H24))))
 (J107_1 K N1 v3 v4 v7 v8 v9 v39 v33 v34 H))))))
 (K v9 H)
def W107 (v0:AV) (v1:AV) (v2:AV) (H:Heap) (K:AV→Heap→Prop):Prop:=
 boxV v0 H fun v3 H1=>
 boxV v1 H1 fun v4 H2=>
 boxV v2 H2 fun v5 H3=>
 allocV tab 98 H3 fun v7 H4=>
 allocV tab 98 H4 fun v8 H5=>
 storeV tab 98 v7 (.fn 128 [v5]) H5 fun H6=>
 storeV tab 98 v8 (.fn 129 [v5]) H6 fun H7=>
 fieldAddrV tab 80 v4 0 fun v14=>
 loadV tab 3 v14 H7 fun v15=>
 binV tab .eql 3 v15 (AV.p (.int .i64 7)) fun v17=>
 condV v17 (loadV tab 32 v3 H7 fun v18=>
 CallT Try.prog 130 [v18,(AV.p (.bool false)),(.fn 131 [v8,v7])] H7 fun v20 H8=>
 K v20 H8)
 (binV tab .eql 3 v15 (AV.p (.int .i64 8)) fun v22=>
 condV v22 (loadV tab 32 v3 H7 fun v23=>
 CallT Try.prog 130 [v23,(AV.p (.bool true)),(.fn 132 [v8,v7])] H7 fun v25 H9=>
 K v25 H9)
 (buildSliceV tab 76 0 [] H7 (wkK fun v26 H10=>
 fieldAddrV tab 32 v3 0 fun v27=>
 loadV tab 23 v27 H10 fun v28=>
 lenV tab 23 v28 fun v29=>
 fieldAddrV tab 32 v3 1 fun v30=>
 loadV tab 23 v30 H10 fun v31=>
 lenV tab 23 v31 fun v32=>
 binV tab .add 3 v29 v32 fun v33=>
 L107_0 K v3 v4 v7 v8 v26 v33 (AV.p (.int .i64 0)) H10)))
theorem W107_wp (v0:AV) (v1:AV) (v2:AV) (H:Heap) (K:AV→Heap→Prop):wpC Try.prog tab D107 (bodyOf Try.f107) (retF tab [.tmp 6] K) (nthA [v0,v1,v2]) H=W107 v0 v1 v2 H K:=by kernel_rfl
theorem W107_ok {v0 v1 v2:AV} {H:Heap} {K:AV→Heap→Prop} (h:W107 v0 v1 v2 H K):CallT Try.prog 107 [v0,v1,v2] H K:=
  CallT.of_wp (D:=D107) tab_ok mixed Try.func107 (c:=bodyOf Try.f107) (by kernel_rfl) rfl (by kernel_rfl) (rs:=#[.tmp 6]) rfl (by decide +kernel) (by kernel_rfl) (W107_wp v0 v1 v2 H K) h
theorem L107_0_rule {K:AV→Heap→Prop} {v3 v4 v7 v8 v9 v33 v34:AV} {H:Heap} {σ:Type} (s0:σ) (f9:σ→AV) (f34:σ→AV) (TH:σ→Heap) (pre:σ→Prop) (μ:σ→Nat)
    (h0:pre s0∧AV.wk v9 (f9 s0)∧AV.wk v34 (f34 s0)∧Heap.le (TH s0) H)
    (round:∀s,pre s→B107_0 K (fun w9 w34 H'=>∃s',pre s'∧μ s' < μ s∧AV.wk w9 (f9 s')∧AV.wk w34 (f34 s')∧Heap.le (TH s') H') v3 v4 v7 v8 (f9 s) v33 (f34 s) (TH s)) :
    L107_0 K v3 v4 v7 v8 v9 v33 v34 H:=by
  unfold L107_0
  exact LoopV.mk s0 (fun s=>[f9 s,f34 s]) TH pre μ (fun _=>rfl) (Eq.mp (by kernel_rfl) h0) (fun s hs=>Eq.mp (by kernel_rfl) (round s hs))
def D108:Info:=⟨8,fun i=>([],[]),fun i=>([],[])⟩
def W108 (v0:AV) (H:Heap) (K:AV→Heap→Prop):Prop:=
 binV tab .eql 71 v0 (AV.p .nil) fun v4=>
 condV v4 (K (AV.p .nil) H)
 (buildSliceV tab 71 0 [] H (wkK fun v5 H1=>
 appendV tab 71 71 v5 v0 H1 (wkK fun v7 H2=>
 K v7 H2)))
theorem W108_wp (v0:AV) (H:Heap) (K:AV→Heap→Prop):wpC Try.prog tab D108 (bodyOf Try.f108) (retF tab [.tmp 2] K) (nthA [v0]) H=W108 v0 H K:=by kernel_rfl
theorem W108_ok {v0:AV} {H:Heap} {K:AV→Heap→Prop} (h:W108 v0 H K):CallT Try.prog 108 [v0] H K:=
  CallT.of_wp (D:=D108) tab_ok mixed Try.func108 (c:=bodyOf Try.f108) (by kernel_rfl) rfl (by kernel_rfl) (rs:=#[.tmp 2]) rfl (by decide +kernel) (by kernel_rfl) (W108_wp v0 H K) h
def D109:Info:=⟨62,fun i=>if i=2 then ([[],[0],[0,1],[0,1,2],[],[4],[4,5],[4,5,6],[4,5,6,7],[0,1,2,3,4,5,6,7,8]],[(0,[]),(1,[]),(2,[]),(3,[]),(4,[]),(5,[]),(6,[]),(7,[]),(8,[]),(9,[])]) else if i=3 then ([[],[0],[0,1],[0,1,2],[],[4],[4,5],[4,5,6],[0,1,2,3,4,5,6,7],[0,1,2,3,4,5,6,7,8],[0,1,2,3,4,5,6,7,8,9],[0,1,2,3,4,5,6,7,8,9,10]],[(0,[]),(1,[]),(2,[]),(3,[]),(4,[]),(5,[]),(6,[]),(7,[]),(8,[]),(9,[]),(10,[]),(11,[])]) else if i=6 then ([[],[0],[0,1],[0,1,2],[],[4],[4,5],[4,5,6],[4,5,6,7],[0,1,2,3,4,5,6,7,8]],[(0,[]),(1,[]),(2,[]),(3,[]),(4,[]),(5,[]),(6,[]),(7,[]),(8,[]),(9,[])]) else ([],[]),fun i=>([],[])⟩
def J109_0 (K:AV→Heap→Prop) (v0:AV) (v3:AV) (H:Heap):Prop:=
 nilCheckV v0 fun v26=>
 fieldAddrV tab 88 v26 1 fun v27=>
 loadV tab 3 v27 H fun v28=>
 binV tab .add 3 v28 (AV.p (.int .i64 1)) fun v29=>
 nilCheckV v0 fun v30=>
 fieldAddrV tab 88 v30 1 fun v31=>
 storeV tab 3 v31 v29 H fun H1=>
 nilCheckV v0 fun v34=>
 fieldAddrV tab 88 v34 2 fun v35=>
 loadV tab 74 v35 H1 fun v36=>
 binV tab .mul 74 v36 (AV.p (.int .u64 6364136223846793005)) fun v37=>
 convV tab 3 74 v3 fun v39=>
 binV tab .add 74 v37 v39 fun v40=>
 binV tab .add 74 v40 (AV.p (.int .u64 1442695040888963407)) fun v41=>
 nilCheckV v0 fun v42=>
 fieldAddrV tab 88 v42 2 fun v43=>
 storeV tab 74 v43 v41 H1 fun H2=>
 nilCheckV v0 fun v45=>
 fieldAddrV tab 88 v45 1 fun v46=>
 loadV tab 3 v46 H2 fun v47=>
 nilCheckV v0 fun v49=>
 fieldAddrV tab 88 v49 0 fun v50=>
 loadV tab 41 v50 H2 fun v51=>
 lenV tab 41 v51 fun v52=>
 binV tab .leq 3 v47 v52 fun v53=>
 condV v53 (K v3 H2)
 (nilCheckV v0 fun v56=>
 fieldAddrV tab 88 v56 2 fun v57=>
 loadV tab 74 v57 H2 fun v58=>
 binV tab .shr 74 v58 (AV.p (.int .u64 40)) fun v59=>
 binV tab .and 74 v59 (AV.p (.int .u64 255)) fun v60=>
 convV tab 74 3 v60 fun v61=>
 K v61 H2)
def W109 (v0:AV) (H:Heap) (K:AV→Heap→Prop):Prop:=
 nilCheckV v0 fun v5=>
 fieldAddrV tab 88 v5 1 fun v6=>
 loadV tab 3 v6 H fun v7=>
 nilCheckV v0 fun v9=>
 fieldAddrV tab 88 v9 0 fun v10=>
 loadV tab 41 v10 H fun v11=>
 lenV tab 41 v11 fun v12=>
 binV tab .lss 3 v7 v12 fun v13=>
 condV v13 (nilCheckV v0 fun v15=>
 fieldAddrV tab 88 v15 0 fun v16=>
 loadV tab 41 v16 H fun v17=>
 nilCheckV v0 fun v19=>
 fieldAddrV tab 88 v19 1 fun v20=>
 loadV tab 3 v20 H fun v21=>
 indexAddrV tab 41 v17 v21 fun v22=>
 loadV tab 5 v22 H fun v23=>
 convV tab 5 3 v23 fun v24=>
 J109_0 K v0 v24 H)
 (J109_0 K v0 (AV.p (.int .i64 0)) H)
theorem W109_wp (v0:AV) (H:Heap) (K:AV→Heap→Prop):wpC Try.prog tab D109 (bodyOf Try.f109) (retF tab [.tmp 2] K) (nthA [v0]) H=W109 v0 H K:=by kernel_rfl
theorem W109_ok {v0:AV} {H:Heap} {K:AV→Heap→Prop} (h:W109 v0 H K):CallT Try.prog 109 [v0] H K:=
  CallT.of_wp (D:=D109) tab_ok mixed Try.func109 (c:=bodyOf Try.f109) (by kernel_rfl) rfl (by kernel_rfl) (rs:=#[.tmp 2]) rfl (by decide +kernel) (by kernel_rfl) (W109_wp v0 H K) h
def D111:Info:=⟨16,fun i=>([],[]),fun i=>if i=2 then ([0],[1,5]) else ([],[])⟩
def L111_0 (K:AV→Heap→Prop) (v0:AV) (v1:AV) (v5:AV) (H:Heap):Prop:=LoopV (wpC Try.prog tab D111 (cAt [1,1,0,0,0] (bodyOf Try.f111))) [0] (PostF.block 0 (PostF.thenA (wpC Try.prog tab D111 (cAt [1,1,1] (bodyOf Try.f111))) (retF tab [.tmp 4] K))) [1,5] [v0,v1,AV.any,AV.any,AV.any,v5,AV.any,AV.any,AV.any,AV.any,AV.any,AV.any,AV.any,AV.any,AV.any,AV.any] H
def B111_0 (K:AV→Heap→Prop) (N1:AV→AV→Heap→Prop) (v0:AV) (v1:AV) (v5:AV) (H:Heap):Prop:=
 binV tab .gtr 3 v1 (AV.p (.int .i64 0)) fun v7=>
 condV v7 (CallT Try.prog 67 [v0,(AV.p (.int .i64 8))] H fun v12 H1=>
 buildSliceV tab 23 1 [(0,v12)] H1 (wkK fun v13 H2=>
 appendV tab 23 23 v5 v13 H2 (wkK fun v14 H3=>
 binV tab .sub 3 v1 (AV.p (.int .i64 1)) fun v9=>
 N1 v9 v14 H3)))
 (K v5 H)
def W111 (v0:AV) (v1:AV) (H:Heap) (K:AV→Heap→Prop):Prop:=
 L111_0 K v0 v1 (AV.p .nil) H
theorem W111_wp (v0:AV) (v1:AV) (H:Heap) (K:AV→Heap→Prop):wpC Try.prog tab D111 (bodyOf Try.f111) (retF tab [.tmp 4] K) (nthA [v0,v1]) H=W111 v0 v1 H K:=by kernel_rfl
theorem W111_ok {v0 v1:AV} {H:Heap} {K:AV→Heap→Prop} (h:W111 v0 v1 H K):CallT Try.prog 111 [v0,v1] H K:=
  CallT.of_wp (D:=D111) tab_ok mixed Try.func111 (c:=bodyOf Try.f111) (by kernel_rfl) rfl (by kernel_rfl) (rs:=#[.tmp 4]) rfl (by decide +kernel) (by kernel_rfl) (W111_wp v0 v1 H K) h
theorem W111_hb:HasBody Try.prog 111:=⟨_,bodyOf Try.f111,Try.func111,by kernel_rfl,rfl⟩
theorem L111_0_rule {K:AV→Heap→Prop} {v0 v1 v5:AV} {H:Heap} {σ:Type} (s0:σ) (f1:σ→AV) (f5:σ→AV) (TH:σ→Heap) (pre:σ→Prop) (μ:σ→Nat)
    (h0:pre s0∧AV.wk v1 (f1 s0)∧AV.wk v5 (f5 s0)∧Heap.le (TH s0) H)
    (round:∀s,pre s→B111_0 K (fun w1 w5 H'=>∃s',pre s'∧μ s' < μ s∧AV.wk w1 (f1 s')∧AV.wk w5 (f5 s')∧Heap.le (TH s') H') v0 (f1 s) (f5 s) (TH s)) :
    L111_0 K v0 v1 v5 H:=by
  unfold L111_0
  exact LoopV.mk s0 (fun s=>[f1 s,f5 s]) TH pre μ (fun _=>rfl) (Eq.mp (by kernel_rfl) h0) (fun s hs=>Eq.mp (by kernel_rfl) (round s hs))
end Go.Proofs.Ytjdhigcefkihiaa
namespace Go.Proofs.Ytjdhigcefkihiaa
open Go Go.Sep
attribute [local irreducible] wpC headF
def D112:Info:=⟨24,fun i=>if i=3 then ([[],[0],[0,1],[],[],[4],[4,5],[3,4,5,6],[],[8],[8,9],[3,4,5,6,7,8,9,10],[0,1,2,3,4,5,6,7,8,9,10,11],[0,1,2,3,4,5,6,7,8,9,10,11,12]],[(0,[]),(1,[]),(2,[]),(3,[]),(4,[]),(5,[]),(6,[]),(7,[]),(8,[]),(9,[]),(10,[]),(11,[]),(12,[]),(13,[])]) else ([],[]),fun i=>([],[])⟩
def W112 (v0:AV) (v1:AV) (H:Heap) (K:AV→Heap→Prop):Prop:=
 boxV v0 H fun v2 H1=>
 fieldAddrV tab 32 v2 0 fun v6=>
 loadV tab 23 v6 H1 fun v7=>
 lenV tab 23 v7 fun v8=>
 binV tab .lss 3 v1 v8 fun v9=>
 condV v9 (K v1 H1)
 (fieldAddrV tab 32 v2 0 fun v11=>
 loadV tab 23 v11 H1 fun v12=>
 lenV tab 23 v12 fun v13=>
 fieldAddrV tab 32 v2 0 fun v15=>
 loadV tab 23 v15 H1 fun v16=>
 lenV tab 23 v16 fun v17=>
 binV tab .sub 3 v1 v17 fun v18=>
 fieldAddrV tab 32 v2 1 fun v19=>
 loadV tab 23 v19 H1 fun v20=>
 lenV tab 23 v20 fun v21=>
 binV tab .rem 3 v18 v21 fun v22=>
 binV tab .add 3 v13 v22 fun v23=>
 K v23 H1)
theorem W112_wp (v0:AV) (v1:AV) (H:Heap) (K:AV→Heap→Prop):wpC Try.prog tab D112 (bodyOf Try.f112) (retF tab [.tmp 4] K) (nthA [v0,v1]) H=W112 v0 v1 H K:=by kernel_rfl
theorem W112_ok {v0 v1:AV} {H:Heap} {K:AV→Heap→Prop} (h:W112 v0 v1 H K):CallT Try.prog 112 [v0,v1] H K:=
  CallT.of_wp (D:=D112) tab_ok mixed Try.func112 (c:=bodyOf Try.f112) (by kernel_rfl) rfl (by kernel_rfl) (rs:=#[.tmp 4]) rfl (by decide +kernel) (by kernel_rfl) (W112_wp v0 v1 H K) h
def D117:Info:=⟨28,fun i=>if i=3 then ([[],[0],[],[],[3],[3,4],[2,3,4,5],[],[7],[7,8],[2,3,4,5,6,7,8,9],[0,1,2,3,4,5,6,7,8,9,10],[0,1,2,3,4,5,6,7,8,9,10,11],[0,1,2,3,4,5,6,7,8,9,10,11,12]],[(0,[]),(1,[]),(2,[]),(3,[]),(4,[]),(5,[]),(6,[]),(7,[]),(8,[]),(9,[]),(10,[]),(11,[]),(12,[]),(13,[])]) else ([],[]),fun i=>([],[])⟩
def W117 (v0:AV) (v1:AV) (H:Heap) (K:AV→Heap→Prop):Prop:=
 boxV v0 H fun v2 H1=>
 fieldAddrV tab 32 v2 0 fun v6=>
 loadV tab 23 v6 H1 fun v7=>
 lenV tab 23 v7 fun v8=>
 binV tab .lss 3 v1 v8 fun v9=>
 condV v9 (fieldAddrV tab 32 v2 0 fun v10=>
 loadV tab 23 v10 H1 fun v11=>
 indexAddrV tab 23 v11 v1 fun v13=>
 loadV tab 3 v13 H1 fun v14=>
 K v14 H1)
 (fieldAddrV tab 32 v2 1 fun v15=>
 loadV tab 23 v15 H1 fun v16=>
 fieldAddrV tab 32 v2 0 fun v18=>
 loadV tab 23 v18 H1 fun v19=>
 lenV tab 23 v19 fun v20=>
 binV tab .sub 3 v1 v20 fun v21=>
 fieldAddrV tab 32 v2 1 fun v22=>
 loadV tab 23 v22 H1 fun v23=>
 lenV tab 23 v23 fun v24=>
 binV tab .rem 3 v21 v24 fun v25=>
 indexAddrV tab 23 v16 v25 fun v26=>
 loadV tab 3 v26 H1 fun v27=>
 K v27 H1)
theorem W117_wp (v0:AV) (v1:AV) (H:Heap) (K:AV→Heap→Prop):wpC Try.prog tab D117 (bodyOf Try.f117) (retF tab [.tmp 4] K) (nthA [v0,v1]) H=W117 v0 v1 H K:=by kernel_rfl
theorem W117_ok {v0 v1:AV} {H:Heap} {K:AV→Heap→Prop} (h:W117 v0 v1 H K):CallT Try.prog 117 [v0,v1] H K:=
  CallT.of_wp (D:=D117) tab_ok mixed Try.func117 (c:=bodyOf Try.f117) (by kernel_rfl) rfl (by kernel_rfl) (rs:=#[.tmp 4]) rfl (by decide +kernel) (by kernel_rfl) (W117_wp v0 v1 H K) h
def D118:Info:=⟨45,fun i=>([],[]),fun i=>if i=4 then ([0,18],[4,5,19]) else if i=6 then ([0,4,5,18,19],[6,7]) else ([],[])⟩
def L118_0 (K:AV→Heap→Prop) (v0:AV) (v4:AV) (v5:AV) (v18:AV) (v19:AV) (H:Heap):Prop:=LoopV (wpC Try.prog tab D118 (cAt [1,1,1,0,1,0,0] (bodyOf Try.f118))) [0,18] (PostF.block 0 (PostF.thenA (wpC Try.prog tab D118 (cAt [1,1,1,1] (bodyOf Try.f118))) (retF tab [.tmp 2] K))) [4,5,19] [v0,AV.any,AV.any,AV.any,v4,v5,AV.any,AV.any,AV.any,AV.any,AV.any,AV.any,AV.any,AV.any,AV.any,AV.any,AV.any,AV.any,v18,v19,AV.any,AV.any,AV.any,AV.any,AV.any,AV.any,AV.any,AV.any,AV.any,AV.any,AV.any,AV.any,AV.any,AV.any,AV.any,AV.any,AV.any,AV.any,AV.any,AV.any,AV.any,AV.any,AV.any,AV.any,AV.any] H
def L118_1 (K:AV→Heap→Prop) (N1:AV→AV→AV→Heap→Prop) (v0:AV) (v4:AV) (v5:AV) (v6:AV) (v7:AV) (v18:AV) (v19:AV) (H:Heap):Prop:=LoopV (wpC Try.prog tab D118 (cAt [1,1,1,0,1,0,0,1,1,0,0,1,0,0,0] (bodyOf Try.f118))) [0,4,5,18,19] (PostF.block 2 (PostF.thenA (wpC Try.prog tab D118 (cAt [1,1,1,0,1,0,0,1,1,0,0,1,1] (bodyOf Try.f118))) (PostF.block 1 (PostF.thenA (wpC Try.prog tab D118 (cAt [1,1,1,0,1,0,0,1,1,1] (bodyOf Try.f118))) (loopF (PostF.block 0 (PostF.thenA (wpC Try.prog tab D118 (cAt [1,1,1,1] (bodyOf Try.f118))) (retF tab [.tmp 2] K))) (fun e h=>N1 (e 4) (e 5) (e 19) h)))))) [6,7] [v0,AV.any,AV.any,AV.any,v4,v5,v6,v7,AV.any,AV.any,AV.any,AV.any,AV.any,AV.any,AV.any,AV.any,AV.any,AV.any,v18,v19,AV.any,AV.any,AV.any,AV.any,AV.any,AV.any,AV.any,AV.any,AV.any,AV.any,AV.any,AV.any,AV.any,AV.any,AV.any,AV.any,AV.any,AV.any,AV.any,AV.any,AV.any,AV.any,AV.any,AV.any,AV.any] H
def B118_1 (K:AV→Heap→Prop) (N1:AV→AV→AV→Heap→Prop) (N2:AV→AV→Heap→Prop) (v0:AV) (v4:AV) (v5:AV) (v6:AV) (v7:AV) (v18:AV) (v19:AV) (H:Heap):Prop:=
 binV tab .gtr 3 v7 (AV.p (.int .i64 0)) fun v23=>
 condV v23 (binV tab .sub 3 v6 (AV.p (.int .i64 1)) fun v25=>
 indexAddrV tab 30 v0 v25 fun v29=>
 fieldAddrV tab 80 v29 0 fun v30=>
 loadV tab 3 v30 H fun v31=>
 CallT Try.prog 69 [v31] H fun v32 H3=>
 binV tab .sub 3 v32 (AV.p (.int .i64 1)) fun v33=>
 binV tab .add 3 v7 v33 fun v34=>
 N2 v25 v34 H3)
 (sliceV tab 30 v0 (some v6) (some v5) none fun v38=>
 buildSliceV tab 115 1 [(0,v38)] H (wkK fun v39 H4=>
 appendV tab 115 115 v39 v4 H4 (wkK fun v41 H5=>
 binV tab .add 3 v19 (AV.p (.int .i64 1)) fun v43=>
 N1 v41 v6 v43 H5)))
def B118_0 (K:AV→Heap→Prop) (N1:AV→AV→AV→Heap→Prop) (v0:AV) (v4:AV) (v5:AV) (v18:AV) (v19:AV) (H:Heap):Prop:=
 binV tab .lss 3 v19 v18 fun v20=>
 condV v20 (L118_1 K N1 v0 v4 v5 v5 (AV.p (.int .i64 1)) v18 v19 H)
 (K v4 H)
def W118 (v0:AV) (H:Heap) (K:AV→Heap→Prop):Prop:=
 lenV tab 30 v0 fun v9=>
 binV tab .sub 3 v9 (AV.p (.int .i64 1)) fun v10=>
 buildSliceV tab 115 0 [] H (wkK fun v11 H1=>
 indexAddrV tab 30 v0 v10 fun v15=>
 fieldAddrV tab 80 v15 0 fun v16=>
 loadV tab 3 v16 H1 fun v17=>
 CallT Try.prog 69 [v17] H1 fun v18 H2=>
 L118_0 K v0 v11 v10 v18 (AV.p (.int .i64 0)) H2)
theorem W118_wp (v0:AV) (H:Heap) (K:AV→Heap→Prop):wpC Try.prog tab D118 (bodyOf Try.f118) (retF tab [.tmp 2] K) (nthA [v0]) H=W118 v0 H K:=by kernel_rfl
theorem W118_ok {v0:AV} {H:Heap} {K:AV→Heap→Prop} (h:W118 v0 H K):CallT Try.prog 118 [v0] H K:=
  CallT.of_wp (D:=D118) tab_ok mixed Try.func118 (c:=bodyOf Try.f118) (by kernel_rfl) rfl (by kernel_rfl) (rs:=#[.tmp 2]) rfl (by decide +kernel) (by kernel_rfl) (W118_wp v0 H K) h
theorem L118_1_rule {K:AV→Heap→Prop} {N1:AV→AV→AV→Heap→Prop} {v0 v4 v5 v6 v7 v18 v19:AV} {H:Heap} {σ:Type} (s0:σ) (f6:σ→AV) (f7:σ→AV) (TH:σ→Heap) (pre:σ→Prop) (μ:σ→Nat)
    (h0:pre s0∧AV.wk v6 (f6 s0)∧AV.wk v7 (f7 s0)∧Heap.le (TH s0) H)
    (round:∀s,pre s→B118_1 K N1 (fun w6 w7 H'=>∃s',pre s'∧μ s' < μ s∧AV.wk w6 (f6 s')∧AV.wk w7 (f7 s')∧Heap.le (TH s') H') v0 v4 v5 (f6 s) (f7 s) v18 v19 (TH s)) :
    L118_1 K N1 v0 v4 v5 v6 v7 v18 v19 H:=by
  unfold L118_1
  exact LoopV.mk s0 (fun s=>[f6 s,f7 s]) TH pre μ (fun _=>rfl) (Eq.mp (by kernel_rfl) h0) (fun s hs=>Eq.mp (by kernel_rfl) (round s hs))
theorem L118_0_rule {K:AV→Heap→Prop} {v0 v4 v5 v18 v19:AV} {H:Heap} {σ:Type} (s0:σ) (f4:σ→AV) (f5:σ→AV) (f19:σ→AV) (TH:σ→Heap) (pre:σ→Prop) (μ:σ→Nat)
    (h0:pre s0∧AV.wk v4 (f4 s0)∧AV.wk v5 (f5 s0)∧AV.wk v19 (f19 s0)∧Heap.le (TH s0) H)
    (round:∀s,pre s→B118_0 K (fun w4 w5 w19 H'=>∃s',pre s'∧μ s' < μ s∧AV.wk w4 (f4 s')∧AV.wk w5 (f5 s')∧AV.wk w19 (f19 s')∧Heap.le (TH s') H') v0 (f4 s) (f5 s) v18 (f19 s) (TH s)) :
    L118_0 K v0 v4 v5 v18 v19 H:=by
  unfold L118_0
  exact LoopV.mk s0 (fun s=>[f4 s,f5 s,f19 s]) TH pre μ (fun _=>rfl) (Eq.mp (by kernel_rfl) h0) (fun s hs=>Eq.mp (by kernel_rfl) (round s hs))
def D119:Info:=⟨13,fun i=>([],[]),fun i=>([],[])⟩
def W119 (v0:AV) (H:Heap) (K:AV→Heap→Prop):Prop:=
 binV tab .eql 3 v0 (AV.p (.int .i64 5)) fun v5=>
 condV v5 (K (AV.p (.int .i64 6)) H)
 (binV tab .eql 3 v0 (AV.p (.int .i64 6)) fun v7=>
 condV v7 (K (AV.p (.int .i64 5)) H)
 (binV tab .eql 3 v0 (AV.p (.int .i64 7)) fun v9=>
 condV v9 (K (AV.p (.int .i64 8)) H)
 (binV tab .eql 3 v0 (AV.p (.int .i64 8)) fun v11=>
 condV v11 (K (AV.p (.int .i64 7)) H)
 (K v0 H))))
theorem W119_wp (v0:AV) (H:Heap) (K:AV→Heap→Prop):wpC Try.prog tab D119 (bodyOf Try.f119) (retF tab [.tmp 2] K) (nthA [v0]) H=W119 v0 H K:=by kernel_rfl
theorem W119_ok {v0:AV} {H:Heap} {K:AV→Heap→Prop} (h:W119 v0 H K):CallT Try.prog 119 [v0] H K:=
  CallT.of_wp (D:=D119) tab_ok mixed Try.func119 (c:=bodyOf Try.f119) (by kernel_rfl) rfl (by kernel_rfl) (rs:=#[.tmp 2]) rfl (by decide +kernel) (by kernel_rfl) (W119_wp v0 H K) h
def D120:Info:=⟨10,fun i=>([],[]),fun i=>([],[])⟩
def W120 (v0:AV) (H:Heap) (K:AV→Heap→Prop):Prop:=
 binV tab .eql 3 v0 (AV.p (.int .i64 5)) fun v5=>
 condV v5 (K (AV.p (.int .i64 6)) H)
 (binV tab .eql 3 v0 (AV.p (.int .i64 6)) fun v7=>
 condV v7 (K (AV.p (.int .i64 5)) H)
 (binV tab .eql 3 v0 (AV.p (.int .i64 7)) fun v9=>
 condV v9 (K (AV.p (.int .i64 8)) H)
 (K (AV.p (.int .i64 7)) H)))
theorem W120_wp (v0:AV) (H:Heap) (K:AV→Heap→Prop):wpC Try.prog tab D120 (bodyOf Try.f120) (retF tab [.tmp 2] K) (nthA [v0]) H=W120 v0 H K:=by kernel_rfl
theorem W120_ok {v0:AV} {H:Heap} {K:AV→Heap→Prop} (h:W120 v0 H K):CallT Try.prog 120 [v0] H K:=
  CallT.of_wp (D:=D120) tab_ok mixed Try.func120 (c:=bodyOf Try.f120) (by kernel_rfl) rfl (by kernel_rfl) (rs:=#[.tmp 2]) rfl (by decide +kernel) (by kernel_rfl) (W120_wp v0 H K) h
def D121:Info:=⟨23,fun i=>([],[]),fun i=>if i=3 then ([0],[5,6]) else ([],[])⟩
def L121_0 (K:AV→Heap→Prop) (v0:AV) (v5:AV) (v6:AV) (H:Heap):Prop:=LoopV (wpC Try.prog tab D121 (cAt [1,1,0,1,0,0] (bodyOf Try.f121))) [0] (PostF.block 0 (PostF.thenA (wpC Try.prog tab D121 (cAt [1,1,1] (bodyOf Try.f121))) (retF tab [.tmp 4] K))) [5,6] [v0,AV.any,AV.any,AV.any,AV.any,v5,v6,AV.any,AV.any,AV.any,AV.any,AV.any,AV.any,AV.any,AV.any,AV.any,AV.any,AV.any,AV.any,AV.any,AV.any,AV.any,AV.any] H
def B121_0 (K:AV→Heap→Prop) (N1:AV→AV→Heap→Prop) (v0:AV) (v5:AV) (v6:AV) (H:Heap):Prop:=
 binV tab .gtr 3 v6 (AV.p (.int .i64 0)) fun v15=>
 condV v15 (binV tab .sub 3 v5 (AV.p (.int .i64 1)) fun v20=>
 CallT Try.prog 121 [v0,v20] H fun v21 H2=>
 binV tab .sub 3 v6 (AV.p (.int .i64 1)) fun v17=>
 N1 v21 v17 H2)
 (K v5 H)
def W121 (v0:AV) (v1:AV) (H:Heap) (K:AV→Heap→Prop):Prop:=
 indexAddrV tab 30 v0 v1 fun v10=>
 fieldAddrV tab 80 v10 0 fun v11=>
 loadV tab 3 v11 H fun v12=>
 CallT Try.prog 72 [v12] H fun v13 H1=>
 L121_0 K v0 v1 v13 H1
theorem W121_wp (v0:AV) (v1:AV) (H:Heap) (K:AV→Heap→Prop):wpC Try.prog tab D121 (bodyOf Try.f121) (retF tab [.tmp 4] K) (nthA [v0,v1]) H=W121 v0 v1 H K:=by kernel_rfl
theorem W121_ok {v0 v1:AV} {H:Heap} {K:AV→Heap→Prop} (h:W121 v0 v1 H K):CallT Try.prog 121 [v0,v1] H K:=
  CallT.of_wp (D:=D121) tab_ok mixed Try.func121 (c:=bodyOf Try.f121) (by kernel_rfl) rfl (by kernel_rfl) (rs:=#[.tmp 4]) rfl (by decide +kernel) (by kernel_rfl) (W121_wp v0 v1 H K) h
theorem L121_0_rule {K:AV→Heap→Prop} {v0 v5 v6:AV} {H:Heap} {σ:Type} (s0:σ) (f5:σ→AV) (f6:σ→AV) (TH:σ→Heap) (pre:σ→Prop) (μ:σ→Nat)
    (h0:pre s0∧AV.wk v5 (f5 s0)∧AV.wk v6 (f6 s0)∧Heap.le (TH s0) H)
    (round:∀s,pre s→B121_0 K (fun w5 w6 H'=>∃s',pre s'∧μ s' < μ s∧AV.wk w5 (f5 s')∧AV.wk w6 (f6 s')∧Heap.le (TH s') H') v0 (f5 s) (f6 s) (TH s)) :
    L121_0 K v0 v5 v6 H:=by
  unfold L121_0
  exact LoopV.mk s0 (fun s=>[f5 s,f6 s]) TH pre μ (fun _=>rfl) (Eq.mp (by kernel_rfl) h0) (fun s hs=>Eq.mp (by kernel_rfl) (round s hs))
def D124:Info:=⟨9,fun i=>([],[]),fun i=>([],[])⟩
def W124 (v0:AV) (v1:AV) (H:Heap) (K:AV→Heap→Prop):Prop:=
 CallT Try.prog 137 [v0,v1] H fun v7 H1=>
 binV tab .geq 3 v7 (AV.p (.int .i64 0)) fun v8=>
 K v8 H1
theorem W124_wp (v0:AV) (v1:AV) (H:Heap) (K:AV→Heap→Prop):wpC Try.prog tab D124 (bodyOf Try.f124) (retF tab [.tmp 4] K) (nthA [v0,v1]) H=W124 v0 v1 H K:=by kernel_rfl
theorem W124_ok {v0 v1:AV} {H:Heap} {K:AV→Heap→Prop} (h:W124 v0 v1 H K):CallT Try.prog 124 [v0,v1] H K:=
  CallT.of_wp (D:=D124) tab_ok mixed Try.func124 (c:=bodyOf Try.f124) (by kernel_rfl) rfl (by kernel_rfl) (rs:=#[.tmp 4]) rfl (by decide +kernel) (by kernel_rfl) (W124_wp v0 v1 H K) h
def D125:Info:=⟨9,fun i=>([],[]),fun i=>([],[])⟩
def W125 (v0:AV) (H:Heap) (K:AV→Heap→Prop):Prop:=
 binV tab .lss 3 v0 (AV.p (.int .i64 0)) fun v4=>
 grdV v4 false (binV tab .geq 3 v0 (AV.p (.int .i64 8)) fun v7=>
 K v7 H)
 (K (AV.p (.bool true)) H)
theorem W125_wp (v0:AV) (H:Heap) (K:AV→Heap→Prop):wpC Try.prog tab D125 (bodyOf Try.f125) (retF tab [.tmp 2] K) (nthA [v0]) H=W125 v0 H K:=by kernel_rfl
theorem W125_ok {v0:AV} {H:Heap} {K:AV→Heap→Prop} (h:W125 v0 H K):CallT Try.prog 125 [v0] H K:=
  CallT.of_wp (D:=D125) tab_ok mixed Try.func125 (c:=bodyOf Try.f125) (by kernel_rfl) rfl (by kernel_rfl) (rs:=#[.tmp 2]) rfl (by decide +kernel) (by kernel_rfl) (W125_wp v0 H K) h
def D128:Info:=⟨10,fun i=>([],[]),fun i=>([],[])⟩
def W128 (v0:AV) (v1:AV) (H:Heap) (K:AV→Heap→Prop):Prop:=
 loadV tab 71 v1 H fun v4=>
 indexAddrV tab 71 v4 (AV.p (.int .i64 0)) fun v5=>
 loadV tab 76 v5 H fun v6=>
 indexAddrV tab 76 v6 v0 fun v8=>
 loadV tab 4 v8 H fun v9=>
 K v9 H
theorem W128_wp (v0:AV) (v1:AV) (H:Heap) (K:AV→Heap→Prop):wpC Try.prog tab D128 (bodyOf Try.f128) (retF tab [.tmp 3] K) (nthA [v0,v1]) H=W128 v0 v1 H K:=by kernel_rfl
theorem W128_ok {v0 v1:AV} {H:Heap} {K:AV→Heap→Prop} (h:W128 v0 v1 H K):CallT Try.prog 128 [v0,v1] H K:=
  CallT.of_wp (D:=D128) tab_ok mixed Try.func128 (c:=bodyOf Try.f128) (by kernel_rfl) rfl (by kernel_rfl) (rs:=#[.tmp 3]) rfl (by decide +kernel) (by kernel_rfl) (W128_wp v0 v1 H K) h
def D129:Info:=⟨10,fun i=>([],[]),fun i=>([],[])⟩
def W129 (v0:AV) (v1:AV) (H:Heap) (K:AV→Heap→Prop):Prop:=
 loadV tab 71 v1 H fun v4=>
 indexAddrV tab 71 v4 (AV.p (.int .i64 1)) fun v5=>
 loadV tab 76 v5 H fun v6=>
 indexAddrV tab 76 v6 v0 fun v8=>
 loadV tab 4 v8 H fun v9=>
 K v9 H
theorem W129_wp (v0:AV) (v1:AV) (H:Heap) (K:AV→Heap→Prop):wpC Try.prog tab D129 (bodyOf Try.f129) (retF tab [.tmp 3] K) (nthA [v0,v1]) H=W129 v0 v1 H K:=by kernel_rfl
theorem W129_ok {v0 v1:AV} {H:Heap} {K:AV→Heap→Prop} (h:W129 v0 v1 H K):CallT Try.prog 129 [v0,v1] H K:=
  CallT.of_wp (D:=D129) tab_ok mixed Try.func129 (c:=bodyOf Try.f129) (by kernel_rfl) rfl (by kernel_rfl) (rs:=#[.tmp 3]) rfl (by decide +kernel) (by kernel_rfl) (W129_wp v0 v1 H K) h
def D131:Info:=⟨18,fun i=>([],[]),fun i=>([],[])⟩
def W131 (v0:AV) (v1:AV) (v2:AV) (v3:AV) (H:Heap) (K:AV→Heap→Prop):Prop:=
 loadV tab 98 v2 H fun v7=>
 callF Try.prog v7 [v0] H fun v9 H1=>
 grdV v9 false (loadV tab 98 v3 H1 fun v11=>
 callF Try.prog v11 [v0] H1 fun v13 H2=>
 grdV v13 true (K v1 H2)
 (K (AV.p (.bool false)) H2))
 (K (AV.p (.bool true)) H1)
theorem W131_wp (v0:AV) (v1:AV) (v2:AV) (v3:AV) (H:Heap) (K:AV→Heap→Prop):wpC Try.prog tab D131 (bodyOf Try.f131) (retF tab [.tmp 6] K) (nthA [v0,v1,v2,v3]) H=W131 v0 v1 v2 v3 H K:=by kernel_rfl
theorem W131_ok {v0 v1 v2 v3:AV} {H:Heap} {K:AV→Heap→Prop} (h:W131 v0 v1 v2 v3 H K):CallT Try.prog 131 [v0,v1,v2,v3] H K:=
  CallT.of_wp (D:=D131) tab_ok mixed Try.func131 (c:=bodyOf Try.f131) (by kernel_rfl) rfl (by kernel_rfl) (rs:=#[.tmp 6]) rfl (by decide +kernel) (by kernel_rfl) (W131_wp v0 v1 v2 v3 H K) h
def D132:Info:=⟨18,fun i=>([],[]),fun i=>([],[])⟩
def W132 (v0:AV) (v1:AV) (v2:AV) (v3:AV) (H:Heap) (K:AV→Heap→Prop):Prop:=
 loadV tab 98 v2 H fun v7=>
 callF Try.prog v7 [v0] H fun v9 H1=>
 grdV v9 true (loadV tab 98 v3 H1 fun v11=>
 callF Try.prog v11 [v0] H1 fun v13 H2=>
 grdV v13 false (K v1 H2)
 (K (AV.p (.bool true)) H2))
 (K (AV.p (.bool false)) H1)
theorem W132_wp (v0:AV) (v1:AV) (v2:AV) (v3:AV) (H:Heap) (K:AV→Heap→Prop):wpC Try.prog tab D132 (bodyOf Try.f132) (retF tab [.tmp 6] K) (nthA [v0,v1,v2,v3]) H=W132 v0 v1 v2 v3 H K:=by kernel_rfl
theorem W132_ok {v0 v1 v2 v3:AV} {H:Heap} {K:AV→Heap→Prop} (h:W132 v0 v1 v2 v3 H K):CallT Try.prog 132 [v0,v1,v2,v3] H K:=
  CallT.of_wp (D:=D132) tab_ok mixed Try.func132 (c:=bodyOf Try.f132) (by kernel_rfl) rfl (by kernel_rfl) (rs:=#[.tmp 6]) rfl (by decide +kernel) (by kernel_rfl) (W132_wp v0 v1 v2 v3 H K) h
def D133:Info:=⟨20,fun i=>([],[]),fun i=>([],[])⟩
def W133 (v0:AV) (v1:AV) (H:Heap) (K:AV→Heap→Prop):Prop:=
 boxV v0 H fun v2 H1=>
 binV tab .add 3 v1 (AV.p (.int .i64 1)) fun v6=>
 fieldAddrV tab 32 v2 0 fun v7=>
 loadV tab 23 v7 H1 fun v8=>
 lenV tab 23 v8 fun v9=>
 fieldAddrV tab 32 v2 1 fun v10=>
 loadV tab 23 v10 H1 fun v11=>
 lenV tab 23 v11 fun v12=>
 binV tab .add 3 v9 v12 fun v13=>
 binV tab .lss 3 v6 v13 fun v14=>
 condV v14 (binV tab .add 3 v1 (AV.p (.int .i64 1)) fun v16=>
 K v16 H1)
 (fieldAddrV tab 32 v2 0 fun v17=>
 loadV tab 23 v17 H1 fun v18=>
 lenV tab 23 v18 fun v19=>
 K v19 H1)
theorem W133_wp (v0:AV) (v1:AV) (H:Heap) (K:AV→Heap→Prop):wpC Try.prog tab D133 (bodyOf Try.f133) (retF tab [.tmp 4] K) (nthA [v0,v1]) H=W133 v0 v1 H K:=by kernel_rfl
theorem W133_ok {v0 v1:AV} {H:Heap} {K:AV→Heap→Prop} (h:W133 v0 v1 H K):CallT Try.prog 133 [v0,v1] H K:=
  CallT.of_wp (D:=D133) tab_ok mixed Try.func133 (c:=bodyOf Try.f133) (by kernel_rfl) rfl (by kernel_rfl) (rs:=#[.tmp 4]) rfl (by decide +kernel) (by kernel_rfl) (W133_wp v0 v1 H K) h
def D137:Info:=⟨19,fun i=>([],[]),fun i=>if i=2 then ([0,1,7],[8]) else ([],[])⟩
def L137_0 (K:AV→Heap→Prop) (v0:AV) (v1:AV) (v7:AV) (v8:AV) (H:Heap):Prop:=LoopV (wpC Try.prog tab D137 (cAt [1,0,1,0,0] (bodyOf Try.f137))) [0,1,7] (PostF.block 0 (PostF.thenA (wpC Try.prog tab D137 (cAt [1,1] (bodyOf Try.f137))) (retF tab [.tmp 4] K))) [8] [v0,v1,AV.any,AV.any,AV.any,AV.any,AV.any,v7,v8,AV.any,AV.any,AV.any,AV.any,AV.any,AV.any,AV.any,AV.any,AV.any,AV.any] H
def B137_0 (K:AV→Heap→Prop) (N1:AV→Heap→Prop) (v0:AV) (v1:AV) (v7:AV) (v8:AV) (H:Heap):Prop:=
 binV tab .lss 3 v8 v7 fun v9=>
 condV v9 (indexAddrV tab 23 v0 v8 fun v14=>
 loadV tab 3 v14 H fun v15=>
 callF Try.prog v1 [v15] H fun v16 H1=>
 condV v16 (K v8 H1)
 (binV tab .add 3 v8 (AV.p (.int .i64 1)) fun v18=>
 N1 v18 H1))
 (K (AV.p (.int .i64 (-1))) H)
def W137 (v0:AV) (v1:AV) (H:Heap) (K:AV→Heap→Prop):Prop:=
 lenV tab 23 v0 fun v7=>
 L137_0 K v0 v1 v7 (AV.p (.int .i64 0)) H
theorem W137_wp (v0:AV) (v1:AV) (H:Heap) (K:AV→Heap→Prop):wpC Try.prog tab D137 (bodyOf Try.f137) (retF tab [.tmp 4] K) (nthA [v0,v1]) H=W137 v0 v1 H K:=by kernel_rfl
theorem W137_ok {v0 v1:AV} {H:Heap} {K:AV→Heap→Prop} (h:W137 v0 v1 H K):CallT Try.prog 137 [v0,v1] H K:=
  CallT.of_wp (D:=D137) tab_ok mixed Try.func137 (c:=bodyOf Try.f137) (by kernel_rfl) rfl (by kernel_rfl) (rs:=#[.tmp 4]) rfl (by decide +kernel) (by kernel_rfl) (W137_wp v0 v1 H K) h
theorem L137_0_rule {K:AV→Heap→Prop} {v0 v1 v7 v8:AV} {H:Heap} {σ:Type} (s0:σ) (f8:σ→AV) (TH:σ→Heap) (pre:σ→Prop) (μ:σ→Nat)
    (h0:pre s0∧AV.wk v8 (f8 s0)∧Heap.le (TH s0) H)
    (round:∀s,pre s→B137_0 K (fun w8 H'=>∃s',pre s'∧μ s' < μ s∧AV.wk w8 (f8 s')∧Heap.le (TH s') H') v0 v1 v7 (f8 s) (TH s)) :
    L137_0 K v0 v1 v7 v8 H:=by
  unfold L137_0
  exact LoopV.mk s0 (fun s=>[f8 s]) TH pre μ (fun _=>rfl) (Eq.mp (by kernel_rfl) h0) (fun s hs=>Eq.mp (by kernel_rfl) (round s hs))
def D149:Info:=⟨48,fun i=>if i=9 then ([[],[],[],[1,2],[],[],[4,5],[1,2,3,4,5,6],[0,1,2,3,4,5,6,7],[0,1,2,3,4,5,6,7,8]],[(0,[]),(1,[]),(2,[]),(3,[]),(4,[]),(5,[]),(6,[]),(7,[]),(8,[]),(9,[])]) else ([],[]),fun i=>if i=8 then ([7],[8]) else ([],[])⟩
def L149_0 (K:AV→Heap→Prop) (v7:AV) (v8:AV) (H:Heap):Prop:=LoopV (wpC Try.prog tab D149 (cAt [1,1,1,1,1,1,0,0,0] (bodyOf Try.f149))) [7] (PostF.block 0 (PostF.thenA (wpC Try.prog tab D149 (cAt [1,1,1,1,1,1,1] (bodyOf Try.f149))) (retF tab [.tmp 4] K))) [8] [AV.any,AV.any,AV.any,AV.any,AV.any,AV.any,AV.any,v7,v8,AV.any,AV.any,AV.any,AV.any,AV.any,AV.any,AV.any,AV.any,AV.any,AV.any,AV.any,AV.any,AV.any,AV.any,AV.any,AV.any,AV.any,AV.any,AV.any,AV.any,AV.any,AV.any,AV.any,AV.any,AV.any,AV.any,AV.any,AV.any,AV.any,AV.any,AV.any,AV.any,AV.any,AV.any,AV.any,AV.any,AV.any,AV.any,AV.any] H
def B149_0 (K:AV→Heap→Prop) (N1:AV→Heap→Prop) (v7:AV) (v8:AV) (H:Heap):Prop:=
 lenV tab 76 v7 fun v36=>
 binV tab .lss 3 v8 v36 fun v37=>
 condV v37 (sliceV tab 76 v7 (some v8) none none fun v41=>
 sliceV tab 76 v7 none (some v8) none fun v44=>
 copyV tab 76 v41 v44 H fun v45 H4=>
 binV tab .add 3 v8 v45 fun v46=>
 N1 v46 H4)
 (K v7 H)
def W149 (v0:AV) (v1:AV) (H:Heap) (K:AV→Heap→Prop):Prop:=
 binV tab .lss 3 v1 (AV.p (.int .i64 0)) fun v10=>
 condV v10 (False)
 (lenV tab 76 v0 fun v14=>
 convV tab 3 77 v14 fun v15=>
 convV tab 3 77 v1 fun v17=>
 CallT Try.prog 158 [v15,v17] H fun v18 H1=>
 extractV v18 0 fun v19=>
 extractV v18 1 fun v20=>
 binV tab .gtr 77 v19 (AV.p (.int .u64 0)) fun v22=>
 grdV v22 false (binV tab .gtr 77 v20 (AV.p (.int .u64 9223372036854775807)) fun v25=>
 condV v25 (False)
 (convV tab 77 3 v20 fun v29=>
 makeSliceV tab 76 v29 v29 H1 fun v30 H2=>
 copyV tab 76 v30 v0 H2 fun v33 H3=>
 L149_0 K v30 v33 H3))
 (False))
theorem W149_wp (v0:AV) (v1:AV) (H:Heap) (K:AV→Heap→Prop):wpC Try.prog tab D149 (bodyOf Try.f149) (retF tab [.tmp 4] K) (nthA [v0,v1]) H=W149 v0 v1 H K:=by kernel_rfl
theorem W149_ok {v0 v1:AV} {H:Heap} {K:AV→Heap→Prop} (h:W149 v0 v1 H K):CallT Try.prog 149 [v0,v1] H K:=
  CallT.of_wp (D:=D149) tab_ok mixed Try.func149 (c:=bodyOf Try.f149) (by kernel_rfl) rfl (by kernel_rfl) (rs:=#[.tmp 4]) rfl (by decide +kernel) (by kernel_rfl) (W149_wp v0 v1 H K) h
theorem L149_0_rule {K:AV→Heap→Prop} {v7 v8:AV} {H:Heap} {σ:Type} (s0:σ) (f8:σ→AV) (TH:σ→Heap) (pre:σ→Prop) (μ:σ→Nat)
    (h0:pre s0∧AV.wk v8 (f8 s0)∧Heap.le (TH s0) H)
    (round:∀s,pre s→B149_0 K (fun w8 H'=>∃s',pre s'∧μ s' < μ s∧AV.wk w8 (f8 s')∧Heap.le (TH s') H') v7 (f8 s) (TH s)) :
    L149_0 K v7 v8 H:=by
  unfold L149_0
  exact LoopV.mk s0 (fun s=>[f8 s]) TH pre μ (fun _=>rfl) (Eq.mp (by kernel_rfl) h0) (fun s hs=>Eq.mp (by kernel_rfl) (round s hs))
def D150:Info:=⟨4,fun i=>([],[]),fun i=>([],[])⟩
def W150 (v0:AV) (H:Heap) (K:AV→Heap→Prop):Prop:=
 boxV v0 H fun v1 H1=>
 K (.fn 159 [v1]) H1
theorem W150_wp (v0:AV) (H:Heap) (K:AV→Heap→Prop):wpC Try.prog tab D150 (bodyOf Try.f150) (retF tab [.tmp 2] K) (nthA [v0]) H=W150 v0 H K:=by kernel_rfl
theorem W150_ok {v0:AV} {H:Heap} {K:AV→Heap→Prop} (h:W150 v0 H K):CallT Try.prog 150 [v0] H K:=
  CallT.of_wp (D:=D150) tab_ok mixed Try.func150 (c:=bodyOf Try.f150) (by kernel_rfl) rfl (by kernel_rfl) (rs:=#[.tmp 2]) rfl (by decide +kernel) (by kernel_rfl) (W150_wp v0 H K) h
def D158:Info:=⟨30,fun i=>([],[]),fun i=>([],[])⟩
def W158 (v0:AV) (v1:AV) (H:Heap) (K:AV→Heap→Prop):Prop:=
 CallT Try.prog 162 [v0,v1] H fun v25 H1=>
 extractV v25 0 fun v26=>
 extractV v25 1 fun v27=>
 K (.tup [v26,v27]) H1
theorem W158_wp (v0:AV) (v1:AV) (H:Heap) (K:AV→Heap→Prop):wpC Try.prog tab D158 (bodyOf Try.f158) (retF tab [.tmp 4,.tmp 5] K) (nthA [v0,v1]) H=W158 v0 v1 H K:=by kernel_rfl
theorem W158_ok {v0 v1:AV} {H:Heap} {K:AV→Heap→Prop} (h:W158 v0 v1 H K):CallT Try.prog 158 [v0,v1] H K:=
  CallT.of_wp (D:=D158) tab_ok mixed Try.func158 (c:=bodyOf Try.f158) (by kernel_rfl) rfl (by kernel_rfl) (rs:=#[.tmp 4,.tmp 5]) rfl (by decide +kernel) (by kernel_rfl) (W158_wp v0 v1 H K) h
def D162:Info:=⟨51,fun i=>([],[]),fun i=>([],[])⟩
def W162 (v0:AV) (v1:AV) (H:Heap) (K:AV→Heap→Prop):Prop:=
 binV tab .and 74 v0 (AV.p (.int .u64 4294967295)) fun v15=>
 binV tab .shr 74 v0 (AV.p (.int .u64 32)) fun v17=>
 binV tab .and 74 v1 (AV.p (.int .u64 4294967295)) fun v19=>
 binV tab .shr 74 v1 (AV.p (.int .u64 32)) fun v21=>
 binV tab .mul 74 v15 v19 fun v24=>
 binV tab .mul 74 v17 v19 fun v27=>
 binV tab .shr 74 v24 (AV.p (.int .u64 32)) fun v29=>
 binV tab .add 74 v27 v29 fun v30=>
 binV tab .and 74 v30 (AV.p (.int .u64 4294967295)) fun v32=>
 binV tab .shr 74 v30 (AV.p (.int .u64 32)) fun v34=>
 binV tab .mul 74 v15 v21 fun v38=>
 binV tab .add 74 v32 v38 fun v39=>
 binV tab .mul 74 v17 v21 fun v42=>
 binV tab .add 74 v42 v34 fun v44=>
 binV tab .shr 74 v39 (AV.p (.int .u64 32)) fun v46=>
 binV tab .add 74 v44 v46 fun v47=>
 binV tab .mul 74 v0 v1 fun v50=>
 K (.tup [v47,v50]) H
theorem W162_wp (v0:AV) (v1:AV) (H:Heap) (K:AV→Heap→Prop):wpC Try.prog tab D162 (bodyOf Try.f162) (retF tab [.tmp 4,.tmp 5] K) (nthA [v0,v1]) H=W162 v0 v1 H K:=by kernel_rfl
theorem W162_ok {v0 v1:AV} {H:Heap} {K:AV→Heap→Prop} (h:W162 v0 v1 H K):CallT Try.prog 162 [v0,v1] H K:=
  CallT.of_wp (D:=D162) tab_ok mixed Try.func162 (c:=bodyOf Try.f162) (by kernel_rfl) rfl (by kernel_rfl) (rs:=#[.tmp 4,.tmp 5]) rfl (by decide +kernel) (by kernel_rfl) (W162_wp v0 v1 H K) h
end Go.Proofs.Ytjdhigcefkihiaa
namespace Go.Proofs.Ytjdhigcefkihiaa
open Go Go.Sep
attribute [local irreducible] wpC headF
def D130:Info:=⟨39,fun i=>if i=6 then ([[],[],[],[],[],[],[],[5,6],[4,5,6,7],[4,5,6,7,8],[2,3,4,5,6,7,8,9],[0,1,2,3,4,5,6,7,8,9,10],[0,1,2,3,4,5,6,7,8,9,10,11]],[(0,[]),(1,[]),(2,[]),(3,[]),(4,[]),(5,[]),(6,[]),(7,[0,2,4]),(8,[]),(9,[]),(10,[0]),(11,[]),(12,[])]) else ([],[]),fun i=>if i=3 then ([3,5,7],[19]) else if i=6 then ([3,5,7,19,22],[]) else ([],[])⟩
def L130_0 (K:AV→Heap→Prop) (v3:AV) (v5:AV) (v7:AV) (v19:AV) (H:Heap):Prop:=LoopV (wpC Try.prog tab D130 (cAt [1,1,0,1,0,0] (bodyOf Try.f130))) [3,5,7] (PostF.block 0 (PostF.thenA (wpC Try.prog tab D130 (cAt [1,1,1] (bodyOf Try.f130))) (retF tab [.tmp 6] K))) [19] [AV.any,AV.any,AV.any,v3,AV.any,v5,AV.any,v7,AV.any,AV.any,AV.any,AV.any,AV.any,AV.any,AV.any,AV.any,AV.any,AV.any,AV.any,v19,AV.any,AV.any,AV.any,AV.any,AV.any,AV.any,AV.any,AV.any,AV.any,AV.any,AV.any,AV.any,AV.any,AV.any,AV.any,AV.any,AV.any,AV.any,AV.any] H
def R130_1 (K:AV→Heap→Prop) (N1:AV→Heap→Prop) (v3:AV) (v5:AV) (v7:AV) (v19:AV) (v22:AV) (H:Heap):Prop:=RngV Try.prog 22 23 24 8 (rngB Try.prog tab D130 (cAt [1,1,0,1,0,0,1,1,0,0,1,0,0] (bodyOf Try.f130))) (PostF.block 2 (PostF.block 1 (PostF.thenA (wpC Try.prog tab D130 (cAt [1,1,0,1,0,0,1,1,1] (bodyOf Try.f130))) (loopF (PostF.block 0 (PostF.thenA (wpC Try.prog tab D130 (cAt [1,1,1] (bodyOf Try.f130))) (retF tab [.tmp 6] K))) (fun e h=>N1 (e 19) h))))) [AV.any,AV.any,AV.any,v3,AV.any,v5,AV.any,v7,AV.any,AV.any,AV.any,AV.any,AV.any,AV.any,AV.any,AV.any,AV.any,AV.any,AV.any,v19,AV.any,AV.any,v22,AV.any,AV.any,AV.any,AV.any,AV.any,AV.any,AV.any,AV.any,AV.any,AV.any,AV.any,AV.any,AV.any,AV.any,AV.any,AV.any] H
def RB130_1 (N:Heap→Prop) (v3:AV) (v5:AV) (v7:AV) (w:AV) (H:Heap):Prop:=
 loadV tab 76 v7 H fun v25=>
 loadV tab 124 v5 H fun v27=>
 loadV tab 76 v7 H fun v29=>
 loadV tab 32 v3 H fun v30=>
 CallT Try.prog 133 [v30,w] H fun v32 H8=>
 (loadV tab 76 v7 H8 fun v9025=>
 v25=v9025)∧
 (loadV tab 124 v5 H8 fun v9027=>
 v27=v9027)∧
 (loadV tab 76 v7 H8 fun v9029=>
 v29=v9029)∧
 indexAddrV tab 76 v29 v32 fun v33=>
 loadV tab 4 v33 H8 fun v34=>
 callF Try.prog v27 [w,v34] H8 fun v35 H9=>
 (loadV tab 76 v7 H9 fun v9025=>
 v25=v9025)∧
 indexAddrV tab 76 v25 w fun v36=>
 storeV tab 4 v36 v35 H9 fun H10=>
 N H10
def B130_0 (K:AV→Heap→Prop) (N1:AV→Heap→Prop) (v3:AV) (v5:AV) (v7:AV) (v19:AV) (H:Heap):Prop:=
 binV tab .lss 3 v19 (AV.p (.int .i64 2)) fun v20=>
 condV v20 (loadV tab 76 v7 H fun v21=>
 CallT Try.prog 150 [v21] H fun v22 H7=>
 R130_1 K N1 v3 v5 v7 v19 v22 H7)
 (loadV tab 76 v7 H fun v38=>
 K v38 H)
def W130 (v0:AV) (v1:AV) (v2:AV) (H:Heap) (K:AV→Heap→Prop):Prop:=
 boxV v0 H fun v3 H1=>
 boxV v2 H1 fun v5 H2=>
 buildSliceV tab 76 1 [(0,v1)] H2 (wkK fun v10 H3=>
 fieldAddrV tab 32 v3 0 fun v11=>
 loadV tab 23 v11 H3 fun v12=>
 lenV tab 23 v12 fun v13=>
 fieldAddrV tab 32 v3 1 fun v14=>
 loadV tab 23 v14 H3 fun v15=>
 lenV tab 23 v15 fun v16=>
 binV tab .add 3 v13 v16 fun v17=>
 CallT Try.prog 149 [v10,v17] H3 fun v18 H4=>
 allocV tab 76 H4 fun v7 H5=>
 storeV tab 76 v7 v18 H5 fun H6=>
 L130_0 K v3 v5 v7 (AV.p (.int .i64 0)) H6)
theorem W130_wp (v0:AV) (v1:AV) (v2:AV) (H:Heap) (K:AV→Heap→Prop):wpC Try.prog tab D130 (bodyOf Try.f130) (retF tab [.tmp 6] K) (nthA [v0,v1,v2]) H=W130 v0 v1 v2 H K:=by kernel_rfl
theorem W130_ok {v0 v1 v2:AV} {H:Heap} {K:AV→Heap→Prop} (h:W130 v0 v1 v2 H K):CallT Try.prog 130 [v0,v1,v2] H K:=
  CallT.of_wp (D:=D130) tab_ok mixed Try.func130 (c:=bodyOf Try.f130) (by kernel_rfl) rfl (by kernel_rfl) (rs:=#[.tmp 6]) rfl (by decide +kernel) (by kernel_rfl) (W130_wp v0 v1 v2 H K) h
theorem R130_1_rule {K:AV→Heap→Prop} {N1:AV→Heap→Prop} {v3 v5 v7 v19 v22:AV} {H:Heap} (f1 bx q n:Nat) (Inv:List Nat→Heap→Prop) (hB:BackOk Try.prog f1) (ht:v22=.fn f1 [.ptr bx 0]) (hn:0 < n∧n≤1000000) (h0:Inv [] H)
    (hI:∀ks H',Inv ks H'→H' bx=some [.sl q 1 0 n]∧∃bs:List Bool,H' q=some (bs.map fun b=>.p (.bool b))∧bs.length=n)
    (round:∀ks (j:Nat) H',j < n→Inv ks H'→RB130_1 (fun H''=>Inv (ks++[j]) H'') v3 v5 v7 (.p (.int .i64 j)) H')
    (fin:∀H',Inv ((List.range n).map fun j=>n - 1 - j) H'→binV tab .add 3 v19 (AV.p (.int .i64 1)) fun v37=>
      N1 v37 H'):R130_1 K N1 v3 v5 v7 v19 v22 H:=by
  unfold R130_1
  exact ⟨f1,bx,q,n,Inv,hB,Eq.trans (by kernel_rfl) ht,hn,h0,hI,fun ks j H' hj hi=>Eq.mp (by kernel_rfl) (round ks j H' hj hi),fun H' hi=>Eq.mp (by kernel_rfl) (fin H' hi)⟩
theorem L130_0_rule {K:AV→Heap→Prop} {v3 v5 v7 v19:AV} {H:Heap} {σ:Type} (s0:σ) (f19:σ→AV) (TH:σ→Heap) (pre:σ→Prop) (μ:σ→Nat)
    (h0:pre s0∧AV.wk v19 (f19 s0)∧Heap.le (TH s0) H)
    (round:∀s,pre s→B130_0 K (fun w19 H'=>∃s',pre s'∧μ s' < μ s∧AV.wk w19 (f19 s')∧Heap.le (TH s') H') v3 v5 v7 (f19 s) (TH s)) :
    L130_0 K v3 v5 v7 v19 H:=by
  unfold L130_0
  exact LoopV.mk s0 (fun s=>[f19 s]) TH pre μ (fun _=>rfl) (Eq.mp (by kernel_rfl) h0) (fun s hs=>Eq.mp (by kernel_rfl) (round s hs))
end Go.Proofs.Ytjdhigcefkihiaa
namespace Go.Proofs.Ytjdhigcefkihiaa
open Go Go.Sep
attribute [local irreducible] CallT
theorem i64_id {n:Int} (h0:-9223372036854775808≤n) (h1:n≤9223372036854775807):IntKind.i64.wrap n=n:=wrap64_id h0 h1
theorem wk_int {k:IntKind} {a b:Int}:AV.wk (.p (.int k a)) (.p (.int k b))=(a=b):=by
  apply propext;constructor
  · intro h;cases h;rfl
  · rintro rfl;exact .refl _
theorem take_all_succ {α:Type} {p:α→Bool} {xs:List α} {i:Nat} (h:i < xs.length):(xs.take (i+1)).all p=((xs.take i).all p && p xs[i]):=by
  rw [List.take_succ_eq_append_getElem h,List.all_append];simp
theorem getD_lt {α:Type} {xs:List α} {i:Nat} {d:α} (h:i < xs.length):xs.getD i d=xs[i]:=by simp [List.getD,h]
theorem getD_all {α:Type} {p:α→Prop} {l:List α} {d:α} (h:∀b∈l,p b) {i:Nat} (hi:i < l.length):p (l.getD i d):=by
  simp only [List.getD,List.getElem?_eq_getElem hi,Option.getD_some];exact h _ (List.getElem_mem hi)
theorem range_all_false {p:Nat→Bool} {n i:Nat} (hi:i < n) (h:p i=false):(List.range n).all p=false:=by
  rw [List.all_eq_false];exact ⟨i,List.mem_range.2 hi,by simp [h]⟩
theorem Wk.own_le {q sz:Nat} {es:List (List PV)} {H H':Heap} (hpos:0 < sz) (hs:Sized sz es) (hq:H q=none) (hle:Heap.le (H.set q (cells es)) H'):Wk (own q sz es) H' (.p (.sl es)) H:=by
  have h1:H' q=some (cells es):=hle q _ (Heap.set_same _ _ _)
  refine .trans (.own hpos hs h1) (.forget (Heap.le_del (fun x b hx=>hle x b ?_) hq))
  rw [Heap.set_other (fun e=>by rw [e,hq] at hx;cases hx)];exact hx
theorem CallT.fin {P:Program} {f:Nat} {args:List AV} {H:Heap} {K:AV→Heap→Prop} (h:CallT P f args H (wkK K)):CallT P f args H K:=
  h.wk fun v H1 ⟨v',H2,hw,hk⟩=>⟨v',H2,hw,hk⟩
theorem szI (xs:List Int):Sized 1 (xs.map eI):=sizedMap (f:=eI) (fun _=>rfl) xs
theorem cells_I (xs:List Int):cells (xs.map eI)=xs.map fun n=>I n:=by
  induction xs with
  | nil=>rfl
  | cons x xs ih=>simp only [cells,List.map_cons,List.flatten_cons,List.map_append] at ih ⊢;rw [ih];rfl
abbrev eL (l:List Int):List PV:=[.sl (l.map eI)]
abbrev Ls (cs:List (List Int)):AV:=.p (.sl (cs.map eL))
abbrev Bs (bs:List Bool):AV:=.p (.sl (bs.map eB))
theorem fin_own {q sz:Nat} {es:List (List PV)} {H H':Heap} {K:AV→Heap→Prop} (hpos:0 < sz) (hs:Sized sz es) (hq:H q=none) (hle:Heap.le (H.set q (cells es)) H') (h:K (.p (.sl es)) H):wkK K (own q sz es) H':=
  ⟨_,_,Wk.own_le hpos hs hq hle,h⟩
theorem fin_le {v:AV} {H H':Heap} {K:AV→Heap→Prop} (hle:Heap.le H H') (h:K v H):wkK K v H':=⟨_,_,.forget hle,h⟩
def PuAt (P:Program) (f:Nat) (args:List AV) (H:Heap) (v:AV):Prop:=∀K:AV→Heap→Prop,K v H→CallT P f args H K
theorem Pu.at {P:Program} {f:Nat} {args:List AV} {v:AV} (h:Pu P f args v) (H:Heap):PuAt P f args H v:=fun K hk=>h.use hk
theorem PuAt.use {P:Program} {f:Nat} {args:List AV} {v:AV} {H:Heap} (h:PuAt P f args H v) {K:AV→Heap→Prop} (k:K v H):CallT P f args H K:=h K k
def enumP:Nat→List PV→List (Nat×AV)
  | _,[]=>[]
  | k,v::vs=>(k,.p v)::enumP (k+1) vs
theorem fill_enum:∀(vs:List PV) (k:Nat) (a:List AV) (b:List AV),a.length=k→vs.length≤b.length→
    fillV (fun i=>some (i*1,1)) (a++b) (enumP k vs)=some (a++vs.map .p++b.drop vs.length)
  | [],k,a,b,h1,h2=>by simp [enumP,fillV]
  | v::vs,k,a,b,h1,h2=>by
    match b,h2 with
    | x::b,h2=>
      have hb:vs.length≤b.length:=by simpa using h2
      have ih:=fill_enum vs (k+1) (a++[.p v]) b (by simp [h1]) hb
      simp only [enumP,fillV,AV.cells,List.length_cons,List.length_nil,Nat.zero_add,Nat.mul_one]
      rw [if_pos ⟨trivial,by simp [h1]⟩]
      have hs:splice (a++x::b) k [AV.p v]=(a++[AV.p v])++b:=by
        subst h1
        simp [splice,List.append_assoc,List.drop_append]
      rw [hs]
      simp only [Nat.mul_one] at ih
      rw [ih]
      simp
theorem lit_gen {tab:Tab} {t e:Nat} {d ed:TD} {H:Heap} {K:AV→Heap→Prop} (h1:tab t=some d) (h2:d.k=.slice e) (h3:tab e=some ed) (h4:ed.size=1∧ed.zero.length=1) (vs:List PV)
    (hsm:vs.length≤1000)
    (h:K (.p (.sl (vs.map fun v=>[v]))) H):buildSliceV tab t vs.length (enumP 0 vs) H (wkK K):=by
  obtain ⟨z,hz⟩:∃z,ed.zero=[z]:=by
    match ed.zero,h4.2 with
    | [z],_=>exact ⟨z,rfl⟩
  simp only [buildSliceV,h1,h2,h3,h4.1]
  refine ⟨by omega,?_⟩
  have hzl:(zerosA vs.length ed.zero).length=vs.length:=by rw [zerosA_len,hz];simp
  have:=fill_enum vs 0 [] (zerosA vs.length ed.zero) rfl (by omega)
  rw [List.nil_append,List.nil_append,List.drop_of_length_le (by omega),List.append_nil] at this
  rw [this]
  intro r hr
  have hf:∀vs:List PV,(vs.map fun v=>[v]).flatten=vs:=by
    intro vs
    induction vs with
    | nil=>rfl
    | cons v vs ih=>simp only [List.map_cons,List.flatten_cons,ih,List.singleton_append]
  refine ⟨_,_,Wk.trans (Wk.frz (r:=r) (sz:=1) (es:=vs.map fun v=>[v]) (v:=.sl r 1 0 vs.length) (v':=.p (.sl (vs.map fun v=>[v]))) (by omega) ?_ ?_ ?_) (.forget ?_),h⟩
  · rw [Heap.set_same,hf vs]
  · intro e he;obtain ⟨v,_,rfl⟩:=List.mem_map.1 he;rfl
  · have:FrzR r 1 (vs.map fun v=>[v]) (.sl r 1 0 (vs.map fun v=>[v]).length) (.p (.sl (vs.map fun v=>[v]))):=.here
    rwa [List.length_map] at this
  · rw [Heap.del_set hr];exact Heap.le_refl _
end Go.Proofs.Ytjdhigcefkihiaa
namespace Go.Proofs.Ytjdhigcefkihiaa
open Go Go.Sep
theorem typed_byte {x:List PV} (h:Typed Try.prog 5 x):∃n:Int,(0≤n∧n < 256)∧x=e8 n:=by
  have hu:Try.prog.underlying 5=some (.int .u8):=by kernel_rfl
  cases h with
  | bool h=>rw [hu] at h;cases h
  | int h hw=>
    rw [hu] at h;cases h
    rename_i n
    refine ⟨n,?_,rfl⟩
    simp only [Lit.wf,Bool.and_eq_true,decide_eq_true_eq] at hw
    have e1:IntKind.u8.min=0:=by decide
    have e2:IntKind.u8.max=255:=by decide
    rw [e1,e2] at hw
    omega
  | str h _=>rw [hu] at h;cases h
  | sl h _ _=>rw [hu] at h;cases h
  | struct h _=>rw [hu] at h;cases h
theorem typed_rows:∀(es:List (List PV)),(∀x∈es,Typed Try.prog 5 x)→∃ns:List Int,(∀b∈ns,0≤b∧b < 256)∧es=ns.map e8
  | [],_=>⟨[],fun b hb=>by simp at hb,rfl⟩
  | x::es,h=>by
    obtain ⟨n,hn,rfl⟩:=typed_byte (h x (by simp))
    obtain ⟨ns,hns,rfl⟩:=typed_rows es fun y hy=>h y (by simp [hy])
    refine ⟨n::ns,?_,rfl⟩
    intro b hb
    rcases List.mem_cons.1 hb with rfl | hb
    · exact hn
    · exact hns b hb
theorem arg_bytes {v:AV} (h:ArgT Try.prog 41 v):∃ns:List Int,(∀b∈ns,0≤b∧b < 256)∧v=.p (.sl (ns.map e8)):=by
  have hu:Try.prog.underlying 41=some (.slice 5):=by kernel_rfl
  cases h with
  | cell hs h=>
    cases h with
    | bool h=>rw [hu] at h;cases h
    | int h hw=>rw [hu] at h;cases h
    | str h _=>rw [hu] at h;cases h
    | sl h hl he=>
      rw [hu] at h;cases h
      obtain ⟨ns,hns,rfl⟩:=typed_rows _ he
      exact ⟨ns,hns,rfl⟩
    | struct h _=>rw [hu] at h;cases h
  | agg h _=>rw [hu] at h;cases h
end Go.Proofs.Ytjdhigcefkihiaa
namespace Go.Proofs.Ytjdhigcefkihiaa
open Go Go.Sep
attribute [local irreducible] CallT
theorem l1In_spec (a lo hi:Int):Pu Try.prog 77 [I a,I lo,I hi] (B (decide (lo≤a) && decide (a≤hi))):=by
  refine Pu.of fun H=>?_
  refine W77_ok ?_;simp (maxSteps:=1000000) (disch:=first | assumption | (apply ν6;assumption)) only [W77,vz,vu,vv,eqS,eF_,↓c1_,↓c2_,tabs,reduceCtorEq,ι5,↓reduceIte,ν1,ν2,ν3,ν4,ν5,ι1,ι2,ι3,ι4]
  exact ⟨fun h=>by simp [h],fun h=>by simp [h]⟩
end Go.Proofs.Ytjdhigcefkihiaa
namespace Go.Proofs.Ytjdhigcefkihiaa
open Go Go.Sep
theorem cells_map_len {α:Type} {e:α→List PV} {sz:Nat} (h:∀a,(e a).length=sz) (xs:List α):(cells (xs.map e)).length=xs.length*sz:=by
  rw [cells_len (sizedMap h xs),List.length_map]
theorem zerosA_succ (n:Nat) (z:List AV):zerosA (n+1) z=z++zerosA n z:=by simp [zerosA,List.replicate_succ]
end Go.Proofs.Ytjdhigcefkihiaa
namespace Go.Pt
structure Nd where
  op:Int
  n:Int
deriving Inhabited,DecidableEq
structure Ch where
  var:Int
  by_:List Nd
deriving Inhabited,DecidableEq
structure Cm where
  when_:List Nd
  chs:List Ch
deriving Inhabited,DecidableEq
structure Pg where
  wide:Int
  vars:Int
  start:List Nd
  cmds:List Cm
deriving Inhabited,DecidableEq
def inB (n lo hi:Int):Bool:=decide (lo≤n) && decide (n≤hi)
theorem inB_iff {n lo hi:Int}:inB n lo hi=true↔lo≤n∧n≤hi:=by simp [inB]
def own (op:Int):Int:=
  if op=1∨op=2∨op=13∨(3≤op∧op≤12) then 1
  else if op=20∨op=19∨(14≤op∧op≤16)∨op=17∨op=18 then 2 else 0
def many (op:Int):Nat:=
  if op=13∨op=19 then 1 else if (3≤op∧op≤12)∨(14≤op∧op≤16)∨op=17∨op=18 then 2 else 0
def part (op:Int):Int:=
  if op=13∨(3≤op∧op≤12)∨(14≤op∧op≤16) then 1 else 2
def leafOk (wide vars:Int) (x:Nd):Bool:=
  if x.op=1 then inB wide 1 64 && decide (x.n < 2^wide.toNat)
  else if x.op=2 then decide (x.n < vars)
  else if x.op=20 then decide (x.n≤1)
  else decide (x.n=0)
def step (w v:Int) (p:List Int) (x:Nd):Option (List Int):=
  if own x.op=0∨leafOk w v x=false∨p.length < many x.op then none
  else if (p.drop (p.length - many x.op)).any (fun k=>decide (k≠part x.op)) then none
  else some (p.take (p.length - many x.op)++[own x.op])
def run (w v:Int):List Int→List Nd→Option (List Int)
  | p,[]=>some p
  | p,x::xs=>(step w v p x).bind fun p'=>run w v p' xs
def frame (w v:Int) (t:List Nd):Bool:=inB w 1 64 && inB v 1 4 && (decide (1≤t.length) && decide (t.length≤48))
def kind (w v:Int) (t:List Nd):Int:=
  if frame w v t then (match run w v [] t with
    | some [k]=>k
    | _=>0) else 0
theorem take_succ_snoc {α:Type} [Inhabited α] {xs:List α} {i:Nat} (h:i < xs.length):xs.take (i+1)=xs.take i++[xs.getD i default]:=by
  rw [List.take_succ_eq_append_getElem h];simp [List.getD,h]
end Go.Pt
namespace Go.Proofs.Ytjdhigcefkihiaa
open Go Go.Sep Go.Pt
attribute [local irreducible] CallT
abbrev eN (x:Nd):List PV:=[.int .i64 x.op,.int .u64 x.n]
abbrev Ns (xs:List Nd):AV:=.p (.sl (xs.map eN))
abbrev eCh (c:Ch):List PV:=[.int .i64 c.var,.sl (c.by_.map eN)]
abbrev eCm (c:Cm):List PV:=[.sl (c.when_.map eN),.sl (c.chs.map eCh)]
abbrev Cms (cs:List Cm):AV:=.p (.sl (cs.map eCm))
abbrev aPg (p:Pg):AV:=.agg [I p.wide,I p.vars,Ns p.start,Cms p.cmds]
abbrev aS (of:List Int):AV:=.agg [Is of]
def ok (n:Nat):Prop:=n≤9223372036854775807
end Go.Proofs.Ytjdhigcefkihiaa
namespace Go.Proofs.Ytjdhigcefkihiaa
open Go Go.Sep Go.Pt
attribute [local irreducible] CallT
end Go.Proofs.Ytjdhigcefkihiaa
namespace Go.Sep
open Go Go.RowKit
abbrev Lay (α:Type):=α→List AV→Heap→List Nat→Prop
def LPl {α:Type} (e:α→List PV):Lay α:=fun a cs _ D=>cs=(e a).map .p∧D=[]
def LL {α:Type} (L:Lay α):List α→List AV→Heap→List Nat→Prop
  | [],cs,_,D=>cs=[]∧D=[]
  | a::az,cs,G,D=>∃c1 c2 D1 D2,cs=c1++c2∧D=D1++D2∧L a c1 G D1∧LL L az c2 G D2
def LRow {α:Type} (L:Lay α) (sz:Nat):List α→AV→Heap→List Nat→Prop:=fun xs x G D=>∃q cs D',x=.sl q sz 0 xs.length∧G q=some cs∧LL L xs cs G D'∧D=q::D'
def Lay.Local {α:Type} (L:Lay α):Prop:=∀a cs G G' D,L a cs G D→(∀y∈D,∀b,G y=some b→G' y=some b)→L a cs G' D
def Lay.Size {α:Type} (L:Lay α) (sz:Nat):Prop:=∀a cs G D,L a cs G D→cs.length=sz
theorem LPl.local {α:Type} (e:α→List PV):Lay.Local (LPl e):=fun a cs G G' D h _=>h
theorem LPl.size {α:Type} {e:α→List PV} {sz:Nat} (h:∀a,(e a).length=sz):Lay.Size (LPl e) sz:=fun a cs G D hl=>by rw [hl.1,List.length_map,h]
theorem LL.local {α:Type} {L:Lay α} (hL:L.Local):∀{az:List α} {cs:List AV} {G G':Heap} {D:List Nat},LL L az cs G D→(∀y∈D,∀b,G y=some b→G' y=some b)→LL L az cs G' D
  | [],cs,G,G',D,h,_=>h
  | a::az,cs,G,G',D,⟨c1,c2,D1,D2,e1,e2,h1,h2⟩,hf=>by
    subst e2
    exact ⟨c1,c2,D1,D2,e1,rfl,hL _ _ _ _ _ h1 (fun y hy=>hf y (List.mem_append_left _ hy)),LL.local hL h2 (fun y hy=>hf y (List.mem_append_right _ hy))⟩
theorem LL.size {α:Type} {L:Lay α} {sz:Nat} (hL:L.Size sz):∀{az:List α} {cs:List AV} {G:Heap} {D:List Nat},LL L az cs G D→cs.length=az.length*sz
  | [],cs,G,D,h=>by rw [h.1];simp
  | a::az,cs,G,D,⟨c1,c2,D1,D2,e1,e2,h1,h2⟩=>by
    rw [e1,List.length_append,hL _ _ _ _ h1,LL.size hL h2,List.length_cons,Nat.add_mul,Nat.one_mul];omega
theorem LRow.local {α:Type} {L:Lay α} {sz:Nat} (hL:L.Local) {xs:List α} {x:AV} {G G':Heap} {D:List Nat} (h:LRow L sz xs x G D) (hf:∀y∈D,∀b,G y=some b→G' y=some b):LRow L sz xs x G' D:=by
  obtain ⟨q,cs,D',e1,e2,e3,e4⟩:=h
  subst e4
  exact ⟨q,cs,D',e1,hf q (by simp) _ e2,LL.local hL e3 (fun y hy=>hf y (by simp [hy])),rfl⟩
def Lay.Has {α:Type} (L:Lay α):Prop:=∀a cs G D,L a cs G D→∀y∈D,G y≠none
theorem LPl.has {α:Type} (e:α→List PV):Lay.Has (LPl e):=fun a cs G D h y hy=>by rw [h.2] at hy;cases hy
theorem LL.has {α:Type} {L:Lay α} (hL:L.Has):∀{az:List α} {cs:List AV} {G:Heap} {D:List Nat},LL L az cs G D→∀y∈D,G y≠none
  | [],cs,G,D,h=>fun y hy=>by rw [h.2] at hy;cases hy
  | a::az,cs,G,D,⟨c1,c2,D1,D2,e1,e2,h1,h2⟩=>fun y hy=>by
    rw [e2] at hy
    rcases List.mem_append.1 hy with hy | hy
    · exact hL _ _ _ _ h1 y hy
    · exact LL.has hL h2 y hy
theorem LRow.has {α:Type} {L:Lay α} {sz:Nat} (hL:L.Has) {xs:List α} {x:AV} {G:Heap} {D:List Nat} (h:LRow L sz xs x G D):∀y∈D,G y≠none:=by
  obtain ⟨q,cs,D',e1,e2,e3,e4⟩:=h
  intro y hy
  rw [e4] at hy
  rcases List.mem_cons.1 hy with rfl | hy
  · rw [e2];simp
  · exact LL.has hL e3 y hy
theorem LL.plain {α:Type} {e:α→List PV} {G:Heap}:∀(xs:List α),LL (LPl e) xs (cells (xs.map e)) G []
  | []=>⟨rfl,rfl⟩
  | x::xs=>⟨(e x).map .p,cells (xs.map e),[],[],by simp [cells],rfl,⟨rfl,rfl⟩,LL.plain xs⟩
theorem splice_at {pre c c' post:List AV} {off n:Nat} (ho:off=pre.length) (hn:n=c'.length) (hc:c.length=c'.length):List.take off (pre++(c++post))++c'++List.drop (off+n) (pre++(c++post))=pre++(c'++post):=by
  subst ho;subst hn
  rw [List.take_left',List.append_assoc]
  · congr 2
    rw [List.drop_append,← hc]
    simp
  · rfl
theorem LL.snoc {α:Type} {L:Lay α} {a:α} {c2:List AV} {G:Heap} {D2:List Nat} (h2:L a c2 G D2):∀{az:List α} {c1:List AV} {D1:List Nat},LL L az c1 G D1→LL L (az++[a]) (c1++c2) G (D1++D2)
  | [],c1,D1,h=>by
    obtain ⟨rfl,rfl⟩:=h
    exact ⟨c2,[],D2,[],by simp,by simp,h2,rfl,rfl⟩
  | b::az,c1,D1,⟨d1,d2,E1,E2,e1,e2,h1,h3⟩=>by
    subst e1;subst e2
    exact ⟨d1,d2++c2,E1,E2++D2,by simp,by simp,h1,LL.snoc h2 h3⟩
theorem LL.split {α:Type} [Inhabited α] {L:Lay α} {sz:Nat} (hL:L.Size sz):∀{az:List α} {cs:List AV} {G:Heap} {D:List Nat} {i:Nat},LL L az cs G D→i < az.length→
    ∃c1 c c2 D1 Di D2,cs=c1++(c++c2)∧D=D1++(Di++D2)∧c1.length=i*sz∧L (az.getD i default) c G Di∧LL L (az.take i) c1 G D1∧LL L (az.drop (i+1)) c2 G D2
  | a::az,cs,G,D,0,⟨c1,c2,D1,D2,e1,e2,h1,h2⟩,_=>⟨[],c1,c2,[],D1,D2,by simpa using e1,by simpa using e2,by simp,by simpa using h1,⟨rfl,rfl⟩,by simpa using h2⟩
  | a::az,cs,G,D,i+1,⟨c1,c2,D1,D2,e1,e2,h1,h2⟩,hi=>by
    obtain ⟨d1,d,d2,E1,Ei,E2,f1,f2,f3,f4,f5,f6⟩:=LL.split hL h2 (i:=i) (by simpa using hi)
    subst e1;subst e2;subst f1;subst f2
    refine ⟨c1++d1,d,d2,D1++E1,Ei,E2,by simp,by simp,?_,by simpa using f4,⟨c1,d1,D1,E1,rfl,rfl,h1,f5⟩,by simpa using f6⟩
    rw [List.length_append,hL _ _ _ _ h1,f3,Nat.add_mul,Nat.one_mul];omega
def Lay.Frz {α:Type} (L:Lay α) (e:α→List PV):Prop:=∀(a:α) (cs:List AV) (G:Heap) (D:List Nat) (v:AV) (s:Nat) (pre post:List AV),L a cs G D→D.Nodup→s∉D→G s=some (pre++(cs++post))→
  ∃G',Wk v G v G'∧G' s=some (pre++((e a).map .p++post))∧∀y,y≠s→y∉D→G' y=G y
theorem LPl.frz {α:Type} (e:α→List PV):(LPl e).Frz e:=by
  rintro a cs G D v s pre post ⟨rfl,rfl⟩ _ _ hs
  exact ⟨G,.refl _ _,hs,fun _ _ _=>rfl⟩
theorem LL.frz {α:Type} {L:Lay α} {e:α→List PV} (hl:L.Local) (hf:L.Frz e):∀(az:List α) (cs:List AV) (G:Heap) (D:List Nat) (v:AV) (s:Nat) (pre post:List AV),LL L az cs G D→D.Nodup→s∉D→G s=some (pre++(cs++post))→
    ∃G',Wk v G v G'∧G' s=some (pre++((az.map e).flatten.map .p++post))∧∀y,y≠s→y∉D→G' y=G y
  | [],cs,G,D,v,s,pre,post,h,hD,hs,hG=>by
    obtain ⟨rfl,rfl⟩:=h
    exact ⟨G,.refl _ _,by simpa using hG,fun _ _ _=>rfl⟩
  | a::az,cs,G,D,v,s,pre,post,⟨c1,c2,D1,D2,e1,e2,h1,h2⟩,hD,hs,hG=>by
    subst e1;subst e2
    rw [List.nodup_append] at hD
    rw [List.mem_append,not_or] at hs
    obtain ⟨G1,w1,k1,f1⟩:=hf a c1 G D1 v s pre (c2++post) h1 hD.1 hs.1 (by rw [hG];simp)
    have h2':LL L az c2 G1 D2:=LL.local hl h2 fun y hy b hb=>by rw [f1 y (fun e=>hs.2 (e ▸ hy)) (fun hy1=>hD.2.2 y hy1 y hy rfl)];exact hb
    obtain ⟨G2,w2,k2,f2⟩:=LL.frz hl hf az c2 G1 D2 v s (pre++(e a).map .p) post h2' hD.2.1 hs.2 (by rw [k1];simp)
    refine ⟨G2,.trans w1 w2,by rw [k2];simp,fun y hy hyD=>?_⟩
    rw [List.mem_append,not_or] at hyD
    rw [f2 y hy hyD.2,f1 y hy hyD.1]
theorem FrzL.refl' {r sz:Nat} {es:List (List PV)}:∀vs,FrzL r sz es vs vs
  | []=>.nil
  | v::vs=>.cons (.same v) (FrzL.refl' vs)
theorem FrzL.at {r sz:Nat} {es:List (List PV)} {x x':AV} (h:FrzR r sz es x x') (post:List AV):∀pre,FrzL r sz es (pre++([x]++post)) (pre++([x']++post))
  | []=>.cons h (FrzL.refl' post)
  | v::pre=>.cons (.same v) (FrzL.at h post pre)
theorem LRow.frzIn {α:Type} {L:Lay α} {e:α→List PV} {sz:Nat} (hpos:0 < sz) (he:∀a,(e a).length=sz) (hl:L.Local) (hf:L.Frz e) {xs:List α} {x:AV} {G:Heap} {D:List Nat} {v:AV} {s:Nat} {pre post:List AV} (h:LRow L sz xs x G D) (hD:D.Nodup) (hs:s∉D) (hG:G s=some (pre++([x]++post))) :
    ∃G',Wk v G v G'∧G' s=some (pre++([.p (.sl (xs.map e))]++post))∧∀y,y≠s→y∉D→G' y=G y:=by
  obtain ⟨q,cs,D',rfl,hq,hll,rfl⟩:=h
  rw [List.nodup_cons] at hD
  rw [List.mem_cons,not_or] at hs
  obtain ⟨G1,w1,k1,f1⟩:=LL.frz hl hf xs cs G D' v q [] [] hll hD.2 hD.1 (by simpa using hq)
  have hG1:G1 s=some (pre++([.sl q sz 0 xs.length]++post)):=by rw [f1 s hs.1 hs.2];exact hG
  have k1':G1 q=some ((xs.map e).flatten.map .p):=by simpa using k1
  have hr:FrzR q sz (xs.map e) (.sl q sz 0 xs.length) (.p (.sl (xs.map e))):=by
    have:FrzR q sz (xs.map e) (.sl q sz 0 (xs.map e).length) (.p (.sl (xs.map e))):=.here
    rwa [List.length_map] at this
  refine ⟨(G1.del q).set s (pre++([.p (.sl (xs.map e))]++post)),.trans w1 (Wk.frzAt hpos k1' (sizedMap he xs) hG1 hs.1 (FrzL.at hr post pre) (.same v) (by simp)),Heap.set_same _ _ _,fun y hy hyD=>?_⟩
  rw [List.mem_cons,not_or] at hyD
  rw [Heap.set_other hy,Heap.del_other hyD.1,f1 y hyD.1 hyD.2]
theorem LRow.frzV {α:Type} {L:Lay α} {e:α→List PV} {sz:Nat} (hpos:0 < sz) (he:∀a,(e a).length=sz) (hl:L.Local) (hf:L.Frz e) {xs:List α} {x:AV} {G:Heap} {D:List Nat} {v v':AV} (h:LRow L sz xs x G D) (hD:D.Nodup)
    (hv:∀q,x=.sl q sz 0 xs.length→FrzR q sz (xs.map e) x (.p (.sl (xs.map e)))→FrzR q sz (xs.map e) v v') :
    ∃G',Wk v G v' G'∧∀y,y∉D→G' y=G y:=by
  obtain ⟨q,cs,D',rfl,hq,hll,rfl⟩:=h
  rw [List.nodup_cons] at hD
  obtain ⟨G1,w1,k1,f1⟩:=LL.frz hl hf xs cs G D' v q [] [] hll hD.2 hD.1 (by simpa using hq)
  have k1':G1 q=some ((xs.map e).flatten.map .p):=by simpa using k1
  have hr:FrzR q sz (xs.map e) (.sl q sz 0 xs.length) (.p (.sl (xs.map e))):=by
    have:FrzR q sz (xs.map e) (.sl q sz 0 (xs.map e).length) (.p (.sl (xs.map e))):=.here
    rwa [List.length_map] at this
  refine ⟨G1.del q,.trans w1 (Wk.frz hpos k1' (sizedMap he xs) (hv q rfl hr)),fun y hyD=>?_⟩
  rw [List.mem_cons,not_or] at hyD
  rw [Heap.del_other hyD.1,f1 y hyD.1 hyD.2]
def Lay.Gd {α:Type} (L:Lay α):Prop:=∀a cs G D,L a cs G D→(∀c∈cs,GdC c)∧∀y∈D,∀bs,G y=some bs→∀c∈bs,GdC c
def Lay.Sh {α:Type} (L:Lay α):Prop:=∀a cs G D n G0,(∀q,n≤q→G0 q=none)→L a cs G D→L a (cs.map (shC n)) (Heap.or G0 (shH n G)) (D.map (·+n))
theorem LPl.gd {α:Type} {e:α→List PV} (h:∀a,∀x∈e a,Plain (.p x)):Lay.Gd (LPl e):=by
  rintro a cs G D ⟨rfl,rfl⟩
  refine ⟨fun c hc=>?_,fun y hy=>by cases hy⟩
  obtain ⟨x,hx,rfl⟩:=List.mem_map.1 hc
  exact .p (h a x hx)
theorem LPl.sh {α:Type} (e:α→List PV):Lay.Sh (LPl e):=by
  rintro a cs G D n G0 _ ⟨rfl,rfl⟩
  exact ⟨by rw [List.map_map];rfl,rfl⟩
theorem LL.gd {α:Type} {L:Lay α} (hL:L.Gd):∀{az:List α} {cs:List AV} {G:Heap} {D:List Nat},LL L az cs G D→(∀c∈cs,GdC c)∧∀y∈D,∀bs,G y=some bs→∀c∈bs,GdC c
  | [],_,_,_,⟨e1,e2⟩=>by subst e1;subst e2;exact ⟨(fun c hc=>by cases hc),(fun y hy=>by cases hy)⟩
  | a::az,_,_,_,⟨c1,c2,D1,D2,e1,e2,h1,h2⟩=>by
    subst e1;subst e2
    obtain ⟨a1,a2⟩:=hL _ _ _ _ h1
    obtain ⟨b1,b2⟩:=LL.gd hL h2
    refine ⟨fun c hc=>?_,fun y hy=>?_⟩
    · rcases List.mem_append.1 hc with hc | hc
      · exact a1 c hc
      · exact b1 c hc
    · rcases List.mem_append.1 hy with hy | hy
      · exact a2 y hy
      · exact b2 y hy
theorem LL.sh {α:Type} {L:Lay α} (hL:L.Sh) {n:Nat} {G0:Heap} (h0:∀q,n≤q→G0 q=none):∀{az:List α} {cs:List AV} {G:Heap} {D:List Nat},LL L az cs G D→LL L az (cs.map (shC n)) (Heap.or G0 (shH n G)) (D.map (·+n))
  | [],_,_,_,⟨e1,e2⟩=>by subst e1;subst e2;exact ⟨rfl,rfl⟩
  | a::az,_,_,_,⟨c1,c2,D1,D2,e1,e2,h1,h2⟩=>by
    subst e1;subst e2
    exact ⟨_,_,_,_,List.map_append,List.map_append,hL _ _ _ _ n G0 h0 h1,LL.sh hL h0 h2⟩
theorem or_sh {G0 G:Heap} {n q:Nat} (h0:∀q,n≤q→G0 q=none):(Heap.or G0 (shH n G)) (q+n)=(G q).map (List.map (shC n)):=by
  simp only [Heap.or,shH,h0 (q+n) (by omega),show n≤q+n by omega,if_true,Nat.add_sub_cancel]
theorem LRow.gd {α:Type} {L:Lay α} {sz:Nat} (hL:L.Gd) {xs:List α} {x:AV} {G:Heap} {D:List Nat} (h:LRow L sz xs x G D):GdC x∧∀y∈D,∀bs,G y=some bs→∀c∈bs,GdC c:=by
  obtain ⟨q,cs,D',rfl,hq,hll,rfl⟩:=h
  obtain ⟨h1,h2⟩:=LL.gd hL hll
  refine ⟨.inl ⟨_,_,_,_,rfl⟩,fun y hy bs hb=>?_⟩
  rcases List.mem_cons.1 hy with rfl | hy
  · rw [hq] at hb;cases hb;exact h1
  · exact h2 y hy bs hb
theorem LRow.sh {α:Type} {L:Lay α} {sz:Nat} (hL:L.Sh) {n:Nat} {G0:Heap} (h0:∀q,n≤q→G0 q=none) {xs:List α} {x:AV} {G:Heap} {D:List Nat} (h:LRow L sz xs x G D):LRow L sz xs (shC n x) (Heap.or G0 (shH n G)) (D.map (·+n)):=by
  obtain ⟨q,cs,D',rfl,hq,hll,rfl⟩:=h
  exact ⟨q+n,cs.map (shC n),D'.map (·+n),rfl,by rw [or_sh h0,hq];rfl,LL.sh hL h0 hll,rfl⟩
def only (D:List Nat) (G:Heap):Heap:=fun y=>if y∈D then G y else none
end Go.Sep
namespace Go.Proofs.Ytjdhigcefkihiaa
open Go Go.Sep Go.Pt
attribute [local irreducible] CallT
abbrev LN:List Nd→AV→Heap→List Nat→Prop:=LRow (LPl eN) 2
abbrev LI:List Int→AV→Heap→List Nat→Prop:=LRow (LPl eI) 1
def LCh:Lay Ch:=fun c cs G D=>∃x,cs=[I c.var,x]∧LN c.by_ x G D
def LCm:Lay Cm:=fun c cs G D=>∃x y D1 D2,cs=[x,y]∧D=D1++D2∧LN c.when_ x G D1∧LRow LCh 2 c.chs y G D2
theorem LCh.local:Lay.Local LCh:=by
  rintro c cs G G' D ⟨x,e,h⟩ hf
  exact ⟨x,e,LRow.local (LPl.local eN) h hf⟩
theorem LCh.size:Lay.Size LCh 2:=by
  rintro c cs G D ⟨x,rfl,h⟩;rfl
theorem LCh.has:Lay.Has LCh:=by
  rintro c cs G D ⟨x,e,h⟩
  exact LRow.has (LPl.has eN) h
theorem LCh.frz:Lay.Frz LCh eCh:=by
  rintro c cs G D v s pre post ⟨x,rfl,h⟩ hD hs hG
  obtain ⟨G',w,k,f⟩:=LRow.frzIn (e:=eN) (sz:=2) (pre:=pre++[I c.var]) (post:=post) (v:=v) (by omega) (fun _=>rfl) (LPl.local eN) (LPl.frz eN) h hD hs (by rw [hG];simp)
  exact ⟨G',w,by rw [k];simp,f⟩
theorem LCm.local:Lay.Local LCm:=by
  rintro c cs G G' D ⟨x,y,D1,D2,e,rfl,h1,h2⟩ hf
  exact ⟨x,y,D1,D2,e,rfl,LRow.local (LPl.local eN) h1 (fun z hz=>hf z (List.mem_append_left _ hz)),LRow.local LCh.local h2 (fun z hz=>hf z (List.mem_append_right _ hz))⟩
theorem LCm.size:Lay.Size LCm 2:=by
  rintro c cs G D ⟨x,y,D1,D2,rfl,e,h1,h2⟩;rfl
theorem LCm.has:Lay.Has LCm:=by
  rintro c cs G D ⟨x,y,D1,D2,e,rfl,h1,h2⟩ z hz
  rcases List.mem_append.1 hz with hz | hz
  · exact LRow.has (LPl.has eN) h1 z hz
  · exact LRow.has LCh.has h2 z hz
theorem LCm.frz:Lay.Frz LCm eCm:=by
  rintro c cs G D v s pre post ⟨x,y,D1,D2,rfl,rfl,h1,h2⟩ hD hs hG
  rw [List.nodup_append] at hD
  rw [List.mem_append,not_or] at hs
  obtain ⟨G1,w1,k1,f1⟩:=LRow.frzIn (e:=eN) (sz:=2) (pre:=pre) (post:=y::post) (v:=v) (by omega) (fun _=>rfl) (LPl.local eN) (LPl.frz eN) h1 hD.1 hs.1 (by rw [hG];simp)
  have h2':LRow LCh 2 c.chs y G1 D2:=LRow.local LCh.local h2 fun z hz b hb=>by rw [f1 z (fun e=>hs.2 (e ▸ hz)) (fun hz1=>hD.2.2 z hz1 z hz rfl)];exact hb
  obtain ⟨G2,w2,k2,f2⟩:=LRow.frzIn (e:=eCh) (sz:=2) (pre:=pre++[Ns c.when_]) (post:=post) (v:=v) (by omega) (fun _=>rfl) LCh.local LCh.frz h2' hD.2.1 hs.2 (by rw [k1];simp)
  refine ⟨G2,.trans w1 w2,by rw [k2];simp,fun z hz hzD=>?_⟩
  rw [List.mem_append,not_or] at hzD
  rw [f2 z hz hzD.2,f1 z hz hzD.1]
structure New (H G:Heap) (D:List Nat):Prop where
  nd:D.Nodup
  fr:∀y∈D,H y=none
  le:Heap.le H G
theorem New.trans {H G G':Heap} {D D':List Nat} (n:New H G D) (m:New G G' D') (hh:∀y∈D,G y≠none):New H G' (D++D'):=by
  refine ⟨List.nodup_append.2 ⟨n.nd,m.nd,fun a ha b hb e=>hh a ha (by rw [e];exact m.fr b hb)⟩,fun y hy=>?_,Heap.le_trans n.le m.le⟩
  rcases List.mem_append.1 hy with hy | hy
  · exact n.fr y hy
  · cases hh:H y with
    | none=>rfl
    | some b=>rw [← m.fr y hy,n.le y b hh]
theorem New.base {H H' G:Heap} {D:List Nat} (n:New H' G D) (hle:Heap.le H H'):New H G D:=
  ⟨n.nd,fun y hy=>by
    cases hh:H y with
    | none=>rfl
    | some b=>rw [← n.fr y hy,hle y b hh],Heap.le_trans hle n.le⟩
theorem New.put {H G:Heap} {D:List Nat} (n:New H G D) {q:Nat} (hq:H q=none) (b:List AV):New H (G.set q b) D:=⟨n.nd,n.fr,Heap.le_setN n.le hq⟩
theorem LRow.sl {α:Type} {L:Lay α} {sz:Nat} {xs:List α} {x:AV} {G:Heap} {D:List Nat} (h:LRow L sz xs x G D):∃q,x=.sl q sz 0 xs.length:=by
  obtain ⟨q,cs,D',e1,e2,e3,e4⟩:=h;exact ⟨q,e1⟩
end Go.Proofs.Ytjdhigcefkihiaa
