/- Texts laid together: W4 W5 W6 WA Lb0 Lr8 Lb1a Pt1 Pm1 Lb2 Lf1 Ql1 Tv0 Lb3 Le1 Le2 Lt1 Lt2 Mt0 Ma1 Lt3 Lt4 Ma2 Ma3 Ma4 Mg0 Ss1 Lay Ps1 Ss2 Ma5. -/
import Derived.Test.YtjdhigcefkihiaaPb3
import Derived.KernelRfl
import Derived.Sort.Grow
import Derived.Shelf.SlGeneric
import Derived.Shelf.SlLaysNS
import Derived.Test.YtjdhigcefkihiaaProg
import Derived.Lib.SlicesCompact
import Derived.Shelf.SortG.Plain
import Derived.Shelf.SortG.SortNone
import Derived.Shelf.SlicesG.CompactI
set_option linter.unusedVariables false
set_option linter.unusedSimpArgs false
open Nat renaming reduceAdd→ν1,reduceLeDiff→ν2,reduceLT→ν3,reduceMul→ν4,reduceSub→ν5
open Int renaming reduceToNat→ι1,reduceSub→ι2,reduceAdd→ι3,reduceNeg→ι4
open Array renaming toList→ι5
open Ne renaming symm→ν6
open List renaming forall_mem_cons→ν7
namespace Go.Proofs.Ytjdhigcefkihiaa
open Go Go.Sep
attribute [local irreducible] wpC headF
def D88:Info:=⟨34,fun i=>([],[]),fun i=>([],[])⟩
def W88 (v0:AV) (H:Heap) (K:AV→Heap→Prop):Prop:=
 boxV v0 H fun v1 H1=>
 fieldAddrV tab 80 v1 0 fun v3=>
 loadV tab 3 v3 H1 fun v4=>
 binV tab .eql 3 v4 (AV.p (.int .i64 1)) fun v6=>
 condV v6 (fieldAddrV tab 80 v1 1 fun v7=>
 loadV tab 3 v7 H1 fun v8=>
 binV tab .geq 3 v8 (AV.p (.int .i64 0)) fun v9=>
 grdV v9 true (fieldAddrV tab 80 v1 1 fun v11=>
 loadV tab 3 v11 H1 fun v12=>
 binV tab .lss 3 v12 (AV.p (.int .i64 3)) fun v13=>
 K v13 H1)
 (K (AV.p (.bool false)) H1))
 (binV tab .eql 3 v4 (AV.p (.int .i64 2)) fun v16=>
 condV v16 (fieldAddrV tab 80 v1 1 fun v17=>
 loadV tab 3 v17 H1 fun v18=>
 binV tab .eql 3 v18 (AV.p (.int .i64 0)) fun v19=>
 grdV v19 false (fieldAddrV tab 80 v1 1 fun v21=>
 loadV tab 3 v21 H1 fun v22=>
 binV tab .eql 3 v22 (AV.p (.int .i64 1)) fun v23=>
 K v23 H1)
 (K (AV.p (.bool true)) H1))
 (fieldAddrV tab 80 v1 0 fun v25=>
 loadV tab 3 v25 H1 fun v26=>
 CallT Try.prog 69 [v26] H1 fun v27 H2=>
 binV tab .gtr 3 v27 (AV.p (.int .i64 0)) fun v28=>
 grdV v28 true (fieldAddrV tab 80 v1 1 fun v30=>
 loadV tab 3 v30 H2 fun v31=>
 binV tab .eql 3 v31 (AV.p (.int .i64 0)) fun v32=>
 K v32 H2)
 (K (AV.p (.bool false)) H2)))
theorem W88_wp (v0:AV) (H:Heap) (K:AV→Heap→Prop):wpC Try.prog tab D88 (bodyOf Try.f88) (retF tab [.tmp 2] K) (nthA [v0]) H=W88 v0 H K:=by kernel_rfl
theorem W88_ok {v0:AV} {H:Heap} {K:AV→Heap→Prop} (h:W88 v0 H K):CallT Try.prog 88 [v0] H K:=
  CallT.of_wp (D:=D88) tab_ok mixed Try.func88 (c:=bodyOf Try.f88) (by kernel_rfl) rfl (by kernel_rfl) (rs:=#[.tmp 2]) rfl (by decide +kernel) (by kernel_rfl) (W88_wp v0 H K) h
def D89:Info:=⟨18,fun i=>([],[]),fun i=>([],[])⟩
def W89 (v0:AV) (H:Heap) (K:AV→Heap→Prop):Prop:=
 boxV v0 H fun v1 H1=>
 fieldAddrV tab 80 v1 0 fun v3=>
 loadV tab 3 v3 H1 fun v4=>
 binV tab .eql 3 v4 (AV.p (.int .i64 1)) fun v6=>
 condV v6 (fieldAddrV tab 80 v1 1 fun v7=>
 loadV tab 3 v7 H1 fun v8=>
 CallT Try.prog 77 [v8,(AV.p (.int .i64 0)),(AV.p (.int .i64 2))] H1 fun v9 H2=>
 K v9 H2)
 (binV tab .eql 3 v4 (AV.p (.int .i64 2)) fun v11=>
 condV v11 (fieldAddrV tab 80 v1 1 fun v12=>
 loadV tab 3 v12 H1 fun v13=>
 CallT Try.prog 77 [v13,(AV.p (.int .i64 0)),(AV.p (.int .i64 1))] H1 fun v14 H3=>
 K v14 H3)
 (fieldAddrV tab 80 v1 1 fun v15=>
 loadV tab 3 v15 H1 fun v16=>
 binV tab .eql 3 v16 (AV.p (.int .i64 0)) fun v17=>
 K v17 H1))
theorem W89_wp (v0:AV) (H:Heap) (K:AV→Heap→Prop):wpC Try.prog tab D89 (bodyOf Try.f89) (retF tab [.tmp 2] K) (nthA [v0]) H=W89 v0 H K:=by kernel_rfl
theorem W89_ok {v0:AV} {H:Heap} {K:AV→Heap→Prop} (h:W89 v0 H K):CallT Try.prog 89 [v0] H K:=
  CallT.of_wp (D:=D89) tab_ok mixed Try.func89 (c:=bodyOf Try.f89) (by kernel_rfl) rfl (by kernel_rfl) (rs:=#[.tmp 2]) rfl (by decide +kernel) (by kernel_rfl) (W89_wp v0 H K) h
def D94:Info:=⟨9,fun i=>([],[]),fun i=>([],[])⟩
def W94 (v0:AV) (v1:AV) (H:Heap) (K:AV→Heap→Prop):Prop:=
 CallT Try.prog 67 [v0,v1] H fun v7 H1=>
 binV tab .eql 3 v7 (AV.p (.int .i64 0)) fun v8=>
 K v8 H1
theorem W94_wp (v0:AV) (v1:AV) (H:Heap) (K:AV→Heap→Prop):wpC Try.prog tab D94 (bodyOf Try.f94) (retF tab [.tmp 4] K) (nthA [v0,v1]) H=W94 v0 v1 H K:=by kernel_rfl
theorem W94_ok {v0 v1:AV} {H:Heap} {K:AV→Heap→Prop} (h:W94 v0 v1 H K):CallT Try.prog 94 [v0,v1] H K:=
  CallT.of_wp (D:=D94) tab_ok mixed Try.func94 (c:=bodyOf Try.f94) (by kernel_rfl) rfl (by kernel_rfl) (rs:=#[.tmp 4]) rfl (by decide +kernel) (by kernel_rfl) (W94_wp v0 v1 H K) h
def D103:Info:=⟨6,fun i=>([],[]),fun i=>([],[])⟩
def W103 (v0:AV) (H:Heap) (K:AV→Heap→Prop):Prop:=
 CallT Try.prog 124 [v0,(.fn 125 [])] H fun v4 H1=>
 unV .not v4 fun v5=>
 K v5 H1
theorem W103_wp (v0:AV) (H:Heap) (K:AV→Heap→Prop):wpC Try.prog tab D103 (bodyOf Try.f103) (retF tab [.tmp 2] K) (nthA [v0]) H=W103 v0 H K:=by kernel_rfl
theorem W103_ok {v0:AV} {H:Heap} {K:AV→Heap→Prop} (h:W103 v0 H K):CallT Try.prog 103 [v0] H K:=
  CallT.of_wp (D:=D103) tab_ok mixed Try.func103 (c:=bodyOf Try.f103) (by kernel_rfl) rfl (by kernel_rfl) (rs:=#[.tmp 2]) rfl (by decide +kernel) (by kernel_rfl) (W103_wp v0 H K) h
def D107:Info:=⟨91,fun i=>if i=14 then ([[],[],[0,1],[],[3],[0,1,2,3,4],[0,1,2,3,4,5],[0,1,2,3,4,5,6],[0,1,2,3,4,5,6,7]],[(0,[]),(1,[]),(3,[]),(4,[]),(2,[4]),(5,[]),(6,[]),(7,[]),(8,[])]) else if i=18 then ([[],[],[],[1,2],[0,1,2,3],[0,1,2,3,4]],[(0,[]),(1,[]),(2,[]),(3,[0]),(4,[]),(5,[])]) else ([],[]),fun i=>if i=9 then ([3,4,7,8,33],[9,34]) else ([],[])⟩
def L107_0 (K:AV→Heap→Prop) (v3:AV) (v4:AV) (v7:AV) (v8:AV) (v9:AV) (v33:AV) (v34:AV) (H:Heap):Prop:=LoopV (wpC Try.prog tab D107 (cAt [1,1,1,1,0,1,0,0] (bodyOf Try.f107))) [3,4,7,8,33] (PostF.block 1 (PostF.thenA (wpC Try.prog tab D107 (cAt [1,1,1,1,1] (bodyOf Try.f107))) (retF tab [.tmp 6] K))) [9,34] [AV.any,AV.any,AV.any,v3,v4,AV.any,AV.any,v7,v8,v9,AV.any,AV.any,AV.any,AV.any,AV.any,AV.any,AV.any,AV.any,AV.any,AV.any,AV.any,AV.any,AV.any,AV.any,AV.any,AV.any,AV.any,AV.any,AV.any,AV.any,AV.any,AV.any,AV.any,v33,v34,AV.any,AV.any,AV.any,AV.any,AV.any,AV.any,AV.any,AV.any,AV.any,AV.any,AV.any,AV.any,AV.any,AV.any,AV.any,AV.any,AV.any,AV.any,AV.any,AV.any,AV.any,AV.any,AV.any,AV.any,AV.any,AV.any,AV.any,AV.any,AV.any,AV.any,AV.any,AV.any,AV.any,AV.any,AV.any,AV.any,AV.any,AV.any,AV.any,AV.any,AV.any,AV.any,AV.any,AV.any,AV.any,AV.any,AV.any,AV.any,AV.any,AV.any,AV.any,AV.any,AV.any,AV.any,AV.any,AV.any] H
def J107_1 (K:AV→Heap→Prop) (N1:AV→AV→Heap→Prop) (v3:AV) (v4:AV) (v7:AV) (v8:AV) (v9:AV) (v11:AV) (v33:AV) (v34:AV) (H:Heap):Prop:=
 buildSliceV tab 76 1 [(0,v11)] H (wkK fun v87 H12=>
 appendV tab 76 76 v9 v87 H12 (wkK fun v88 H13=>
 binV tab .add 3 v34 (AV.p (.int .i64 1)) fun v89=>
 N1 v88 v89 H13))
def B107_0 (K:AV→Heap→Prop) (N1:AV→AV→Heap→Prop) (v3:AV) (v4:AV) (v7:AV) (v8:AV) (v9:AV) (v33:AV) (v34:AV) (H:Heap):Prop:=
 binV tab .lss 3 v34 v33 fun v35=>
 condV v35 (fieldAddrV tab 80 v4 1 fun v37=>
 loadV tab 3 v37 H fun v38=>
 binV tab .eql 3 v38 (AV.p (.int .i64 1)) fun v39=>
 fieldAddrV tab 80 v4 0 fun v40=>
 loadV tab 3 v40 H fun v41=>
 binV tab .eql 3 v41 (AV.p (.int .i64 1)) fun v43=>
 condV v43 (loadV tab 32 v3 H fun v44=>
 fieldAddrV tab 80 v4 1 fun v47=>
 loadV tab 3 v47 H fun v48=>
 CallT Try.prog 117 [v44,v34] H fun v46 H11=>
 (loadV tab 3 v47 H11 fun v9048=>
 v48=v9048)∧
 binV tab .shr 3 v46 v48 fun v49=>
 binV tab .and 3 v49 (AV.p (.int .i64 1)) fun v50=>
 binV tab .eql 3 v50 (AV.p (.int .i64 1)) fun v51=>
 J107_1 K N1 v3 v4 v7 v8 v9 v51 v33 v34 H11)
 (binV tab .eql 3 v41 (AV.p (.int .i64 3)) fun v53=>
 condV v53 (loadV tab 98 v7 H fun v54=>
 callF Try.prog v54 [v34] H fun v56 H14=>
 unV .not v56 fun v57=>
 J107_1 K N1 v3 v4 v7 v8 v9 v57 v33 v34 H14)
 (binV tab .eql 3 v41 (AV.p (.int .i64 4)) fun v59=>
 condV v59 (loadV tab 98 v7 H fun v60=>
 loadV tab 32 v3 H fun v61=>
 CallT Try.prog 133 [v61,v34] H fun v63 H15=>
 (loadV tab 98 v7 H15 fun v9060=>
 v60=v9060)∧
 callF Try.prog v60 [v63] H15 fun v64 H16=>
 J107_1 K N1 v3 v4 v7 v8 v9 v64 v33 v34 H16)
 (binV tab .eql 3 v41 (AV.p (.int .i64 5)) fun v66=>
 condV v66 (loadV tab 98 v7 H fun v67=>
 callF Try.prog v67 [v34] H fun v69 H17=>
 grdV v69 true (loadV tab 98 v8 H17 fun v71=>
 callF Try.prog v71 [v34] H17 fun v73 H18=>
 J107_1 K N1 v3 v4 v7 v8 v9 v73 v33 v34 H18)
 (buildSliceV tab 76 1 [(0,(AV.p (.bool false)))] H17 (wkK fun v87 H19=>
 appendV tab 76 76 v9 v87 H19 (wkK fun v88 H20=>
 binV tab .add 3 v34 (AV.p (.int .i64 1)) fun v89=>
 N1 v88 v89 H20))))
 (binV tab .eql 3 v41 (AV.p (.int .i64 6)) fun v76=>
 condV v76 (loadV tab 98 v7 H fun v77=>
 callF Try.prog v77 [v34] H fun v79 H21=>
 grdV v79 false (loadV tab 98 v8 H21 fun v81=>
 callF Try.prog v81 [v34] H21 fun v83 H22=>
 J107_1 K N1 v3 v4 v7 v8 v9 v83 v33 v34 H22)
 (buildSliceV tab 76 1 [(0,(AV.p (.bool true)))] H21 (wkK fun v87 H23=>
 appendV tab 76 76 v9 v87 H23 (wkK fun v88 H24=>
 binV tab .add 3 v34 (AV.p (.int .i64 1)) fun v89=>
 N1 v88 v89 H24))))
 (J107_1 K N1 v3 v4 v7 v8 v9 v39 v33 v34 H))))))
 (K v9 H)
def W107 (v0:AV) (v1:AV) (v2:AV) (H:Heap) (K:AV→Heap→Prop):Prop:=
 boxV v0 H fun v3 H1=>
 boxV v1 H1 fun v4 H2=>
 boxV v2 H2 fun v5 H3=>
 allocV tab 98 H3 fun v7 H4=>
 allocV tab 98 H4 fun v8 H5=>
 storeV tab 98 v7 (.fn 128 [v5]) H5 fun H6=>
 storeV tab 98 v8 (.fn 129 [v5]) H6 fun H7=>
 fieldAddrV tab 80 v4 0 fun v14=>
 loadV tab 3 v14 H7 fun v15=>
 binV tab .eql 3 v15 (AV.p (.int .i64 7)) fun v17=>
 condV v17 (loadV tab 32 v3 H7 fun v18=>
 CallT Try.prog 130 [v18,(AV.p (.bool false)),(.fn 131 [v8,v7])] H7 fun v20 H8=>
 K v20 H8)
 (binV tab .eql 3 v15 (AV.p (.int .i64 8)) fun v22=>
 condV v22 (loadV tab 32 v3 H7 fun v23=>
 CallT Try.prog 130 [v23,(AV.p (.bool true)),(.fn 132 [v8,v7])] H7 fun v25 H9=>
 K v25 H9)
 (buildSliceV tab 76 0 [] H7 (wkK fun v26 H10=>
 fieldAddrV tab 32 v3 0 fun v27=>
 loadV tab 23 v27 H10 fun v28=>
 lenV tab 23 v28 fun v29=>
 fieldAddrV tab 32 v3 1 fun v30=>
 loadV tab 23 v30 H10 fun v31=>
 lenV tab 23 v31 fun v32=>
 binV tab .add 3 v29 v32 fun v33=>
 L107_0 K v3 v4 v7 v8 v26 v33 (AV.p (.int .i64 0)) H10)))
theorem W107_wp (v0:AV) (v1:AV) (v2:AV) (H:Heap) (K:AV→Heap→Prop):wpC Try.prog tab D107 (bodyOf Try.f107) (retF tab [.tmp 6] K) (nthA [v0,v1,v2]) H=W107 v0 v1 v2 H K:=by kernel_rfl
theorem W107_ok {v0 v1 v2:AV} {H:Heap} {K:AV→Heap→Prop} (h:W107 v0 v1 v2 H K):CallT Try.prog 107 [v0,v1,v2] H K:=
  CallT.of_wp (D:=D107) tab_ok mixed Try.func107 (c:=bodyOf Try.f107) (by kernel_rfl) rfl (by kernel_rfl) (rs:=#[.tmp 6]) rfl (by decide +kernel) (by kernel_rfl) (W107_wp v0 v1 v2 H K) h
theorem L107_0_rule {K:AV→Heap→Prop} {v3 v4 v7 v8 v9 v33 v34:AV} {H:Heap} {σ:Type} (s0:σ) (f9:σ→AV) (f34:σ→AV) (TH:σ→Heap) (pre:σ→Prop) (μ:σ→Nat)
    (h0:pre s0∧AV.wk v9 (f9 s0)∧AV.wk v34 (f34 s0)∧Heap.le (TH s0) H)
    (round:∀s,pre s→B107_0 K (fun w9 w34 H'=>∃s',pre s'∧μ s' < μ s∧AV.wk w9 (f9 s')∧AV.wk w34 (f34 s')∧Heap.le (TH s') H') v3 v4 v7 v8 (f9 s) v33 (f34 s) (TH s)) :
    L107_0 K v3 v4 v7 v8 v9 v33 v34 H:=by
  unfold L107_0
  exact LoopV.mk s0 (fun s=>[f9 s,f34 s]) TH pre μ (fun _=>rfl) (Eq.mp (by kernel_rfl) h0) (fun s hs=>Eq.mp (by kernel_rfl) (round s hs))
def D108:Info:=⟨8,fun i=>([],[]),fun i=>([],[])⟩
def W108 (v0:AV) (H:Heap) (K:AV→Heap→Prop):Prop:=
 binV tab .eql 71 v0 (AV.p .nil) fun v4=>
 condV v4 (K (AV.p .nil) H)
 (buildSliceV tab 71 0 [] H (wkK fun v5 H1=>
 appendV tab 71 71 v5 v0 H1 (wkK fun v7 H2=>
 K v7 H2)))
theorem W108_wp (v0:AV) (H:Heap) (K:AV→Heap→Prop):wpC Try.prog tab D108 (bodyOf Try.f108) (retF tab [.tmp 2] K) (nthA [v0]) H=W108 v0 H K:=by kernel_rfl
theorem W108_ok {v0:AV} {H:Heap} {K:AV→Heap→Prop} (h:W108 v0 H K):CallT Try.prog 108 [v0] H K:=
  CallT.of_wp (D:=D108) tab_ok mixed Try.func108 (c:=bodyOf Try.f108) (by kernel_rfl) rfl (by kernel_rfl) (rs:=#[.tmp 2]) rfl (by decide +kernel) (by kernel_rfl) (W108_wp v0 H K) h
def D109:Info:=⟨62,fun i=>if i=2 then ([[],[0],[0,1],[0,1,2],[],[4],[4,5],[4,5,6],[4,5,6,7],[0,1,2,3,4,5,6,7,8]],[(0,[]),(1,[]),(2,[]),(3,[]),(4,[]),(5,[]),(6,[]),(7,[]),(8,[]),(9,[])]) else if i=3 then ([[],[0],[0,1],[0,1,2],[],[4],[4,5],[4,5,6],[0,1,2,3,4,5,6,7],[0,1,2,3,4,5,6,7,8],[0,1,2,3,4,5,6,7,8,9],[0,1,2,3,4,5,6,7,8,9,10]],[(0,[]),(1,[]),(2,[]),(3,[]),(4,[]),(5,[]),(6,[]),(7,[]),(8,[]),(9,[]),(10,[]),(11,[])]) else if i=6 then ([[],[0],[0,1],[0,1,2],[],[4],[4,5],[4,5,6],[4,5,6,7],[0,1,2,3,4,5,6,7,8]],[(0,[]),(1,[]),(2,[]),(3,[]),(4,[]),(5,[]),(6,[]),(7,[]),(8,[]),(9,[])]) else ([],[]),fun i=>([],[])⟩
def J109_0 (K:AV→Heap→Prop) (v0:AV) (v3:AV) (H:Heap):Prop:=
 nilCheckV v0 fun v26=>
 fieldAddrV tab 88 v26 1 fun v27=>
 loadV tab 3 v27 H fun v28=>
 binV tab .add 3 v28 (AV.p (.int .i64 1)) fun v29=>
 nilCheckV v0 fun v30=>
 fieldAddrV tab 88 v30 1 fun v31=>
 storeV tab 3 v31 v29 H fun H1=>
 nilCheckV v0 fun v34=>
 fieldAddrV tab 88 v34 2 fun v35=>
 loadV tab 74 v35 H1 fun v36=>
 binV tab .mul 74 v36 (AV.p (.int .u64 6364136223846793005)) fun v37=>
 convV tab 3 74 v3 fun v39=>
 binV tab .add 74 v37 v39 fun v40=>
 binV tab .add 74 v40 (AV.p (.int .u64 1442695040888963407)) fun v41=>
 nilCheckV v0 fun v42=>
 fieldAddrV tab 88 v42 2 fun v43=>
 storeV tab 74 v43 v41 H1 fun H2=>
 nilCheckV v0 fun v45=>
 fieldAddrV tab 88 v45 1 fun v46=>
 loadV tab 3 v46 H2 fun v47=>
 nilCheckV v0 fun v49=>
 fieldAddrV tab 88 v49 0 fun v50=>
 loadV tab 41 v50 H2 fun v51=>
 lenV tab 41 v51 fun v52=>
 binV tab .leq 3 v47 v52 fun v53=>
 condV v53 (K v3 H2)
 (nilCheckV v0 fun v56=>
 fieldAddrV tab 88 v56 2 fun v57=>
 loadV tab 74 v57 H2 fun v58=>
 binV tab .shr 74 v58 (AV.p (.int .u64 40)) fun v59=>
 binV tab .and 74 v59 (AV.p (.int .u64 255)) fun v60=>
 convV tab 74 3 v60 fun v61=>
 K v61 H2)
def W109 (v0:AV) (H:Heap) (K:AV→Heap→Prop):Prop:=
 nilCheckV v0 fun v5=>
 fieldAddrV tab 88 v5 1 fun v6=>
 loadV tab 3 v6 H fun v7=>
 nilCheckV v0 fun v9=>
 fieldAddrV tab 88 v9 0 fun v10=>
 loadV tab 41 v10 H fun v11=>
 lenV tab 41 v11 fun v12=>
 binV tab .lss 3 v7 v12 fun v13=>
 condV v13 (nilCheckV v0 fun v15=>
 fieldAddrV tab 88 v15 0 fun v16=>
 loadV tab 41 v16 H fun v17=>
 nilCheckV v0 fun v19=>
 fieldAddrV tab 88 v19 1 fun v20=>
 loadV tab 3 v20 H fun v21=>
 indexAddrV tab 41 v17 v21 fun v22=>
 loadV tab 5 v22 H fun v23=>
 convV tab 5 3 v23 fun v24=>
 J109_0 K v0 v24 H)
 (J109_0 K v0 (AV.p (.int .i64 0)) H)
theorem W109_wp (v0:AV) (H:Heap) (K:AV→Heap→Prop):wpC Try.prog tab D109 (bodyOf Try.f109) (retF tab [.tmp 2] K) (nthA [v0]) H=W109 v0 H K:=by kernel_rfl
theorem W109_ok {v0:AV} {H:Heap} {K:AV→Heap→Prop} (h:W109 v0 H K):CallT Try.prog 109 [v0] H K:=
  CallT.of_wp (D:=D109) tab_ok mixed Try.func109 (c:=bodyOf Try.f109) (by kernel_rfl) rfl (by kernel_rfl) (rs:=#[.tmp 2]) rfl (by decide +kernel) (by kernel_rfl) (W109_wp v0 H K) h
def D110:Info:=⟨27,fun i=>([],[]),fun i=>([],[])⟩
def W110 (v0:AV) (v1:AV) (H:Heap) (K:AV→Heap→Prop):Prop:=
 binV tab .lss 3 v1 (AV.p (.int .i64 0)) fun v6=>
 condV v6 (False)
 (capV tab 30 v0 fun v10=>
 lenV tab 30 v0 fun v12=>
 binV tab .sub 3 v10 v12 fun v13=>
 binV tab .sub 3 v1 v13 fun v14=>
 binV tab .gtr 3 v14 (AV.p (.int .i64 0)) fun v16=>
 condV v16 (capV tab 30 v0 fun v19=>
 sliceV tab 30 v0 none (some v19) none fun v20=>
 appendV tab 30 3 v20 v14 H (wkK fun v22 H1=>
 lenV tab 30 v0 fun v24=>
 sliceV tab 30 v22 none (some v24) none fun v25=>
 K v25 H1))
 (K v0 H))
theorem W110_wp (v0:AV) (v1:AV) (H:Heap) (K:AV→Heap→Prop):wpC Try.prog tab D110 (bodyOf Try.f110) (retF tab [.tmp 4] K) (nthA [v0,v1]) H=W110 v0 v1 H K:=by kernel_rfl
theorem W110_ok {v0 v1:AV} {H:Heap} {K:AV→Heap→Prop} (h:W110 v0 v1 H K):CallT Try.prog 110 [v0,v1] H K:=
  CallT.of_wp (D:=D110) tab_ok mixed Try.func110 (c:=bodyOf Try.f110) (by kernel_rfl) rfl (by kernel_rfl) (rs:=#[.tmp 4]) rfl (by decide +kernel) (by kernel_rfl) (W110_wp v0 v1 H K) h
def D111:Info:=⟨16,fun i=>([],[]),fun i=>if i=2 then ([0],[1,5]) else ([],[])⟩
def L111_0 (K:AV→Heap→Prop) (v0:AV) (v1:AV) (v5:AV) (H:Heap):Prop:=LoopV (wpC Try.prog tab D111 (cAt [1,1,0,0,0] (bodyOf Try.f111))) [0] (PostF.block 0 (PostF.thenA (wpC Try.prog tab D111 (cAt [1,1,1] (bodyOf Try.f111))) (retF tab [.tmp 4] K))) [1,5] [v0,v1,AV.any,AV.any,AV.any,v5,AV.any,AV.any,AV.any,AV.any,AV.any,AV.any,AV.any,AV.any,AV.any,AV.any] H
def B111_0 (K:AV→Heap→Prop) (N1:AV→AV→Heap→Prop) (v0:AV) (v1:AV) (v5:AV) (H:Heap):Prop:=
 binV tab .gtr 3 v1 (AV.p (.int .i64 0)) fun v7=>
 condV v7 (CallT Try.prog 67 [v0,(AV.p (.int .i64 8))] H fun v12 H1=>
 buildSliceV tab 23 1 [(0,v12)] H1 (wkK fun v13 H2=>
 appendV tab 23 23 v5 v13 H2 (wkK fun v14 H3=>
 binV tab .sub 3 v1 (AV.p (.int .i64 1)) fun v9=>
 N1 v9 v14 H3)))
 (K v5 H)
def W111 (v0:AV) (v1:AV) (H:Heap) (K:AV→Heap→Prop):Prop:=
 L111_0 K v0 v1 (AV.p .nil) H
theorem W111_wp (v0:AV) (v1:AV) (H:Heap) (K:AV→Heap→Prop):wpC Try.prog tab D111 (bodyOf Try.f111) (retF tab [.tmp 4] K) (nthA [v0,v1]) H=W111 v0 v1 H K:=by kernel_rfl
theorem W111_ok {v0 v1:AV} {H:Heap} {K:AV→Heap→Prop} (h:W111 v0 v1 H K):CallT Try.prog 111 [v0,v1] H K:=
  CallT.of_wp (D:=D111) tab_ok mixed Try.func111 (c:=bodyOf Try.f111) (by kernel_rfl) rfl (by kernel_rfl) (rs:=#[.tmp 4]) rfl (by decide +kernel) (by kernel_rfl) (W111_wp v0 v1 H K) h
theorem W111_hb:HasBody Try.prog 111:=⟨_,bodyOf Try.f111,Try.func111,by kernel_rfl,rfl⟩
theorem L111_0_rule {K:AV→Heap→Prop} {v0 v1 v5:AV} {H:Heap} {σ:Type} (s0:σ) (f1:σ→AV) (f5:σ→AV) (TH:σ→Heap) (pre:σ→Prop) (μ:σ→Nat)
    (h0:pre s0∧AV.wk v1 (f1 s0)∧AV.wk v5 (f5 s0)∧Heap.le (TH s0) H)
    (round:∀s,pre s→B111_0 K (fun w1 w5 H'=>∃s',pre s'∧μ s' < μ s∧AV.wk w1 (f1 s')∧AV.wk w5 (f5 s')∧Heap.le (TH s') H') v0 (f1 s) (f5 s) (TH s)) :
    L111_0 K v0 v1 v5 H:=by
  unfold L111_0
  exact LoopV.mk s0 (fun s=>[f1 s,f5 s]) TH pre μ (fun _=>rfl) (Eq.mp (by kernel_rfl) h0) (fun s hs=>Eq.mp (by kernel_rfl) (round s hs))
end Go.Proofs.Ytjdhigcefkihiaa
namespace Go.Proofs.Ytjdhigcefkihiaa
open Go Go.Sep
attribute [local irreducible] wpC headF
def D117:Info:=⟨28,fun i=>if i=3 then ([[],[0],[],[],[3],[3,4],[2,3,4,5],[],[7],[7,8],[2,3,4,5,6,7,8,9],[0,1,2,3,4,5,6,7,8,9,10],[0,1,2,3,4,5,6,7,8,9,10,11],[0,1,2,3,4,5,6,7,8,9,10,11,12]],[(0,[]),(1,[]),(2,[]),(3,[]),(4,[]),(5,[]),(6,[]),(7,[]),(8,[]),(9,[]),(10,[]),(11,[]),(12,[]),(13,[])]) else ([],[]),fun i=>([],[])⟩
def W117 (v0:AV) (v1:AV) (H:Heap) (K:AV→Heap→Prop):Prop:=
 boxV v0 H fun v2 H1=>
 fieldAddrV tab 32 v2 0 fun v6=>
 loadV tab 23 v6 H1 fun v7=>
 lenV tab 23 v7 fun v8=>
 binV tab .lss 3 v1 v8 fun v9=>
 condV v9 (fieldAddrV tab 32 v2 0 fun v10=>
 loadV tab 23 v10 H1 fun v11=>
 indexAddrV tab 23 v11 v1 fun v13=>
 loadV tab 3 v13 H1 fun v14=>
 K v14 H1)
 (fieldAddrV tab 32 v2 1 fun v15=>
 loadV tab 23 v15 H1 fun v16=>
 fieldAddrV tab 32 v2 0 fun v18=>
 loadV tab 23 v18 H1 fun v19=>
 lenV tab 23 v19 fun v20=>
 binV tab .sub 3 v1 v20 fun v21=>
 fieldAddrV tab 32 v2 1 fun v22=>
 loadV tab 23 v22 H1 fun v23=>
 lenV tab 23 v23 fun v24=>
 binV tab .rem 3 v21 v24 fun v25=>
 indexAddrV tab 23 v16 v25 fun v26=>
 loadV tab 3 v26 H1 fun v27=>
 K v27 H1)
theorem W117_wp (v0:AV) (v1:AV) (H:Heap) (K:AV→Heap→Prop):wpC Try.prog tab D117 (bodyOf Try.f117) (retF tab [.tmp 4] K) (nthA [v0,v1]) H=W117 v0 v1 H K:=by kernel_rfl
theorem W117_ok {v0 v1:AV} {H:Heap} {K:AV→Heap→Prop} (h:W117 v0 v1 H K):CallT Try.prog 117 [v0,v1] H K:=
  CallT.of_wp (D:=D117) tab_ok mixed Try.func117 (c:=bodyOf Try.f117) (by kernel_rfl) rfl (by kernel_rfl) (rs:=#[.tmp 4]) rfl (by decide +kernel) (by kernel_rfl) (W117_wp v0 v1 H K) h
def D124:Info:=⟨9,fun i=>([],[]),fun i=>([],[])⟩
def W124 (v0:AV) (v1:AV) (H:Heap) (K:AV→Heap→Prop):Prop:=
 CallT Try.prog 137 [v0,v1] H fun v7 H1=>
 binV tab .geq 3 v7 (AV.p (.int .i64 0)) fun v8=>
 K v8 H1
theorem W124_wp (v0:AV) (v1:AV) (H:Heap) (K:AV→Heap→Prop):wpC Try.prog tab D124 (bodyOf Try.f124) (retF tab [.tmp 4] K) (nthA [v0,v1]) H=W124 v0 v1 H K:=by kernel_rfl
theorem W124_ok {v0 v1:AV} {H:Heap} {K:AV→Heap→Prop} (h:W124 v0 v1 H K):CallT Try.prog 124 [v0,v1] H K:=
  CallT.of_wp (D:=D124) tab_ok mixed Try.func124 (c:=bodyOf Try.f124) (by kernel_rfl) rfl (by kernel_rfl) (rs:=#[.tmp 4]) rfl (by decide +kernel) (by kernel_rfl) (W124_wp v0 v1 H K) h
def D125:Info:=⟨9,fun i=>([],[]),fun i=>([],[])⟩
def W125 (v0:AV) (H:Heap) (K:AV→Heap→Prop):Prop:=
 binV tab .lss 3 v0 (AV.p (.int .i64 0)) fun v4=>
 grdV v4 false (binV tab .geq 3 v0 (AV.p (.int .i64 8)) fun v7=>
 K v7 H)
 (K (AV.p (.bool true)) H)
theorem W125_wp (v0:AV) (H:Heap) (K:AV→Heap→Prop):wpC Try.prog tab D125 (bodyOf Try.f125) (retF tab [.tmp 2] K) (nthA [v0]) H=W125 v0 H K:=by kernel_rfl
theorem W125_ok {v0:AV} {H:Heap} {K:AV→Heap→Prop} (h:W125 v0 H K):CallT Try.prog 125 [v0] H K:=
  CallT.of_wp (D:=D125) tab_ok mixed Try.func125 (c:=bodyOf Try.f125) (by kernel_rfl) rfl (by kernel_rfl) (rs:=#[.tmp 2]) rfl (by decide +kernel) (by kernel_rfl) (W125_wp v0 H K) h
def D128:Info:=⟨10,fun i=>([],[]),fun i=>([],[])⟩
def W128 (v0:AV) (v1:AV) (H:Heap) (K:AV→Heap→Prop):Prop:=
 loadV tab 71 v1 H fun v4=>
 indexAddrV tab 71 v4 (AV.p (.int .i64 0)) fun v5=>
 loadV tab 76 v5 H fun v6=>
 indexAddrV tab 76 v6 v0 fun v8=>
 loadV tab 4 v8 H fun v9=>
 K v9 H
theorem W128_wp (v0:AV) (v1:AV) (H:Heap) (K:AV→Heap→Prop):wpC Try.prog tab D128 (bodyOf Try.f128) (retF tab [.tmp 3] K) (nthA [v0,v1]) H=W128 v0 v1 H K:=by kernel_rfl
theorem W128_ok {v0 v1:AV} {H:Heap} {K:AV→Heap→Prop} (h:W128 v0 v1 H K):CallT Try.prog 128 [v0,v1] H K:=
  CallT.of_wp (D:=D128) tab_ok mixed Try.func128 (c:=bodyOf Try.f128) (by kernel_rfl) rfl (by kernel_rfl) (rs:=#[.tmp 3]) rfl (by decide +kernel) (by kernel_rfl) (W128_wp v0 v1 H K) h
def D129:Info:=⟨10,fun i=>([],[]),fun i=>([],[])⟩
def W129 (v0:AV) (v1:AV) (H:Heap) (K:AV→Heap→Prop):Prop:=
 loadV tab 71 v1 H fun v4=>
 indexAddrV tab 71 v4 (AV.p (.int .i64 1)) fun v5=>
 loadV tab 76 v5 H fun v6=>
 indexAddrV tab 76 v6 v0 fun v8=>
 loadV tab 4 v8 H fun v9=>
 K v9 H
theorem W129_wp (v0:AV) (v1:AV) (H:Heap) (K:AV→Heap→Prop):wpC Try.prog tab D129 (bodyOf Try.f129) (retF tab [.tmp 3] K) (nthA [v0,v1]) H=W129 v0 v1 H K:=by kernel_rfl
theorem W129_ok {v0 v1:AV} {H:Heap} {K:AV→Heap→Prop} (h:W129 v0 v1 H K):CallT Try.prog 129 [v0,v1] H K:=
  CallT.of_wp (D:=D129) tab_ok mixed Try.func129 (c:=bodyOf Try.f129) (by kernel_rfl) rfl (by kernel_rfl) (rs:=#[.tmp 3]) rfl (by decide +kernel) (by kernel_rfl) (W129_wp v0 v1 H K) h
def D131:Info:=⟨18,fun i=>([],[]),fun i=>([],[])⟩
def W131 (v0:AV) (v1:AV) (v2:AV) (v3:AV) (H:Heap) (K:AV→Heap→Prop):Prop:=
 loadV tab 98 v2 H fun v7=>
 callF Try.prog v7 [v0] H fun v9 H1=>
 grdV v9 false (loadV tab 98 v3 H1 fun v11=>
 callF Try.prog v11 [v0] H1 fun v13 H2=>
 grdV v13 true (K v1 H2)
 (K (AV.p (.bool false)) H2))
 (K (AV.p (.bool true)) H1)
theorem W131_wp (v0:AV) (v1:AV) (v2:AV) (v3:AV) (H:Heap) (K:AV→Heap→Prop):wpC Try.prog tab D131 (bodyOf Try.f131) (retF tab [.tmp 6] K) (nthA [v0,v1,v2,v3]) H=W131 v0 v1 v2 v3 H K:=by kernel_rfl
theorem W131_ok {v0 v1 v2 v3:AV} {H:Heap} {K:AV→Heap→Prop} (h:W131 v0 v1 v2 v3 H K):CallT Try.prog 131 [v0,v1,v2,v3] H K:=
  CallT.of_wp (D:=D131) tab_ok mixed Try.func131 (c:=bodyOf Try.f131) (by kernel_rfl) rfl (by kernel_rfl) (rs:=#[.tmp 6]) rfl (by decide +kernel) (by kernel_rfl) (W131_wp v0 v1 v2 v3 H K) h
def D132:Info:=⟨18,fun i=>([],[]),fun i=>([],[])⟩
def W132 (v0:AV) (v1:AV) (v2:AV) (v3:AV) (H:Heap) (K:AV→Heap→Prop):Prop:=
 loadV tab 98 v2 H fun v7=>
 callF Try.prog v7 [v0] H fun v9 H1=>
 grdV v9 true (loadV tab 98 v3 H1 fun v11=>
 callF Try.prog v11 [v0] H1 fun v13 H2=>
 grdV v13 false (K v1 H2)
 (K (AV.p (.bool true)) H2))
 (K (AV.p (.bool false)) H1)
theorem W132_wp (v0:AV) (v1:AV) (v2:AV) (v3:AV) (H:Heap) (K:AV→Heap→Prop):wpC Try.prog tab D132 (bodyOf Try.f132) (retF tab [.tmp 6] K) (nthA [v0,v1,v2,v3]) H=W132 v0 v1 v2 v3 H K:=by kernel_rfl
theorem W132_ok {v0 v1 v2 v3:AV} {H:Heap} {K:AV→Heap→Prop} (h:W132 v0 v1 v2 v3 H K):CallT Try.prog 132 [v0,v1,v2,v3] H K:=
  CallT.of_wp (D:=D132) tab_ok mixed Try.func132 (c:=bodyOf Try.f132) (by kernel_rfl) rfl (by kernel_rfl) (rs:=#[.tmp 6]) rfl (by decide +kernel) (by kernel_rfl) (W132_wp v0 v1 v2 v3 H K) h
def D133:Info:=⟨20,fun i=>([],[]),fun i=>([],[])⟩
def W133 (v0:AV) (v1:AV) (H:Heap) (K:AV→Heap→Prop):Prop:=
 boxV v0 H fun v2 H1=>
 binV tab .add 3 v1 (AV.p (.int .i64 1)) fun v6=>
 fieldAddrV tab 32 v2 0 fun v7=>
 loadV tab 23 v7 H1 fun v8=>
 lenV tab 23 v8 fun v9=>
 fieldAddrV tab 32 v2 1 fun v10=>
 loadV tab 23 v10 H1 fun v11=>
 lenV tab 23 v11 fun v12=>
 binV tab .add 3 v9 v12 fun v13=>
 binV tab .lss 3 v6 v13 fun v14=>
 condV v14 (binV tab .add 3 v1 (AV.p (.int .i64 1)) fun v16=>
 K v16 H1)
 (fieldAddrV tab 32 v2 0 fun v17=>
 loadV tab 23 v17 H1 fun v18=>
 lenV tab 23 v18 fun v19=>
 K v19 H1)
theorem W133_wp (v0:AV) (v1:AV) (H:Heap) (K:AV→Heap→Prop):wpC Try.prog tab D133 (bodyOf Try.f133) (retF tab [.tmp 4] K) (nthA [v0,v1]) H=W133 v0 v1 H K:=by kernel_rfl
theorem W133_ok {v0 v1:AV} {H:Heap} {K:AV→Heap→Prop} (h:W133 v0 v1 H K):CallT Try.prog 133 [v0,v1] H K:=
  CallT.of_wp (D:=D133) tab_ok mixed Try.func133 (c:=bodyOf Try.f133) (by kernel_rfl) rfl (by kernel_rfl) (rs:=#[.tmp 4]) rfl (by decide +kernel) (by kernel_rfl) (W133_wp v0 v1 H K) h
def D137:Info:=⟨19,fun i=>([],[]),fun i=>if i=2 then ([0,1,7],[8]) else ([],[])⟩
def L137_0 (K:AV→Heap→Prop) (v0:AV) (v1:AV) (v7:AV) (v8:AV) (H:Heap):Prop:=LoopV (wpC Try.prog tab D137 (cAt [1,0,1,0,0] (bodyOf Try.f137))) [0,1,7] (PostF.block 0 (PostF.thenA (wpC Try.prog tab D137 (cAt [1,1] (bodyOf Try.f137))) (retF tab [.tmp 4] K))) [8] [v0,v1,AV.any,AV.any,AV.any,AV.any,AV.any,v7,v8,AV.any,AV.any,AV.any,AV.any,AV.any,AV.any,AV.any,AV.any,AV.any,AV.any] H
def B137_0 (K:AV→Heap→Prop) (N1:AV→Heap→Prop) (v0:AV) (v1:AV) (v7:AV) (v8:AV) (H:Heap):Prop:=
 binV tab .lss 3 v8 v7 fun v9=>
 condV v9 (indexAddrV tab 23 v0 v8 fun v14=>
 loadV tab 3 v14 H fun v15=>
 callF Try.prog v1 [v15] H fun v16 H1=>
 condV v16 (K v8 H1)
 (binV tab .add 3 v8 (AV.p (.int .i64 1)) fun v18=>
 N1 v18 H1))
 (K (AV.p (.int .i64 (-1))) H)
def W137 (v0:AV) (v1:AV) (H:Heap) (K:AV→Heap→Prop):Prop:=
 lenV tab 23 v0 fun v7=>
 L137_0 K v0 v1 v7 (AV.p (.int .i64 0)) H
theorem W137_wp (v0:AV) (v1:AV) (H:Heap) (K:AV→Heap→Prop):wpC Try.prog tab D137 (bodyOf Try.f137) (retF tab [.tmp 4] K) (nthA [v0,v1]) H=W137 v0 v1 H K:=by kernel_rfl
theorem W137_ok {v0 v1:AV} {H:Heap} {K:AV→Heap→Prop} (h:W137 v0 v1 H K):CallT Try.prog 137 [v0,v1] H K:=
  CallT.of_wp (D:=D137) tab_ok mixed Try.func137 (c:=bodyOf Try.f137) (by kernel_rfl) rfl (by kernel_rfl) (rs:=#[.tmp 4]) rfl (by decide +kernel) (by kernel_rfl) (W137_wp v0 v1 H K) h
theorem L137_0_rule {K:AV→Heap→Prop} {v0 v1 v7 v8:AV} {H:Heap} {σ:Type} (s0:σ) (f8:σ→AV) (TH:σ→Heap) (pre:σ→Prop) (μ:σ→Nat)
    (h0:pre s0∧AV.wk v8 (f8 s0)∧Heap.le (TH s0) H)
    (round:∀s,pre s→B137_0 K (fun w8 H'=>∃s',pre s'∧μ s' < μ s∧AV.wk w8 (f8 s')∧Heap.le (TH s') H') v0 v1 v7 (f8 s) (TH s)) :
    L137_0 K v0 v1 v7 v8 H:=by
  unfold L137_0
  exact LoopV.mk s0 (fun s=>[f8 s]) TH pre μ (fun _=>rfl) (Eq.mp (by kernel_rfl) h0) (fun s hs=>Eq.mp (by kernel_rfl) (round s hs))
def D149:Info:=⟨48,fun i=>if i=9 then ([[],[],[],[1,2],[],[],[4,5],[1,2,3,4,5,6],[0,1,2,3,4,5,6,7],[0,1,2,3,4,5,6,7,8]],[(0,[]),(1,[]),(2,[]),(3,[]),(4,[]),(5,[]),(6,[]),(7,[]),(8,[]),(9,[])]) else ([],[]),fun i=>if i=8 then ([7],[8]) else ([],[])⟩
def L149_0 (K:AV→Heap→Prop) (v7:AV) (v8:AV) (H:Heap):Prop:=LoopV (wpC Try.prog tab D149 (cAt [1,1,1,1,1,1,0,0,0] (bodyOf Try.f149))) [7] (PostF.block 0 (PostF.thenA (wpC Try.prog tab D149 (cAt [1,1,1,1,1,1,1] (bodyOf Try.f149))) (retF tab [.tmp 4] K))) [8] [AV.any,AV.any,AV.any,AV.any,AV.any,AV.any,AV.any,v7,v8,AV.any,AV.any,AV.any,AV.any,AV.any,AV.any,AV.any,AV.any,AV.any,AV.any,AV.any,AV.any,AV.any,AV.any,AV.any,AV.any,AV.any,AV.any,AV.any,AV.any,AV.any,AV.any,AV.any,AV.any,AV.any,AV.any,AV.any,AV.any,AV.any,AV.any,AV.any,AV.any,AV.any,AV.any,AV.any,AV.any,AV.any,AV.any,AV.any] H
def B149_0 (K:AV→Heap→Prop) (N1:AV→Heap→Prop) (v7:AV) (v8:AV) (H:Heap):Prop:=
 lenV tab 76 v7 fun v36=>
 binV tab .lss 3 v8 v36 fun v37=>
 condV v37 (sliceV tab 76 v7 (some v8) none none fun v41=>
 sliceV tab 76 v7 none (some v8) none fun v44=>
 copyV tab 76 v41 v44 H fun v45 H4=>
 binV tab .add 3 v8 v45 fun v46=>
 N1 v46 H4)
 (K v7 H)
def W149 (v0:AV) (v1:AV) (H:Heap) (K:AV→Heap→Prop):Prop:=
 binV tab .lss 3 v1 (AV.p (.int .i64 0)) fun v10=>
 condV v10 (False)
 (lenV tab 76 v0 fun v14=>
 convV tab 3 77 v14 fun v15=>
 convV tab 3 77 v1 fun v17=>
 CallT Try.prog 158 [v15,v17] H fun v18 H1=>
 extractV v18 0 fun v19=>
 extractV v18 1 fun v20=>
 binV tab .gtr 77 v19 (AV.p (.int .u64 0)) fun v22=>
 grdV v22 false (binV tab .gtr 77 v20 (AV.p (.int .u64 9223372036854775807)) fun v25=>
 condV v25 (False)
 (convV tab 77 3 v20 fun v29=>
 makeSliceV tab 76 v29 v29 H1 fun v30 H2=>
 copyV tab 76 v30 v0 H2 fun v33 H3=>
 L149_0 K v30 v33 H3))
 (False))
theorem W149_wp (v0:AV) (v1:AV) (H:Heap) (K:AV→Heap→Prop):wpC Try.prog tab D149 (bodyOf Try.f149) (retF tab [.tmp 4] K) (nthA [v0,v1]) H=W149 v0 v1 H K:=by kernel_rfl
theorem W149_ok {v0 v1:AV} {H:Heap} {K:AV→Heap→Prop} (h:W149 v0 v1 H K):CallT Try.prog 149 [v0,v1] H K:=
  CallT.of_wp (D:=D149) tab_ok mixed Try.func149 (c:=bodyOf Try.f149) (by kernel_rfl) rfl (by kernel_rfl) (rs:=#[.tmp 4]) rfl (by decide +kernel) (by kernel_rfl) (W149_wp v0 v1 H K) h
theorem L149_0_rule {K:AV→Heap→Prop} {v7 v8:AV} {H:Heap} {σ:Type} (s0:σ) (f8:σ→AV) (TH:σ→Heap) (pre:σ→Prop) (μ:σ→Nat)
    (h0:pre s0∧AV.wk v8 (f8 s0)∧Heap.le (TH s0) H)
    (round:∀s,pre s→B149_0 K (fun w8 H'=>∃s',pre s'∧μ s' < μ s∧AV.wk w8 (f8 s')∧Heap.le (TH s') H') v7 (f8 s) (TH s)) :
    L149_0 K v7 v8 H:=by
  unfold L149_0
  exact LoopV.mk s0 (fun s=>[f8 s]) TH pre μ (fun _=>rfl) (Eq.mp (by kernel_rfl) h0) (fun s hs=>Eq.mp (by kernel_rfl) (round s hs))
def D150:Info:=⟨4,fun i=>([],[]),fun i=>([],[])⟩
def W150 (v0:AV) (H:Heap) (K:AV→Heap→Prop):Prop:=
 boxV v0 H fun v1 H1=>
 K (.fn 159 [v1]) H1
theorem W150_wp (v0:AV) (H:Heap) (K:AV→Heap→Prop):wpC Try.prog tab D150 (bodyOf Try.f150) (retF tab [.tmp 2] K) (nthA [v0]) H=W150 v0 H K:=by kernel_rfl
theorem W150_ok {v0:AV} {H:Heap} {K:AV→Heap→Prop} (h:W150 v0 H K):CallT Try.prog 150 [v0] H K:=
  CallT.of_wp (D:=D150) tab_ok mixed Try.func150 (c:=bodyOf Try.f150) (by kernel_rfl) rfl (by kernel_rfl) (rs:=#[.tmp 2]) rfl (by decide +kernel) (by kernel_rfl) (W150_wp v0 H K) h
def D158:Info:=⟨30,fun i=>([],[]),fun i=>([],[])⟩
def W158 (v0:AV) (v1:AV) (H:Heap) (K:AV→Heap→Prop):Prop:=
 CallT Try.prog 162 [v0,v1] H fun v25 H1=>
 extractV v25 0 fun v26=>
 extractV v25 1 fun v27=>
 K (.tup [v26,v27]) H1
theorem W158_wp (v0:AV) (v1:AV) (H:Heap) (K:AV→Heap→Prop):wpC Try.prog tab D158 (bodyOf Try.f158) (retF tab [.tmp 4,.tmp 5] K) (nthA [v0,v1]) H=W158 v0 v1 H K:=by kernel_rfl
theorem W158_ok {v0 v1:AV} {H:Heap} {K:AV→Heap→Prop} (h:W158 v0 v1 H K):CallT Try.prog 158 [v0,v1] H K:=
  CallT.of_wp (D:=D158) tab_ok mixed Try.func158 (c:=bodyOf Try.f158) (by kernel_rfl) rfl (by kernel_rfl) (rs:=#[.tmp 4,.tmp 5]) rfl (by decide +kernel) (by kernel_rfl) (W158_wp v0 v1 H K) h
def D162:Info:=⟨51,fun i=>([],[]),fun i=>([],[])⟩
def W162 (v0:AV) (v1:AV) (H:Heap) (K:AV→Heap→Prop):Prop:=
 binV tab .and 74 v0 (AV.p (.int .u64 4294967295)) fun v15=>
 binV tab .shr 74 v0 (AV.p (.int .u64 32)) fun v17=>
 binV tab .and 74 v1 (AV.p (.int .u64 4294967295)) fun v19=>
 binV tab .shr 74 v1 (AV.p (.int .u64 32)) fun v21=>
 binV tab .mul 74 v15 v19 fun v24=>
 binV tab .mul 74 v17 v19 fun v27=>
 binV tab .shr 74 v24 (AV.p (.int .u64 32)) fun v29=>
 binV tab .add 74 v27 v29 fun v30=>
 binV tab .and 74 v30 (AV.p (.int .u64 4294967295)) fun v32=>
 binV tab .shr 74 v30 (AV.p (.int .u64 32)) fun v34=>
 binV tab .mul 74 v15 v21 fun v38=>
 binV tab .add 74 v32 v38 fun v39=>
 binV tab .mul 74 v17 v21 fun v42=>
 binV tab .add 74 v42 v34 fun v44=>
 binV tab .shr 74 v39 (AV.p (.int .u64 32)) fun v46=>
 binV tab .add 74 v44 v46 fun v47=>
 binV tab .mul 74 v0 v1 fun v50=>
 K (.tup [v47,v50]) H
theorem W162_wp (v0:AV) (v1:AV) (H:Heap) (K:AV→Heap→Prop):wpC Try.prog tab D162 (bodyOf Try.f162) (retF tab [.tmp 4,.tmp 5] K) (nthA [v0,v1]) H=W162 v0 v1 H K:=by kernel_rfl
theorem W162_ok {v0 v1:AV} {H:Heap} {K:AV→Heap→Prop} (h:W162 v0 v1 H K):CallT Try.prog 162 [v0,v1] H K:=
  CallT.of_wp (D:=D162) tab_ok mixed Try.func162 (c:=bodyOf Try.f162) (by kernel_rfl) rfl (by kernel_rfl) (rs:=#[.tmp 4,.tmp 5]) rfl (by decide +kernel) (by kernel_rfl) (W162_wp v0 v1 H K) h
end Go.Proofs.Ytjdhigcefkihiaa
namespace Go.Proofs.Ytjdhigcefkihiaa
open Go Go.Sep
attribute [local irreducible] wpC headF
def D130:Info:=⟨39,fun i=>if i=6 then ([[],[],[],[],[],[],[],[5,6],[4,5,6,7],[4,5,6,7,8],[2,3,4,5,6,7,8,9],[0,1,2,3,4,5,6,7,8,9,10],[0,1,2,3,4,5,6,7,8,9,10,11]],[(0,[]),(1,[]),(2,[]),(3,[]),(4,[]),(5,[]),(6,[]),(7,[0,2,4]),(8,[]),(9,[]),(10,[0]),(11,[]),(12,[])]) else ([],[]),fun i=>if i=3 then ([3,5,7],[19]) else if i=6 then ([3,5,7,19,22],[]) else ([],[])⟩
def L130_0 (K:AV→Heap→Prop) (v3:AV) (v5:AV) (v7:AV) (v19:AV) (H:Heap):Prop:=LoopV (wpC Try.prog tab D130 (cAt [1,1,0,1,0,0] (bodyOf Try.f130))) [3,5,7] (PostF.block 0 (PostF.thenA (wpC Try.prog tab D130 (cAt [1,1,1] (bodyOf Try.f130))) (retF tab [.tmp 6] K))) [19] [AV.any,AV.any,AV.any,v3,AV.any,v5,AV.any,v7,AV.any,AV.any,AV.any,AV.any,AV.any,AV.any,AV.any,AV.any,AV.any,AV.any,AV.any,v19,AV.any,AV.any,AV.any,AV.any,AV.any,AV.any,AV.any,AV.any,AV.any,AV.any,AV.any,AV.any,AV.any,AV.any,AV.any,AV.any,AV.any,AV.any,AV.any] H
def R130_1 (K:AV→Heap→Prop) (N1:AV→Heap→Prop) (v3:AV) (v5:AV) (v7:AV) (v19:AV) (v22:AV) (H:Heap):Prop:=RngV Try.prog 22 23 24 8 (rngB Try.prog tab D130 (cAt [1,1,0,1,0,0,1,1,0,0,1,0,0] (bodyOf Try.f130))) (PostF.block 2 (PostF.block 1 (PostF.thenA (wpC Try.prog tab D130 (cAt [1,1,0,1,0,0,1,1,1] (bodyOf Try.f130))) (loopF (PostF.block 0 (PostF.thenA (wpC Try.prog tab D130 (cAt [1,1,1] (bodyOf Try.f130))) (retF tab [.tmp 6] K))) (fun e h=>N1 (e 19) h))))) [AV.any,AV.any,AV.any,v3,AV.any,v5,AV.any,v7,AV.any,AV.any,AV.any,AV.any,AV.any,AV.any,AV.any,AV.any,AV.any,AV.any,AV.any,v19,AV.any,AV.any,v22,AV.any,AV.any,AV.any,AV.any,AV.any,AV.any,AV.any,AV.any,AV.any,AV.any,AV.any,AV.any,AV.any,AV.any,AV.any,AV.any] H
def RB130_1 (N:Heap→Prop) (v3:AV) (v5:AV) (v7:AV) (w:AV) (H:Heap):Prop:=
 loadV tab 76 v7 H fun v25=>
 loadV tab 124 v5 H fun v27=>
 loadV tab 76 v7 H fun v29=>
 loadV tab 32 v3 H fun v30=>
 CallT Try.prog 133 [v30,w] H fun v32 H8=>
 (loadV tab 76 v7 H8 fun v9025=>
 v25=v9025)∧
 (loadV tab 124 v5 H8 fun v9027=>
 v27=v9027)∧
 (loadV tab 76 v7 H8 fun v9029=>
 v29=v9029)∧
 indexAddrV tab 76 v29 v32 fun v33=>
 loadV tab 4 v33 H8 fun v34=>
 callF Try.prog v27 [w,v34] H8 fun v35 H9=>
 (loadV tab 76 v7 H9 fun v9025=>
 v25=v9025)∧
 indexAddrV tab 76 v25 w fun v36=>
 storeV tab 4 v36 v35 H9 fun H10=>
 N H10
def B130_0 (K:AV→Heap→Prop) (N1:AV→Heap→Prop) (v3:AV) (v5:AV) (v7:AV) (v19:AV) (H:Heap):Prop:=
 binV tab .lss 3 v19 (AV.p (.int .i64 2)) fun v20=>
 condV v20 (loadV tab 76 v7 H fun v21=>
 CallT Try.prog 150 [v21] H fun v22 H7=>
 R130_1 K N1 v3 v5 v7 v19 v22 H7)
 (loadV tab 76 v7 H fun v38=>
 K v38 H)
def W130 (v0:AV) (v1:AV) (v2:AV) (H:Heap) (K:AV→Heap→Prop):Prop:=
 boxV v0 H fun v3 H1=>
 boxV v2 H1 fun v5 H2=>
 buildSliceV tab 76 1 [(0,v1)] H2 (wkK fun v10 H3=>
 fieldAddrV tab 32 v3 0 fun v11=>
 loadV tab 23 v11 H3 fun v12=>
 lenV tab 23 v12 fun v13=>
 fieldAddrV tab 32 v3 1 fun v14=>
 loadV tab 23 v14 H3 fun v15=>
 lenV tab 23 v15 fun v16=>
 binV tab .add 3 v13 v16 fun v17=>
 CallT Try.prog 149 [v10,v17] H3 fun v18 H4=>
 allocV tab 76 H4 fun v7 H5=>
 storeV tab 76 v7 v18 H5 fun H6=>
 L130_0 K v3 v5 v7 (AV.p (.int .i64 0)) H6)
theorem W130_wp (v0:AV) (v1:AV) (v2:AV) (H:Heap) (K:AV→Heap→Prop):wpC Try.prog tab D130 (bodyOf Try.f130) (retF tab [.tmp 6] K) (nthA [v0,v1,v2]) H=W130 v0 v1 v2 H K:=by kernel_rfl
theorem W130_ok {v0 v1 v2:AV} {H:Heap} {K:AV→Heap→Prop} (h:W130 v0 v1 v2 H K):CallT Try.prog 130 [v0,v1,v2] H K:=
  CallT.of_wp (D:=D130) tab_ok mixed Try.func130 (c:=bodyOf Try.f130) (by kernel_rfl) rfl (by kernel_rfl) (rs:=#[.tmp 6]) rfl (by decide +kernel) (by kernel_rfl) (W130_wp v0 v1 v2 H K) h
theorem R130_1_rule {K:AV→Heap→Prop} {N1:AV→Heap→Prop} {v3 v5 v7 v19 v22:AV} {H:Heap} (f1 bx q n:Nat) (Inv:List Nat→Heap→Prop) (hB:BackOk Try.prog f1) (ht:v22=.fn f1 [.ptr bx 0]) (hn:0 < n∧n≤1000000) (h0:Inv [] H)
    (hI:∀ks H',Inv ks H'→H' bx=some [.sl q 1 0 n]∧∃bs:List Bool,H' q=some (bs.map fun b=>.p (.bool b))∧bs.length=n)
    (round:∀ks (j:Nat) H',j < n→Inv ks H'→RB130_1 (fun H''=>Inv (ks++[j]) H'') v3 v5 v7 (.p (.int .i64 j)) H')
    (fin:∀H',Inv ((List.range n).map fun j=>n - 1 - j) H'→binV tab .add 3 v19 (AV.p (.int .i64 1)) fun v37=>
      N1 v37 H'):R130_1 K N1 v3 v5 v7 v19 v22 H:=by
  unfold R130_1
  exact ⟨f1,bx,q,n,Inv,hB,Eq.trans (by kernel_rfl) ht,hn,h0,hI,fun ks j H' hj hi=>Eq.mp (by kernel_rfl) (round ks j H' hj hi),fun H' hi=>Eq.mp (by kernel_rfl) (fin H' hi)⟩
theorem L130_0_rule {K:AV→Heap→Prop} {v3 v5 v7 v19:AV} {H:Heap} {σ:Type} (s0:σ) (f19:σ→AV) (TH:σ→Heap) (pre:σ→Prop) (μ:σ→Nat)
    (h0:pre s0∧AV.wk v19 (f19 s0)∧Heap.le (TH s0) H)
    (round:∀s,pre s→B130_0 K (fun w19 H'=>∃s',pre s'∧μ s' < μ s∧AV.wk w19 (f19 s')∧Heap.le (TH s') H') v3 v5 v7 (f19 s) (TH s)) :
    L130_0 K v3 v5 v7 v19 H:=by
  unfold L130_0
  exact LoopV.mk s0 (fun s=>[f19 s]) TH pre μ (fun _=>rfl) (Eq.mp (by kernel_rfl) h0) (fun s hs=>Eq.mp (by kernel_rfl) (round s hs))
end Go.Proofs.Ytjdhigcefkihiaa
namespace Go.Proofs.Ytjdhigcefkihiaa
open Go Go.Sep
attribute [local irreducible] CallT
theorem i64_id {n:Int} (h0:-9223372036854775808≤n) (h1:n≤9223372036854775807):IntKind.i64.wrap n=n:=wrap64_id h0 h1
theorem wk_int {k:IntKind} {a b:Int}:AV.wk (.p (.int k a)) (.p (.int k b))=(a=b):=by
  apply propext;constructor
  · intro h;cases h;rfl
  · rintro rfl;exact .refl _
theorem take_all_succ {α:Type} {p:α→Bool} {xs:List α} {i:Nat} (h:i < xs.length):(xs.take (i+1)).all p=((xs.take i).all p && p xs[i]):=by
  rw [List.take_succ_eq_append_getElem h,List.all_append];simp
theorem getD_lt {α:Type} {xs:List α} {i:Nat} {d:α} (h:i < xs.length):xs.getD i d=xs[i]:=by simp [List.getD,h]
theorem getD_all {α:Type} {p:α→Prop} {l:List α} {d:α} (h:∀b∈l,p b) {i:Nat} (hi:i < l.length):p (l.getD i d):=by
  simp only [List.getD,List.getElem?_eq_getElem hi,Option.getD_some];exact h _ (List.getElem_mem hi)
theorem range_all_false {p:Nat→Bool} {n i:Nat} (hi:i < n) (h:p i=false):(List.range n).all p=false:=by
  rw [List.all_eq_false];exact ⟨i,List.mem_range.2 hi,by simp [h]⟩
theorem Wk.own_le {q sz:Nat} {es:List (List PV)} {H H':Heap} (hpos:0 < sz) (hs:Sized sz es) (hq:H q=none) (hle:Heap.le (H.set q (cells es)) H'):Wk (own q sz es) H' (.p (.sl es)) H:=by
  have h1:H' q=some (cells es):=hle q _ (Heap.set_same _ _ _)
  refine .trans (.own hpos hs h1) (.forget (Heap.le_del (fun x b hx=>hle x b ?_) hq))
  rw [Heap.set_other (fun e=>by rw [e,hq] at hx;cases hx)];exact hx
theorem CallT.fin {P:Program} {f:Nat} {args:List AV} {H:Heap} {K:AV→Heap→Prop} (h:CallT P f args H (wkK K)):CallT P f args H K:=
  h.wk fun v H1 ⟨v',H2,hw,hk⟩=>⟨v',H2,hw,hk⟩
theorem szI (xs:List Int):Sized 1 (xs.map eI):=sizedMap (f:=eI) (fun _=>rfl) xs
theorem cells_I (xs:List Int):cells (xs.map eI)=xs.map fun n=>I n:=by
  induction xs with
  | nil=>rfl
  | cons x xs ih=>simp only [cells,List.map_cons,List.flatten_cons,List.map_append] at ih ⊢;rw [ih];rfl
abbrev eL (l:List Int):List PV:=[.sl (l.map eI)]
abbrev Ls (cs:List (List Int)):AV:=.p (.sl (cs.map eL))
abbrev Bs (bs:List Bool):AV:=.p (.sl (bs.map eB))
theorem fin_own {q sz:Nat} {es:List (List PV)} {H H':Heap} {K:AV→Heap→Prop} (hpos:0 < sz) (hs:Sized sz es) (hq:H q=none) (hle:Heap.le (H.set q (cells es)) H') (h:K (.p (.sl es)) H):wkK K (own q sz es) H':=
  ⟨_,_,Wk.own_le hpos hs hq hle,h⟩
theorem fin_le {v:AV} {H H':Heap} {K:AV→Heap→Prop} (hle:Heap.le H H') (h:K v H):wkK K v H':=⟨_,_,.forget hle,h⟩
def PuAt (P:Program) (f:Nat) (args:List AV) (H:Heap) (v:AV):Prop:=∀K:AV→Heap→Prop,K v H→CallT P f args H K
theorem Pu.at {P:Program} {f:Nat} {args:List AV} {v:AV} (h:Pu P f args v) (H:Heap):PuAt P f args H v:=fun K hk=>h.use hk
theorem PuAt.use {P:Program} {f:Nat} {args:List AV} {v:AV} {H:Heap} (h:PuAt P f args H v) {K:AV→Heap→Prop} (k:K v H):CallT P f args H K:=h K k
def enumP:Nat→List PV→List (Nat×AV)
  | _,[]=>[]
  | k,v::vs=>(k,.p v)::enumP (k+1) vs
theorem fill_enum:∀(vs:List PV) (k:Nat) (a:List AV) (b:List AV),a.length=k→vs.length≤b.length→
    fillV (fun i=>some (i*1,1)) (a++b) (enumP k vs)=some (a++vs.map .p++b.drop vs.length)
  | [],k,a,b,h1,h2=>by simp [enumP,fillV]
  | v::vs,k,a,b,h1,h2=>by
    match b,h2 with
    | x::b,h2=>
      have hb:vs.length≤b.length:=by simpa using h2
      have ih:=fill_enum vs (k+1) (a++[.p v]) b (by simp [h1]) hb
      simp only [enumP,fillV,AV.cells,List.length_cons,List.length_nil,Nat.zero_add,Nat.mul_one]
      rw [if_pos ⟨trivial,by simp [h1]⟩]
      have hs:splice (a++x::b) k [AV.p v]=(a++[AV.p v])++b:=by
        subst h1
        simp [splice,List.append_assoc,List.drop_append]
      rw [hs]
      simp only [Nat.mul_one] at ih
      rw [ih]
      simp
theorem lit_gen {tab:Tab} {t e:Nat} {d ed:TD} {H:Heap} {K:AV→Heap→Prop} (h1:tab t=some d) (h2:d.k=.slice e) (h3:tab e=some ed) (h4:ed.size=1∧ed.zero.length=1) (vs:List PV)
    (hsm:vs.length≤1000)
    (h:K (.p (.sl (vs.map fun v=>[v]))) H):buildSliceV tab t vs.length (enumP 0 vs) H (wkK K):=by
  obtain ⟨z,hz⟩:∃z,ed.zero=[z]:=by
    match ed.zero,h4.2 with
    | [z],_=>exact ⟨z,rfl⟩
  simp only [buildSliceV,h1,h2,h3,h4.1]
  refine ⟨by omega,?_⟩
  have hzl:(zerosA vs.length ed.zero).length=vs.length:=by rw [zerosA_len,hz];simp
  have:=fill_enum vs 0 [] (zerosA vs.length ed.zero) rfl (by omega)
  rw [List.nil_append,List.nil_append,List.drop_of_length_le (by omega),List.append_nil] at this
  rw [this]
  intro r hr
  have hf:∀vs:List PV,(vs.map fun v=>[v]).flatten=vs:=by
    intro vs
    induction vs with
    | nil=>rfl
    | cons v vs ih=>simp only [List.map_cons,List.flatten_cons,ih,List.singleton_append]
  refine ⟨_,_,Wk.trans (Wk.frz (r:=r) (sz:=1) (es:=vs.map fun v=>[v]) (v:=.sl r 1 0 vs.length) (v':=.p (.sl (vs.map fun v=>[v]))) (by omega) ?_ ?_ ?_) (.forget ?_),h⟩
  · rw [Heap.set_same,hf vs]
  · intro e he;obtain ⟨v,_,rfl⟩:=List.mem_map.1 he;rfl
  · have:FrzR r 1 (vs.map fun v=>[v]) (.sl r 1 0 (vs.map fun v=>[v]).length) (.p (.sl (vs.map fun v=>[v]))):=.here
    rwa [List.length_map] at this
  · rw [Heap.del_set hr];exact Heap.le_refl _
theorem lit3 {tab:Tab} {t e:Nat} {d ed:TD} {a b c:PV} {H:Heap} {K:AV→Heap→Prop} (h1:tab t=some d) (h2:d.k=.slice e) (h3:tab e=some ed) (h4:ed.size=1∧ed.zero.length=1)
    (h:K (.p (.sl [[a],[b],[c]])) H):buildSliceV tab t 3 [(0,.p a),(1,.p b),(2,.p c)] H (wkK K):=lit_gen h1 h2 h3 h4 [a,b,c] (by simp) h
end Go.Proofs.Ytjdhigcefkihiaa
namespace Go.Proofs.Ytjdhigcefkihiaa
open Go Go.Sep
theorem typed_byte {x:List PV} (h:Typed Try.prog 5 x):∃n:Int,(0≤n∧n < 256)∧x=e8 n:=by
  have hu:Try.prog.underlying 5=some (.int .u8):=by kernel_rfl
  cases h with
  | bool h=>rw [hu] at h;cases h
  | int h hw=>
    rw [hu] at h;cases h
    rename_i n
    refine ⟨n,?_,rfl⟩
    simp only [Lit.wf,Bool.and_eq_true,decide_eq_true_eq] at hw
    have e1:IntKind.u8.min=0:=by decide
    have e2:IntKind.u8.max=255:=by decide
    rw [e1,e2] at hw
    omega
  | str h _=>rw [hu] at h;cases h
  | sl h _ _=>rw [hu] at h;cases h
  | struct h _=>rw [hu] at h;cases h
theorem typed_rows:∀(es:List (List PV)),(∀x∈es,Typed Try.prog 5 x)→∃ns:List Int,(∀b∈ns,0≤b∧b < 256)∧es=ns.map e8
  | [],_=>⟨[],fun b hb=>by simp at hb,rfl⟩
  | x::es,h=>by
    obtain ⟨n,hn,rfl⟩:=typed_byte (h x (by simp))
    obtain ⟨ns,hns,rfl⟩:=typed_rows es fun y hy=>h y (by simp [hy])
    refine ⟨n::ns,?_,rfl⟩
    intro b hb
    rcases List.mem_cons.1 hb with rfl | hb
    · exact hn
    · exact hns b hb
theorem arg_bytes {v:AV} (h:ArgT Try.prog 41 v):∃ns:List Int,(∀b∈ns,0≤b∧b < 256)∧v=.p (.sl (ns.map e8)):=by
  have hu:Try.prog.underlying 41=some (.slice 5):=by kernel_rfl
  cases h with
  | cell hs h=>
    cases h with
    | bool h=>rw [hu] at h;cases h
    | int h hw=>rw [hu] at h;cases h
    | str h _=>rw [hu] at h;cases h
    | sl h hl he=>
      rw [hu] at h;cases h
      obtain ⟨ns,hns,rfl⟩:=typed_rows _ he
      exact ⟨ns,hns,rfl⟩
    | struct h _=>rw [hu] at h;cases h
  | agg h _=>rw [hu] at h;cases h
end Go.Proofs.Ytjdhigcefkihiaa
namespace Go.Proofs.Ytjdhigcefkihiaa
open Go Go.Sep
attribute [local irreducible] CallT
theorem l1In_spec (a lo hi:Int):Pu Try.prog 77 [I a,I lo,I hi] (B (decide (lo≤a) && decide (a≤hi))):=by
  refine Pu.of fun H=>?_
  refine W77_ok ?_;simp (maxSteps:=1000000) (disch:=first | assumption | (apply ν6;assumption)) only [W77,vz,vu,vv,eqS,eF_,↓c1_,↓c2_,tabs,reduceCtorEq,ι5,↓reduceIte,ν1,ν2,ν3,ν4,ν5,ι1,ι2,ι3,ι4]
  exact ⟨fun h=>by simp [h],fun h=>by simp [h]⟩
end Go.Proofs.Ytjdhigcefkihiaa
namespace Go.Pt
structure Nd where
  op:Int
  n:Int
deriving Inhabited,DecidableEq
structure Ch where
  var:Int
  by_:List Nd
deriving Inhabited,DecidableEq
structure Cm where
  when_:List Nd
  chs:List Ch
deriving Inhabited,DecidableEq
structure Pg where
  wide:Int
  vars:Int
  start:List Nd
  cmds:List Cm
deriving Inhabited,DecidableEq
def inB (n lo hi:Int):Bool:=decide (lo≤n) && decide (n≤hi)
theorem inB_iff {n lo hi:Int}:inB n lo hi=true↔lo≤n∧n≤hi:=by simp [inB]
def own (op:Int):Int:=
  if op=1∨op=2∨op=13∨(3≤op∧op≤12) then 1
  else if op=20∨op=19∨(14≤op∧op≤16)∨op=17∨op=18 then 2 else 0
def many (op:Int):Nat:=
  if op=13∨op=19 then 1 else if (3≤op∧op≤12)∨(14≤op∧op≤16)∨op=17∨op=18 then 2 else 0
def part (op:Int):Int:=
  if op=13∨(3≤op∧op≤12)∨(14≤op∧op≤16) then 1 else 2
def leafOk (wide vars:Int) (x:Nd):Bool:=
  if x.op=1 then inB wide 1 64 && decide (x.n < 2^wide.toNat)
  else if x.op=2 then decide (x.n < vars)
  else if x.op=20 then decide (x.n≤1)
  else decide (x.n=0)
def step (w v:Int) (p:List Int) (x:Nd):Option (List Int):=
  if own x.op=0∨leafOk w v x=false∨p.length < many x.op then none
  else if (p.drop (p.length - many x.op)).any (fun k=>decide (k≠part x.op)) then none
  else some (p.take (p.length - many x.op)++[own x.op])
def run (w v:Int):List Int→List Nd→Option (List Int)
  | p,[]=>some p
  | p,x::xs=>(step w v p x).bind fun p'=>run w v p' xs
def frame (w v:Int) (t:List Nd):Bool:=inB w 1 64 && inB v 1 4 && (decide (1≤t.length) && decide (t.length≤48))
def kind (w v:Int) (t:List Nd):Int:=
  if frame w v t then (match run w v [] t with
    | some [k]=>k
    | _=>0) else 0
theorem take_succ_snoc {α:Type} [Inhabited α] {xs:List α} {i:Nat} (h:i < xs.length):xs.take (i+1)=xs.take i++[xs.getD i default]:=by
  rw [List.take_succ_eq_append_getElem h];simp [List.getD,h]
end Go.Pt
namespace Go.Pt
structure Ed where
  src:Int
  lt:Int
  dst:Int
deriving Inhabited
structure Au where
  states:Int
  first:List Int
  edges:List Ed
  goals:List (List Int)
deriving Inhabited
def riseAt (l:List Int) (n:Int) (i:Nat):Bool:=(decide (0≤l.getD i default) && decide (l.getD i default < n)) && (decide (i=0) || decide (l.getD (i - 1) default < l.getD i default))
def rising (l:List Int) (n:Int):Bool:=(List.range l.length).all (riseAt l n)
def edIn (n:Int) (e:Ed):Bool:=(decide (0≤e.src) && decide (e.src < n)) && ((decide (0≤e.dst) && decide (e.dst < n)) && (decide (0≤e.lt) && decide (e.lt < 8)))
end Go.Pt
namespace Go.Proofs.Ytjdhigcefkihiaa
open Go Go.Sep
attribute [local irreducible] CallT
abbrev fI (n:Int):PV:=.int .i64 n
abbrev rowP {α:Type} (q:Nat) (xs:List α):AV:=.sl q 1 0 xs.length
abbrev cP {α:Type} (f:α→PV) (xs:List α):List AV:=xs.map fun x=>AV.p (f x)
abbrev vP {α:Type} (f:α→PV) (xs:List α):AV:=.p (.sl (xs.map fun x=>[f x]))
theorem cells_P {α:Type} (f:α→PV) (xs:List α):cells (xs.map fun x=>[f x])=cP f xs:=by
  induction xs with
  | nil=>rfl
  | cons x xs ih=>simp only [cells,List.map_cons,List.flatten_cons,List.map_append] at ih ⊢;rw [ih];rfl
theorem flat_P {α:Type} (f:α→PV) (xs:List α):(xs.map fun x=>[f x]).flatten.map AV.p=cP f xs:=cells_P f xs
theorem szP {α:Type} (f:α→PV) (xs:List α):Sized 1 (xs.map fun x=>[f x]):=sizedMap (f:=fun x=>[f x]) (fun _=>rfl) xs
theorem cP_cell {α:Type} (f:α→PV) (xs:List α):(cP f xs).all AV.isCell=true:=by
  rw [← cells_P];exact cells_cell _
theorem read_row {α:Type} {f:α→PV} {xs:List α} {k:Nat} (d:α) (h:k < xs.length):((((cP f xs).drop k).take 1).headD .any)=.p (f (xs.getD k d)):=by
  rw [List.drop_eq_getElem_cons (by simpa using h)]
  simp [List.getD,h]
def Base {α:Type} (f:α→PV) (x:AV) (xs:List α) (G:Heap):Prop:=(x=.p .nil∧xs=[])∨∃q,x=rowP q xs∧G q=some (cP f xs)
theorem app_row {α:Type} {f:α→PV} {tab:Tab} {t e:Nat} {d ed:TD} {q:Nat} {xs ys:List α} {G:Heap} {K:AV→Heap→Prop} (h1:tab t=some d) (h2:d.k=.slice e) (h3:tab e=some ed) (h6:ed.size=1) (h7:ed.bytes≤64)
    (hq:G q=some (cP f xs)) (hl:xs.length+ys.length≤1000000000)
    (h:∀q',G q'=none→K (rowP q' (xs++ys)) ((G.del q).set q' (cP f (xs++ys)))):appendV tab t t (rowP q xs) (vP f ys) G (wkK K):=by
  have:=app_own (x:=vP f ys) (r:=q) (es:=xs.map fun x=>[f x]) (fs:=ys.map fun x=>[f x]) (H:=G) (K:=K) h1 h2 h3 h1 h2 h6 (bz:=ed.bytes) rfl (.inl rfl) (by rw [cells_P];exact hq) (szP f xs) (szP f ys)
    (by simp only [List.length_map];exact Nat.le_trans (Nat.mul_le_mul hl h7) (by omega)) (by simp only [List.length_map];omega) fun r' hr'=>by
      have:=h r' hr'
      rw [← List.map_append,cells_P]
      simpa only [own,List.length_map] using this
  simpa only [own,List.length_map] using this
theorem app_base {α:Type} {f:α→PV} {tab:Tab} {t e:Nat} {d ed:TD} {x:AV} {xs ys:List α} {G:Heap} {K:AV→Heap→Prop} (h1:tab t=some d) (h2:d.k=.slice e) (h3:tab e=some ed) (h6:ed.size=1) (h7:ed.bytes≤64)
    (hb:Base f x xs G) (hl:xs.length+ys.length≤1000000000)
    (h:∀q' G1,G q'=none→G1 q'=some (cP f (xs++ys))→(∀y,y≠q'→(∀q,x=rowP q xs→y≠q)→G1 y=G y)→K (rowP q' (xs++ys)) G1):appendV tab t t x (vP f ys) G (wkK K):=by
  rcases hb with ⟨rfl,rfl⟩ | ⟨q,rfl,hq⟩
  · simp only [appendV,h1,h2,h3,h6,srcV,baseV]
    refine ⟨szP f ys,?_,?_,?_,fun r' hr'=>wkK.keep ?_⟩
    · have hl2:0+(ys.map fun x=>[f x]).length≤1000000000:=by simpa using hl
      exact Nat.le_trans (Nat.mul_le_mul hl2 h7) (by omega)
    · simp only [List.length_map];simp at hl;omega
    · exact cells_cell _
    · have:=h r' (G.set r' (cP f ys)) hr' (by rw [Heap.set_same];rfl) (fun y hy _=>Heap.set_other hy)
      rw [flat_P]
      simpa using this
  · refine app_row h1 h2 h3 h6 h7 hq hl fun q' hq'=>?_
    have hne:q'≠q:=by rintro rfl;rw [hq] at hq';cases hq'
    refine h q' _ hq' (Heap.set_same _ _ _) fun y hy hy2=>?_
    rw [Heap.set_other hy,Heap.del_other (hy2 q rfl)]
structure Own1 {α:Type} (f:α→PV) (H0 G:Heap) (r:Nat) (pre:List AV) (x:AV) (xs:List α):Prop where
  hr:G r=some (pre++[x])
  base:(x=.p .nil∧xs=[])∨∃q,x=rowP q xs∧G q=some (cP f xs)∧H0 q=none∧q≠r
  le:Heap.le H0 G
  nr:H0 r=none
theorem Own1.alloc {α:Type} {f:α→PV} {H0 G:Heap} {r:Nat} {pre:List AV} {x:AV} {xs:List α} (o:Own1 f H0 G r pre x xs) {q:Nat} (hq:G q=none) (b:List AV):Own1 f H0 (G.set q b) r pre x xs:=by
  have ne:∀{y c},G y=some c→y≠q:=fun h e=>by rw [e,hq] at h;cases h
  refine ⟨by rw [Heap.set_other (ne o.hr)];exact o.hr,?_,Heap.le_setN o.le ?_,o.nr⟩
  · rcases o.base with h | ⟨q1,h1,h2,h3,h4⟩
    · exact .inl h
    · exact .inr ⟨q1,h1,by rw [Heap.set_other (ne h2)];exact h2,h3,h4⟩
  · cases hh:H0 q with
    | none=>rfl
    | some c=>rw [o.le q c hh] at hq;cases hq
theorem Own1.app {α:Type} {f:α→PV} {H0 G:Heap} {r:Nat} {pre:List AV} {x:AV} {xs:List α} (o:Own1 f H0 G r pre x xs) {tab:Tab} {t e:Nat} {d ed:TD} {ys:List α} {K:AV→Heap→Prop} (h1:tab t=some d) (h2:d.k=.slice e) (h3:tab e=some ed) (h6:ed.size=1) (h7:ed.bytes≤64)
    (hl:xs.length+ys.length≤1000000000)
    (h:∀q' m G1,G1 r=some (pre++[x])→Own1 f H0 (G1.set r (pre++[.sl q' 1 0 m])) r pre (.sl q' 1 0 m) (xs++ys)→(∀y b,y≠r→H0 y=some b→G1 y=some b)→K (.sl q' 1 0 m) G1):appendV tab t t x (vP f ys) G (wkK K):=by
  refine app_base (f:=f) h1 h2 h3 h6 h7 (xs:=xs) ?_ hl fun q' G1 hq' hG1 hfr=>?_
  · rcases o.base with h | ⟨q1,h1,h2,h3,h4⟩
    · exact .inl h
    · exact .inr ⟨q1,h1,h2⟩
  · have hrq:r≠q':=fun e=>by rw [← e,o.hr] at hq';cases hq'
    have hxr:∀q,x=rowP q xs→H0 q=none∧q≠r:=by
      intro q hx
      rcases o.base with ⟨h,_⟩ | ⟨q1,h1,h2,h3,h4⟩
      · rw [h] at hx;cases hx
      · rw [h1] at hx;cases hx;exact ⟨h3,h4⟩
    have hle1:∀y b,H0 y=some b→G1 y=some b:=by
      intro y b hy
      rw [hfr y (fun e=>by rw [← e,o.le y b hy] at hq';cases hq') (fun q hx e=>by rw [e,(hxr q hx).1] at hy;cases hy)]
      exact o.le y b hy
    have hnq:H0 q'=none:=by
      cases hh:H0 q' with
      | none=>rfl
      | some c=>rw [o.le q' c hh] at hq';cases hq'
    refine h q' _ G1 ?_ ⟨Heap.set_same _ _ _,.inr ⟨q',rfl,by rw [Heap.set_other hrq.symm];exact hG1,hnq,hrq.symm⟩,?_,o.nr⟩ fun y b _ hy=>hle1 y b hy
    · rw [hfr r hrq (fun q hx e=>(hxr q hx).2 e.symm)];exact o.hr
    · refine Heap.le_setN (fun y b hy=>hle1 y b hy) o.nr
theorem Own1.wk {α:Type} {f:α→PV} {H0 G:Heap} {r:Nat} {pre:List AV} {x:AV} {xs:List α} (o:Own1 f H0 G r pre x xs) {v v':AV}
    (hn:x=.p .nil→xs=[]→AV.wk v v') (hf:∀q,x=rowP q xs→FrzR q 1 (xs.map fun x=>[f x]) v v') (hp:∀q,q≠r→FrzL q 1 (xs.map fun x=>[f x]) (pre++[rowP q xs]) (pre++[vP f xs])) :
    ∃G',Wk v G v' G'∧G' r=some (pre++[vP f xs])∧Heap.le H0 G':=by
  rcases o.base with ⟨rfl,rfl⟩ | ⟨q,rfl,hq,hq0,hqr⟩
  · refine ⟨G.set r (pre++[vP f []]),.trans (.val (hn rfl rfl)) (.cell o.hr (by simp) fun i a a' ha ha'=>?_),Heap.set_same _ _ _,Heap.le_setN o.le o.nr⟩
    by_cases hi:i < pre.length
    · rw [List.getElem?_append_left hi] at ha ha'
      rw [ha] at ha';cases ha';exact .refl _
    · rw [List.getElem?_append_right (by omega)] at ha ha'
      cases hj:i - pre.length with
      | zero=>
        rw [hj] at ha ha'
        simp at ha ha'
        subst ha;subst ha';exact .nil
      | succ j=>rw [hj] at ha;simp at ha
  · refine ⟨(G.del q).set r (pre++[vP f xs]),Wk.frzAt (r:=q) (s:=r) (sz:=1) (es:=xs.map fun x=>[f x]) (by omega) (by rw [flat_P];exact hq) (szP f xs) o.hr hqr.symm (hp q hqr) (hf q rfl) (by simp),Heap.set_same _ _ _,?_⟩
    exact Heap.le_setN (Heap.le_del o.le hq0) o.nr
theorem FrzL.refl {r sz:Nat} {es:List (List PV)}:∀vs,FrzL r sz es vs vs
  | []=>.nil
  | v::vs=>.cons (.same v) (FrzL.refl vs)
theorem FrzL.app {r sz:Nat} {es:List (List PV)}:∀{vs ws ws':List AV},FrzL r sz es ws ws'→FrzL r sz es (vs++ws) (vs++ws')
  | [],_,_,h=>h
  | v::vs,_,_,h=>.cons (.same v) (FrzL.app (vs:=vs) h)
end Go.Proofs.Ytjdhigcefkihiaa
namespace Go.Proofs.Ytjdhigcefkihiaa
open Go Go.Sep
attribute [local irreducible] CallT
theorem IndexFunc_at (xs:List Int) (g:Nat) (caps:List AV) (p:Int→Bool) {H:Heap} (hl:xs.length≤1000000000) (hp:∀x∈xs,PuAt Try.prog g (I x::caps) H (B (p x))) :
    PuAt Try.prog 137 [Is xs,.fn g caps] H (I (if xs.any p then (xs.findIdx p:Int) else -1)):=by
  intro K hK
  refine CallT.fin ?_
  refine W137_ok ?_;simp (maxSteps:=1000000) (disch:=first | assumption | (apply ν6;assumption)) only [W137,vz,vu,vv,eqS,eF_,↓c1_,↓c2_,tabs,reduceCtorEq,ι5,↓reduceIte,ν1,ν2,ν3,ν4,ν5,ι1,ι2,ι3,ι4]
  refine L137_0_rule (0:Nat) (fun i=>I i) (fun _=>H) (fun i=>i≤xs.length∧∀j (hj:j < xs.length),j < i→p xs[j]=false) (fun i=>xs.length - i) ⟨⟨by omega,by intros;omega⟩,.refl _,Heap.le_refl _⟩ ?_
  rintro i ⟨hi1,ha⟩
  (try simp (maxSteps:=1000000) (disch:=first | assumption | (apply ν6;assumption)) only [vz,vu,vv,eqS,eF_,↓c1_,↓c2_,tabs,reduceCtorEq,ι5,↓reduceIte,ν1,ν2,ν3,ν4,ν5,ι1,ι2,ι3,ι4,B137_0])
  refine ⟨fun h=>⟨by omega,h,?_⟩,fun h=>?_⟩
  · have hlt:i < xs.length:=by omega
    rw [getD_lt hlt]
    refine PuAt.use (hp _ (List.getElem_mem hlt)) ?_
    (try simp (maxSteps:=1000000) (disch:=first | assumption | (apply ν6;assumption)) only [vz,vu,vv,eqS,eF_,↓c1_,↓c2_,tabs,reduceCtorEq,ι5,↓reduceIte,ν1,ν2,ν3,ν4,ν5,ι1,ι2,ι3,ι4])
    refine ⟨fun h1=>?_,fun h1=>⟨i+1,⟨by omega,fun j hj hji=>?_⟩,by omega,?_⟩⟩
    · have h2:xs.any p=true:=List.any_eq_true.2 ⟨xs[i],List.getElem_mem hlt,h1⟩
      have h3:xs.findIdx p=i:=by
        rw [List.findIdx_eq hlt];exact ⟨h1,fun j hj=>ha j (by omega) hj⟩
      rw [h2,h3] at hK;exact wkK.keep (by simpa using hK)
    · rcases Nat.lt_succ_iff_lt_or_eq.1 hji with h2 | rfl
      · exact ha j hj h2
      · exact h1
    · rw [wk_int,i64_id (by omega) (by omega)];simp
  · have hi:i=xs.length:=by omega
    have h2:xs.any p=false:=by
      rw [List.any_eq_false]
      intro x hx
      obtain ⟨j,hj,rfl⟩:=List.mem_iff_getElem.1 hx
      rw [ha j hj (by omega)];simp
    rw [h2] at hK;exact wkK.keep (by simpa using hK)
theorem ContainsFunc_at (xs:List Int) (g:Nat) (caps:List AV) (p:Int→Bool) {H:Heap} (hl:xs.length≤1000000000) (hp:∀x∈xs,PuAt Try.prog g (I x::caps) H (B (p x))) :
    PuAt Try.prog 124 [Is xs,.fn g caps] H (B (xs.any p)):=by
  intro K hK
  refine W124_ok ?_;simp (maxSteps:=1000000) (disch:=first | assumption | (apply ν6;assumption)) only [W124,vz,vu,vv,eqS,eF_,↓c1_,↓c2_,tabs,reduceCtorEq,ι5,↓reduceIte,ν1,ν2,ν3,ν4,ν5,ι1,ι2,ι3,ι4]
  refine PuAt.use (IndexFunc_at xs g caps p hl hp) ?_
  (try simp (maxSteps:=1000000) (disch:=first | assumption | (apply ν6;assumption)) only [vz,vu,vv,eqS,eF_,↓c1_,↓c2_,tabs,reduceCtorEq,ι5,↓reduceIte,ν1,ν2,ν3,ν4,ν5,ι1,ι2,ι3,ι4])
  cases h:xs.any p<;>simp [h] at hK ⊢<;>exact hK
end Go.Proofs.Ytjdhigcefkihiaa
namespace Go.Proofs.Ytjdhigcefkihiaa
open Go Go.Sep Go.Pt
attribute [local irreducible] CallT
theorem l1In_BQ (a lo hi:Int):Pu Try.prog 77 [I a,I lo,I hi] (B (inB a lo hi)):=l1In_spec a lo hi
theorem l1AllQ (xs:List Int) (lo hi:Int) (hl:xs.length≤1000000000):Pu Try.prog 78 [Is xs,I lo,I hi] (B (xs.all fun a=>decide (lo≤a) && decide (a≤hi))):=by
  refine Pu.of fun H=>?_
  refine W78_ok ?_;simp (maxSteps:=1000000) (disch:=first | assumption | (apply ν6;assumption)) only [W78,vz,vu,vv,eqS,eF_,↓c1_,↓c2_,tabs,reduceCtorEq,ι5,↓reduceIte,ν1,ν2,ν3,ν4,ν5,ι1,ι2,ι3,ι4]
  refine L78_0_rule (0:Nat) (fun i=>I i) (fun _=>H) (fun i=>i≤xs.length∧(xs.take i).all (fun a=>decide (lo≤a) && decide (a≤hi))=true) (fun i=>xs.length - i) ⟨⟨by omega,by simp⟩,.refl _,Heap.le_refl _⟩ ?_
  rintro i ⟨hi1,ha⟩
  (try simp (maxSteps:=1000000) (disch:=first | assumption | (apply ν6;assumption)) only [vz,vu,vv,eqS,eF_,↓c1_,↓c2_,tabs,reduceCtorEq,ι5,↓reduceIte,ν1,ν2,ν3,ν4,ν5,ι1,ι2,ι3,ι4,B78_0])
  refine ⟨fun h=>⟨by omega,h,?_⟩,fun h=>?_⟩
  · have hlt:i < xs.length:=by omega
    refine Pu.use (l1In_spec ..) ?_
    (try simp (maxSteps:=1000000) (disch:=first | assumption | (apply ν6;assumption)) only [vz,vu,vv,eqS,eF_,↓c1_,↓c2_,tabs,reduceCtorEq,ι5,↓reduceIte,ν1,ν2,ν3,ν4,ν5,ι1,ι2,ι3,ι4])
    have e:=take_all_succ (p:=fun a=>decide (lo≤a) && decide (a≤hi)) hlt
    rw [getD_lt hlt]
    refine ⟨fun h1=>?_,fun h1=>?_⟩
    · congr 2
      symm
      rw [List.all_eq_false]
      exact ⟨xs[i],by simp,by simpa using h1⟩
    · refine ⟨i+1,⟨by omega,by rw [e,ha];simpa using h1⟩,by omega,?_⟩
      rw [wk_int,i64_id (by omega) (by omega)];simp
  · have:i=xs.length:=by omega
    subst this
    rw [List.take_length] at ha;simp [ha]
def letB (n:Int):Bool:=decide (0≤n) && decide (n≤7)
def goodL (s l:List Int):Bool:=(decide (s.length≤24) && (decide (1≤l.length) && decide (l.length≤24))) && (s.all letB && l.all letB)
theorem areLetters1Q (n:Int) {H:Heap}:PuAt Try.prog 125 [I n] H (B (!letB n)):=by
  intro K hK
  refine W125_ok ?_;simp (maxSteps:=1000000) (disch:=first | assumption | (apply ν6;assumption)) only [W125,vz,vu,vv,eqS,eF_,↓c1_,↓c2_,tabs,reduceCtorEq,ι5,↓reduceIte,ν1,ν2,ν3,ν4,ν5,ι1,ι2,ι3,ι4]
  refine ⟨fun h=>?_,fun h=>?_⟩
  · have e:letB n=false:=by simp [letB];omega
    rw [e] at hK;exact hK
  · by_cases h2:8≤n
    · have e:letB n=false:=by simp [letB];omega
      have e2:decide (8≤n)=true:=by simpa using h2
      rw [e] at hK;simpa [e2] using hK
    · have e:letB n=true:=by simp [letB];omega
      have e2:decide (8≤n)=false:=by simpa using h2
      rw [e] at hK;simpa [e2] using hK
theorem areLettersQ (xs:List Int) (hl:xs.length≤1000000000):Pu Try.prog 103 [Is xs] (B (xs.all letB)):=by
  refine Pu.of fun H=>?_
  refine W103_ok ?_;simp (maxSteps:=1000000) (disch:=first | assumption | (apply ν6;assumption)) only [W103,vz,vu,vv,eqS,eF_,↓c1_,↓c2_,tabs,reduceCtorEq,ι5,↓reduceIte,ν1,ν2,ν3,ν4,ν5,ι1,ι2,ι3,ι4]
  refine PuAt.use (ContainsFunc_at xs _ _ (fun n=>!letB n) hl fun x _=>areLetters1Q x) ?_
  (try simp (maxSteps:=1000000) (disch:=first | assumption | (apply ν6;assumption)) only [vz,vu,vv,eqS,eF_,↓c1_,↓c2_,tabs,reduceCtorEq,ι5,↓reduceIte,ν1,ν2,ν3,ν4,ν5,ι1,ι2,ι3,ι4])
  rw [List.all_eq_not_any_not]
theorem GoodLassoI (s l:List Int) (h1:s.length≤1000000000) (h2:l.length≤1000000000):Pu Try.prog 61 [.agg [Is s,Is l]] (B (goodL s l)):=by
  refine Pu.of fun H=>?_
  refine W61_ok ?_;simp (maxSteps:=1000000) (disch:=first | assumption | (apply ν6;assumption)) only [W61,vz,vu,vv,eqS,eF_,↓c1_,↓c2_,tabs,reduceCtorEq,ι5,↓reduceIte,ν1,ν2,ν3,ν4,ν5,ι1,ι2,ι3,ι4]
  intro r hr
  have hle:∀z,Heap.le H (H.set r z):=fun z=>Heap.le_set hr
  (try simp (maxSteps:=1000000) (disch:=first | assumption | (apply ν6;assumption)) only [vz,vu,vv,eqS,eF_,↓c1_,↓c2_,tabs,reduceCtorEq,ι5,↓reduceIte,ν1,ν2,ν3,ν4,ν5,ι1,ι2,ι3,ι4])
  have fls:(¬(s.length≤24∧1≤l.length∧l.length≤24))→goodL s l=false:=fun h=>by
    rw [Bool.eq_false_iff];intro hh
    simp only [goodL,Bool.and_eq_true,decide_eq_true_eq] at hh
    exact h ⟨hh.1.1,hh.1.2.1,hh.1.2.2⟩
  refine ⟨fun a1=>⟨fun a2=>⟨fun a3=>?_,fun a3=>⟨by rw [fls (by omega)],hle _⟩⟩,fun a2=>⟨by rw [fls (by omega)],hle _⟩⟩,fun a1=>⟨by rw [fls (by omega)],hle _⟩⟩
  have e:goodL s l=(s.all letB && l.all letB):=by
    have b1:s.length≤24:=by omega
    have b2:1≤l.length:=by omega
    have b3:l.length≤24:=by omega
    simp only [goodL,b1,b2,b3,decide_true,Bool.true_and]
  rw [e]
  refine Pu.use (areLettersQ s h1) ?_
  cases s.all letB
  · (try simp (maxSteps:=1000000) (disch:=first | assumption | (apply ν6;assumption)) only [vz,vu,vv,eqS,eF_,↓c1_,↓c2_,tabs,reduceCtorEq,ι5,↓reduceIte,ν1,ν2,ν3,ν4,ν5,ι1,ι2,ι3,ι4])
    exact hle _
  · (try simp (maxSteps:=1000000) (disch:=first | assumption | (apply ν6;assumption)) only [vz,vu,vv,eqS,eF_,↓c1_,↓c2_,tabs,reduceCtorEq,ι5,↓reduceIte,ν1,ν2,ν3,ν4,ν5,ι1,ι2,ι3,ι4])
    refine Pu.use (areLettersQ l h2) ?_
    (try simp (maxSteps:=1000000) (disch:=first | assumption | (apply ν6;assumption)) only [vz,vu,vv,eqS,eF_,↓c1_,↓c2_,tabs,reduceCtorEq,ι5,↓reduceIte,ν1,ν2,ν3,ν4,ν5,ι1,ι2,ι3,ι4])
    exact hle _
theorem GoodLassoR (s l:List Int) (h1:s.length≤1000000000) (h2:l.length≤1000000000):Pu Try.prog 27 [.agg [Is s,Is l]] (B (goodL s l)):=by
  refine Pu.of fun H=>?_
  refine W27_ok ?_;simp (maxSteps:=1000000) (disch:=first | assumption | (apply ν6;assumption)) only [W27,vz,vu,vv,eqS,eF_,↓c1_,↓c2_,tabs,reduceCtorEq,ι5,↓reduceIte,ν1,ν2,ν3,ν4,ν5,ι1,ι2,ι3,ι4]
  intro r hr
  have hle:∀z,Heap.le H (H.set r z):=fun z=>Heap.le_set hr
  (try simp (maxSteps:=1000000) (disch:=first | assumption | (apply ν6;assumption)) only [vz,vu,vv,eqS,eF_,↓c1_,↓c2_,tabs,reduceCtorEq,ι5,↓reduceIte,ν1,ν2,ν3,ν4,ν5,ι1,ι2,ι3,ι4])
  refine ⟨fun a1=>?_,fun a1=>?_⟩
  rotate_left
  · refine ⟨?_,hle _⟩
    have:goodL s l=false:=by
      rw [Bool.eq_false_iff];intro hh
      simp only [goodL,Bool.and_eq_true,decide_eq_true_eq] at hh
      have:=hh.1.1;omega
    rw [this]
  refine Pu.use (l1In_BQ l.length 1 24) ?_
  cases hin:inB l.length 1 24
  · (try simp (maxSteps:=1000000) (disch:=first | assumption | (apply ν6;assumption)) only [vz,vu,vv,eqS,eF_,↓c1_,↓c2_,tabs,reduceCtorEq,ι5,↓reduceIte,ν1,ν2,ν3,ν4,ν5,ι1,ι2,ι3,ι4])
    refine ⟨?_,hle _⟩
    have:goodL s l=false:=by
      rw [Bool.eq_false_iff];intro hh
      simp only [goodL,Bool.and_eq_true,decide_eq_true_eq] at hh
      rw [inB_iff.2 (by have:=hh.1.2;omega)] at hin;cases hin
    rw [this]
  rw [inB_iff] at hin
  have e:goodL s l=(s.all letB && l.all letB):=by
    have b1:s.length≤24:=by omega
    have b2:1≤l.length:=by omega
    have b3:l.length≤24:=by omega
    simp only [goodL,b1,b2,b3,decide_true,Bool.true_and]
  rw [e]
  (try simp (maxSteps:=1000000) (disch:=first | assumption | (apply ν6;assumption)) only [vz,vu,vv,eqS,eF_,↓c1_,↓c2_,tabs,reduceCtorEq,ι5,↓reduceIte,ν1,ν2,ν3,ν4,ν5,ι1,ι2,ι3,ι4])
  refine Pu.use (l1AllQ s 0 7 h1) ?_
  have e3:∀xs:List Int,(xs.all fun a=>decide (0≤a) && decide (a≤7))=xs.all letB:=fun xs=>rfl
  rw [e3]
  cases s.all letB
  · (try simp (maxSteps:=1000000) (disch:=first | assumption | (apply ν6;assumption)) only [vz,vu,vv,eqS,eF_,↓c1_,↓c2_,tabs,reduceCtorEq,ι5,↓reduceIte,ν1,ν2,ν3,ν4,ν5,ι1,ι2,ι3,ι4])
    exact hle _
  · (try simp (maxSteps:=1000000) (disch:=first | assumption | (apply ν6;assumption)) only [vz,vu,vv,eqS,eF_,↓c1_,↓c2_,tabs,reduceCtorEq,ι5,↓reduceIte,ν1,ν2,ν3,ν4,ν5,ι1,ι2,ι3,ι4])
    refine Pu.use (l1AllQ l 0 7 h2) ?_
    rw [e3]
    (try simp (maxSteps:=1000000) (disch:=first | assumption | (apply ν6;assumption)) only [vz,vu,vv,eqS,eF_,↓c1_,↓c2_,tabs,reduceCtorEq,ι5,↓reduceIte,ν1,ν2,ν3,ν4,ν5,ι1,ι2,ι3,ι4])
    exact hle _
abbrev aL2 (s l:List Int):AV:=.agg [Is s,Is l]
end Go.Proofs.Ytjdhigcefkihiaa
namespace Go.Proofs.Ytjdhigcefkihiaa
open Go Go.Sep Go.Pt
attribute [local irreducible] CallT
def letW (s l:List Int) (t:Nat):Int:=(s++l).getD t default
def nxW (s l:List Int) (t:Nat):Nat:=if t+1 < s.length+l.length then t+1 else s.length
theorem letW_1 {s l:List Int} {t:Nat} (h:t < s.length):letW s l t=s.getD t default:=by simp [letW,List.getD,List.getElem?_append_left h]
theorem letW_2 {s l:List Int} {t:Nat} (h:s.length≤t):letW s l t=l.getD (t - s.length) default:=by simp [letW,List.getD,List.getElem?_append_right h]
theorem letterAt_spec (s l:List Int) (h1:s.length≤24) (h2:1≤l.length∧l.length≤24) {t:Nat} (ht:t < s.length+l.length):Pu Try.prog 117 [aL2 s l,I t] (I (letW s l t)):=by
  refine Pu.of fun H=>?_
  have e1:IntKind.i64.wrap ((t:Int) - (s.length:Int))=(t:Int) - s.length:=i64_id (by omega) (by omega)
  refine W117_ok ?_;simp (maxSteps:=1000000) (disch:=first | assumption | (apply ν6;assumption)) only [W117,vz,vu,vv,eqS,eF_,↓c1_,↓c2_,tabs,reduceCtorEq,ι5,↓reduceIte,ν1,ν2,ν3,ν4,ν5,ι1,ι2,ι3,ι4]
  intro r hr
  have hle:=Heap.le_set (b:=[Is s,Is l]) hr
  (try simp (maxSteps:=1000000) (disch:=first | assumption | (apply ν6;assumption)) only [vz,vu,vv,eqS,eF_,↓c1_,↓c2_,tabs,reduceCtorEq,ι5,↓reduceIte,ν1,ν2,ν3,ν4,ν5,ι1,ι2,ι3,ι4,e1])
  refine ⟨fun h=>?_,fun h=>?_⟩
  · rw [letW_1 (by omega)]
    exact ⟨by omega,h,rfl,hle⟩
  · have e2:((t:Int) - (s.length:Int)).tmod (l.length:Int)=(t:Int) - s.length:=Int.tmod_eq_of_lt (by omega) (by omega)
    have e3:((t:Int) - (s.length:Int)).toNat=t - s.length:=by omega
    rw [e2,e3,letW_2 (by omega)]
    exact ⟨by omega,by omega,by omega,rfl,hle⟩
theorem nextPlace_spec (s l:List Int) (h1:s.length≤24) (h2:1≤l.length∧l.length≤24) {t:Nat} (ht:t < s.length+l.length):Pu Try.prog 133 [aL2 s l,I t] (I (nxW s l t:Nat)):=by
  refine Pu.of fun H=>?_
  have e1:IntKind.i64.wrap ((t:Int)+1)=((t+1:Nat):Int):=by rw [i64_id (by omega) (by omega)];simp
  have e2:IntKind.i64.wrap ((s.length:Int)+(l.length:Int))=(s.length:Int)+l.length:=i64_id (by omega) (by omega)
  refine W133_ok ?_;simp (maxSteps:=1000000) (disch:=first | assumption | (apply ν6;assumption)) only [W133,vz,vu,vv,eqS,eF_,↓c1_,↓c2_,tabs,reduceCtorEq,ι5,↓reduceIte,ν1,ν2,ν3,ν4,ν5,ι1,ι2,ι3,ι4]
  intro r hr
  have hle:=Heap.le_set (b:=[Is s,Is l]) hr
  (try simp (maxSteps:=1000000) (disch:=first | assumption | (apply ν6;assumption)) only [vz,vu,vv,eqS,eF_,↓c1_,↓c2_,tabs,reduceCtorEq,ι5,↓reduceIte,ν1,ν2,ν3,ν4,ν5,ι1,ι2,ι3,ι4,e1,e2])
  refine ⟨fun h=>?_,fun h=>?_⟩
  · rw [nxW,if_pos (by omega)];exact ⟨rfl,hle⟩
  · rw [nxW,if_neg (by omega)];exact ⟨rfl,hle⟩
end Go.Proofs.Ytjdhigcefkihiaa
namespace Go.Proofs.Ytjdhigcefkihiaa
open Go Go.Sep
theorem cells_map_len {α:Type} {e:α→List PV} {sz:Nat} (h:∀a,(e a).length=sz) (xs:List α):(cells (xs.map e)).length=xs.length*sz:=by
  rw [cells_len (sizedMap h xs),List.length_map]
theorem zerosA_succ (n:Nat) (z:List AV):zerosA (n+1) z=z++zerosA n z:=by simp [zerosA,List.replicate_succ]
end Go.Proofs.Ytjdhigcefkihiaa
namespace Go.Proofs.Ytjdhigcefkihiaa
open Go Go.Sep Go.Pt
attribute [local irreducible] CallT
abbrev eN (x:Nd):List PV:=[.int .i64 x.op,.int .u64 x.n]
abbrev Ns (xs:List Nd):AV:=.p (.sl (xs.map eN))
abbrev eCh (c:Ch):List PV:=[.int .i64 c.var,.sl (c.by_.map eN)]
abbrev eCm (c:Cm):List PV:=[.sl (c.when_.map eN),.sl (c.chs.map eCh)]
abbrev Cms (cs:List Cm):AV:=.p (.sl (cs.map eCm))
abbrev aPg (p:Pg):AV:=.agg [I p.wide,I p.vars,Ns p.start,Cms p.cmds]
abbrev aS (of:List Int):AV:=.agg [Is of]
def ok (n:Nat):Prop:=n≤9223372036854775807
end Go.Proofs.Ytjdhigcefkihiaa
namespace Go.Proofs.Ytjdhigcefkihiaa
open Go Go.Sep Go.Pt
attribute [local irreducible] CallT
end Go.Proofs.Ytjdhigcefkihiaa
namespace Go.Sep
open Go Go.RowKit
abbrev Lay (α:Type):=α→List AV→Heap→List Nat→Prop
def LPl {α:Type} (e:α→List PV):Lay α:=fun a cs _ D=>cs=(e a).map .p∧D=[]
def LL {α:Type} (L:Lay α):List α→List AV→Heap→List Nat→Prop
  | [],cs,_,D=>cs=[]∧D=[]
  | a::az,cs,G,D=>∃c1 c2 D1 D2,cs=c1++c2∧D=D1++D2∧L a c1 G D1∧LL L az c2 G D2
def LRow {α:Type} (L:Lay α) (sz:Nat):List α→AV→Heap→List Nat→Prop:=fun xs x G D=>∃q cs D',x=.sl q sz 0 xs.length∧G q=some cs∧LL L xs cs G D'∧D=q::D'
def Lay.Local {α:Type} (L:Lay α):Prop:=∀a cs G G' D,L a cs G D→(∀y∈D,∀b,G y=some b→G' y=some b)→L a cs G' D
def Lay.Size {α:Type} (L:Lay α) (sz:Nat):Prop:=∀a cs G D,L a cs G D→cs.length=sz
theorem LPl.local {α:Type} (e:α→List PV):Lay.Local (LPl e):=fun a cs G G' D h _=>h
theorem LPl.size {α:Type} {e:α→List PV} {sz:Nat} (h:∀a,(e a).length=sz):Lay.Size (LPl e) sz:=fun a cs G D hl=>by rw [hl.1,List.length_map,h]
theorem LL.local {α:Type} {L:Lay α} (hL:L.Local):∀{az:List α} {cs:List AV} {G G':Heap} {D:List Nat},LL L az cs G D→(∀y∈D,∀b,G y=some b→G' y=some b)→LL L az cs G' D
  | [],cs,G,G',D,h,_=>h
  | a::az,cs,G,G',D,⟨c1,c2,D1,D2,e1,e2,h1,h2⟩,hf=>by
    subst e2
    exact ⟨c1,c2,D1,D2,e1,rfl,hL _ _ _ _ _ h1 (fun y hy=>hf y (List.mem_append_left _ hy)),LL.local hL h2 (fun y hy=>hf y (List.mem_append_right _ hy))⟩
theorem LL.size {α:Type} {L:Lay α} {sz:Nat} (hL:L.Size sz):∀{az:List α} {cs:List AV} {G:Heap} {D:List Nat},LL L az cs G D→cs.length=az.length*sz
  | [],cs,G,D,h=>by rw [h.1];simp
  | a::az,cs,G,D,⟨c1,c2,D1,D2,e1,e2,h1,h2⟩=>by
    rw [e1,List.length_append,hL _ _ _ _ h1,LL.size hL h2,List.length_cons,Nat.add_mul,Nat.one_mul];omega
theorem LRow.local {α:Type} {L:Lay α} {sz:Nat} (hL:L.Local) {xs:List α} {x:AV} {G G':Heap} {D:List Nat} (h:LRow L sz xs x G D) (hf:∀y∈D,∀b,G y=some b→G' y=some b):LRow L sz xs x G' D:=by
  obtain ⟨q,cs,D',e1,e2,e3,e4⟩:=h
  subst e4
  exact ⟨q,cs,D',e1,hf q (by simp) _ e2,LL.local hL e3 (fun y hy=>hf y (by simp [hy])),rfl⟩
def Lay.Has {α:Type} (L:Lay α):Prop:=∀a cs G D,L a cs G D→∀y∈D,G y≠none
theorem LPl.has {α:Type} (e:α→List PV):Lay.Has (LPl e):=fun a cs G D h y hy=>by rw [h.2] at hy;cases hy
theorem LL.has {α:Type} {L:Lay α} (hL:L.Has):∀{az:List α} {cs:List AV} {G:Heap} {D:List Nat},LL L az cs G D→∀y∈D,G y≠none
  | [],cs,G,D,h=>fun y hy=>by rw [h.2] at hy;cases hy
  | a::az,cs,G,D,⟨c1,c2,D1,D2,e1,e2,h1,h2⟩=>fun y hy=>by
    rw [e2] at hy
    rcases List.mem_append.1 hy with hy | hy
    · exact hL _ _ _ _ h1 y hy
    · exact LL.has hL h2 y hy
theorem LRow.has {α:Type} {L:Lay α} {sz:Nat} (hL:L.Has) {xs:List α} {x:AV} {G:Heap} {D:List Nat} (h:LRow L sz xs x G D):∀y∈D,G y≠none:=by
  obtain ⟨q,cs,D',e1,e2,e3,e4⟩:=h
  intro y hy
  rw [e4] at hy
  rcases List.mem_cons.1 hy with rfl | hy
  · rw [e2];simp
  · exact LL.has hL e3 y hy
theorem LL.plain {α:Type} {e:α→List PV} {G:Heap}:∀(xs:List α),LL (LPl e) xs (cells (xs.map e)) G []
  | []=>⟨rfl,rfl⟩
  | x::xs=>⟨(e x).map .p,cells (xs.map e),[],[],by simp [cells],rfl,⟨rfl,rfl⟩,LL.plain xs⟩
theorem splice_at {pre c c' post:List AV} {off n:Nat} (ho:off=pre.length) (hn:n=c'.length) (hc:c.length=c'.length):List.take off (pre++(c++post))++c'++List.drop (off+n) (pre++(c++post))=pre++(c'++post):=by
  subst ho;subst hn
  rw [List.take_left',List.append_assoc]
  · congr 2
    rw [List.drop_append,← hc]
    simp
  · rfl
theorem LL.snoc {α:Type} {L:Lay α} {a:α} {c2:List AV} {G:Heap} {D2:List Nat} (h2:L a c2 G D2):∀{az:List α} {c1:List AV} {D1:List Nat},LL L az c1 G D1→LL L (az++[a]) (c1++c2) G (D1++D2)
  | [],c1,D1,h=>by
    obtain ⟨rfl,rfl⟩:=h
    exact ⟨c2,[],D2,[],by simp,by simp,h2,rfl,rfl⟩
  | b::az,c1,D1,⟨d1,d2,E1,E2,e1,e2,h1,h3⟩=>by
    subst e1;subst e2
    exact ⟨d1,d2++c2,E1,E2++D2,by simp,by simp,h1,LL.snoc h2 h3⟩
theorem LL.split {α:Type} [Inhabited α] {L:Lay α} {sz:Nat} (hL:L.Size sz):∀{az:List α} {cs:List AV} {G:Heap} {D:List Nat} {i:Nat},LL L az cs G D→i < az.length→
    ∃c1 c c2 D1 Di D2,cs=c1++(c++c2)∧D=D1++(Di++D2)∧c1.length=i*sz∧L (az.getD i default) c G Di∧LL L (az.take i) c1 G D1∧LL L (az.drop (i+1)) c2 G D2
  | a::az,cs,G,D,0,⟨c1,c2,D1,D2,e1,e2,h1,h2⟩,_=>⟨[],c1,c2,[],D1,D2,by simpa using e1,by simpa using e2,by simp,by simpa using h1,⟨rfl,rfl⟩,by simpa using h2⟩
  | a::az,cs,G,D,i+1,⟨c1,c2,D1,D2,e1,e2,h1,h2⟩,hi=>by
    obtain ⟨d1,d,d2,E1,Ei,E2,f1,f2,f3,f4,f5,f6⟩:=LL.split hL h2 (i:=i) (by simpa using hi)
    subst e1;subst e2;subst f1;subst f2
    refine ⟨c1++d1,d,d2,D1++E1,Ei,E2,by simp,by simp,?_,by simpa using f4,⟨c1,d1,D1,E1,rfl,rfl,h1,f5⟩,by simpa using f6⟩
    rw [List.length_append,hL _ _ _ _ h1,f3,Nat.add_mul,Nat.one_mul];omega
def Lay.Frz {α:Type} (L:Lay α) (e:α→List PV):Prop:=∀(a:α) (cs:List AV) (G:Heap) (D:List Nat) (v:AV) (s:Nat) (pre post:List AV),L a cs G D→D.Nodup→s∉D→G s=some (pre++(cs++post))→
  ∃G',Wk v G v G'∧G' s=some (pre++((e a).map .p++post))∧∀y,y≠s→y∉D→G' y=G y
theorem LPl.frz {α:Type} (e:α→List PV):(LPl e).Frz e:=by
  rintro a cs G D v s pre post ⟨rfl,rfl⟩ _ _ hs
  exact ⟨G,.refl _ _,hs,fun _ _ _=>rfl⟩
theorem LL.frz {α:Type} {L:Lay α} {e:α→List PV} (hl:L.Local) (hf:L.Frz e):∀(az:List α) (cs:List AV) (G:Heap) (D:List Nat) (v:AV) (s:Nat) (pre post:List AV),LL L az cs G D→D.Nodup→s∉D→G s=some (pre++(cs++post))→
    ∃G',Wk v G v G'∧G' s=some (pre++((az.map e).flatten.map .p++post))∧∀y,y≠s→y∉D→G' y=G y
  | [],cs,G,D,v,s,pre,post,h,hD,hs,hG=>by
    obtain ⟨rfl,rfl⟩:=h
    exact ⟨G,.refl _ _,by simpa using hG,fun _ _ _=>rfl⟩
  | a::az,cs,G,D,v,s,pre,post,⟨c1,c2,D1,D2,e1,e2,h1,h2⟩,hD,hs,hG=>by
    subst e1;subst e2
    rw [List.nodup_append] at hD
    rw [List.mem_append,not_or] at hs
    obtain ⟨G1,w1,k1,f1⟩:=hf a c1 G D1 v s pre (c2++post) h1 hD.1 hs.1 (by rw [hG];simp)
    have h2':LL L az c2 G1 D2:=LL.local hl h2 fun y hy b hb=>by rw [f1 y (fun e=>hs.2 (e ▸ hy)) (fun hy1=>hD.2.2 y hy1 y hy rfl)];exact hb
    obtain ⟨G2,w2,k2,f2⟩:=LL.frz hl hf az c2 G1 D2 v s (pre++(e a).map .p) post h2' hD.2.1 hs.2 (by rw [k1];simp)
    refine ⟨G2,.trans w1 w2,by rw [k2];simp,fun y hy hyD=>?_⟩
    rw [List.mem_append,not_or] at hyD
    rw [f2 y hy hyD.2,f1 y hy hyD.1]
theorem FrzL.refl' {r sz:Nat} {es:List (List PV)}:∀vs,FrzL r sz es vs vs
  | []=>.nil
  | v::vs=>.cons (.same v) (FrzL.refl' vs)
theorem FrzL.at {r sz:Nat} {es:List (List PV)} {x x':AV} (h:FrzR r sz es x x') (post:List AV):∀pre,FrzL r sz es (pre++([x]++post)) (pre++([x']++post))
  | []=>.cons h (FrzL.refl' post)
  | v::pre=>.cons (.same v) (FrzL.at h post pre)
theorem LRow.frzIn {α:Type} {L:Lay α} {e:α→List PV} {sz:Nat} (hpos:0 < sz) (he:∀a,(e a).length=sz) (hl:L.Local) (hf:L.Frz e) {xs:List α} {x:AV} {G:Heap} {D:List Nat} {v:AV} {s:Nat} {pre post:List AV} (h:LRow L sz xs x G D) (hD:D.Nodup) (hs:s∉D) (hG:G s=some (pre++([x]++post))) :
    ∃G',Wk v G v G'∧G' s=some (pre++([.p (.sl (xs.map e))]++post))∧∀y,y≠s→y∉D→G' y=G y:=by
  obtain ⟨q,cs,D',rfl,hq,hll,rfl⟩:=h
  rw [List.nodup_cons] at hD
  rw [List.mem_cons,not_or] at hs
  obtain ⟨G1,w1,k1,f1⟩:=LL.frz hl hf xs cs G D' v q [] [] hll hD.2 hD.1 (by simpa using hq)
  have hG1:G1 s=some (pre++([.sl q sz 0 xs.length]++post)):=by rw [f1 s hs.1 hs.2];exact hG
  have k1':G1 q=some ((xs.map e).flatten.map .p):=by simpa using k1
  have hr:FrzR q sz (xs.map e) (.sl q sz 0 xs.length) (.p (.sl (xs.map e))):=by
    have:FrzR q sz (xs.map e) (.sl q sz 0 (xs.map e).length) (.p (.sl (xs.map e))):=.here
    rwa [List.length_map] at this
  refine ⟨(G1.del q).set s (pre++([.p (.sl (xs.map e))]++post)),.trans w1 (Wk.frzAt hpos k1' (sizedMap he xs) hG1 hs.1 (FrzL.at hr post pre) (.same v) (by simp)),Heap.set_same _ _ _,fun y hy hyD=>?_⟩
  rw [List.mem_cons,not_or] at hyD
  rw [Heap.set_other hy,Heap.del_other hyD.1,f1 y hyD.1 hyD.2]
theorem LRow.frzV {α:Type} {L:Lay α} {e:α→List PV} {sz:Nat} (hpos:0 < sz) (he:∀a,(e a).length=sz) (hl:L.Local) (hf:L.Frz e) {xs:List α} {x:AV} {G:Heap} {D:List Nat} {v v':AV} (h:LRow L sz xs x G D) (hD:D.Nodup)
    (hv:∀q,x=.sl q sz 0 xs.length→FrzR q sz (xs.map e) x (.p (.sl (xs.map e)))→FrzR q sz (xs.map e) v v') :
    ∃G',Wk v G v' G'∧∀y,y∉D→G' y=G y:=by
  obtain ⟨q,cs,D',rfl,hq,hll,rfl⟩:=h
  rw [List.nodup_cons] at hD
  obtain ⟨G1,w1,k1,f1⟩:=LL.frz hl hf xs cs G D' v q [] [] hll hD.2 hD.1 (by simpa using hq)
  have k1':G1 q=some ((xs.map e).flatten.map .p):=by simpa using k1
  have hr:FrzR q sz (xs.map e) (.sl q sz 0 xs.length) (.p (.sl (xs.map e))):=by
    have:FrzR q sz (xs.map e) (.sl q sz 0 (xs.map e).length) (.p (.sl (xs.map e))):=.here
    rwa [List.length_map] at this
  refine ⟨G1.del q,.trans w1 (Wk.frz hpos k1' (sizedMap he xs) (hv q rfl hr)),fun y hyD=>?_⟩
  rw [List.mem_cons,not_or] at hyD
  rw [Heap.del_other hyD.1,f1 y hyD.1 hyD.2]
def Lay.Gd {α:Type} (L:Lay α):Prop:=∀a cs G D,L a cs G D→(∀c∈cs,GdC c)∧∀y∈D,∀bs,G y=some bs→∀c∈bs,GdC c
def Lay.Sh {α:Type} (L:Lay α):Prop:=∀a cs G D n G0,(∀q,n≤q→G0 q=none)→L a cs G D→L a (cs.map (shC n)) (Heap.or G0 (shH n G)) (D.map (·+n))
theorem LPl.gd {α:Type} {e:α→List PV} (h:∀a,∀x∈e a,Plain (.p x)):Lay.Gd (LPl e):=by
  rintro a cs G D ⟨rfl,rfl⟩
  refine ⟨fun c hc=>?_,fun y hy=>by cases hy⟩
  obtain ⟨x,hx,rfl⟩:=List.mem_map.1 hc
  exact .p (h a x hx)
theorem LPl.sh {α:Type} (e:α→List PV):Lay.Sh (LPl e):=by
  rintro a cs G D n G0 _ ⟨rfl,rfl⟩
  exact ⟨by rw [List.map_map];rfl,rfl⟩
theorem LL.gd {α:Type} {L:Lay α} (hL:L.Gd):∀{az:List α} {cs:List AV} {G:Heap} {D:List Nat},LL L az cs G D→(∀c∈cs,GdC c)∧∀y∈D,∀bs,G y=some bs→∀c∈bs,GdC c
  | [],_,_,_,⟨e1,e2⟩=>by subst e1;subst e2;exact ⟨(fun c hc=>by cases hc),(fun y hy=>by cases hy)⟩
  | a::az,_,_,_,⟨c1,c2,D1,D2,e1,e2,h1,h2⟩=>by
    subst e1;subst e2
    obtain ⟨a1,a2⟩:=hL _ _ _ _ h1
    obtain ⟨b1,b2⟩:=LL.gd hL h2
    refine ⟨fun c hc=>?_,fun y hy=>?_⟩
    · rcases List.mem_append.1 hc with hc | hc
      · exact a1 c hc
      · exact b1 c hc
    · rcases List.mem_append.1 hy with hy | hy
      · exact a2 y hy
      · exact b2 y hy
theorem LL.sh {α:Type} {L:Lay α} (hL:L.Sh) {n:Nat} {G0:Heap} (h0:∀q,n≤q→G0 q=none):∀{az:List α} {cs:List AV} {G:Heap} {D:List Nat},LL L az cs G D→LL L az (cs.map (shC n)) (Heap.or G0 (shH n G)) (D.map (·+n))
  | [],_,_,_,⟨e1,e2⟩=>by subst e1;subst e2;exact ⟨rfl,rfl⟩
  | a::az,_,_,_,⟨c1,c2,D1,D2,e1,e2,h1,h2⟩=>by
    subst e1;subst e2
    exact ⟨_,_,_,_,List.map_append,List.map_append,hL _ _ _ _ n G0 h0 h1,LL.sh hL h0 h2⟩
theorem or_sh {G0 G:Heap} {n q:Nat} (h0:∀q,n≤q→G0 q=none):(Heap.or G0 (shH n G)) (q+n)=(G q).map (List.map (shC n)):=by
  simp only [Heap.or,shH,h0 (q+n) (by omega),show n≤q+n by omega,if_true,Nat.add_sub_cancel]
theorem LRow.gd {α:Type} {L:Lay α} {sz:Nat} (hL:L.Gd) {xs:List α} {x:AV} {G:Heap} {D:List Nat} (h:LRow L sz xs x G D):GdC x∧∀y∈D,∀bs,G y=some bs→∀c∈bs,GdC c:=by
  obtain ⟨q,cs,D',rfl,hq,hll,rfl⟩:=h
  obtain ⟨h1,h2⟩:=LL.gd hL hll
  refine ⟨.inl ⟨_,_,_,_,rfl⟩,fun y hy bs hb=>?_⟩
  rcases List.mem_cons.1 hy with rfl | hy
  · rw [hq] at hb;cases hb;exact h1
  · exact h2 y hy bs hb
theorem LRow.sh {α:Type} {L:Lay α} {sz:Nat} (hL:L.Sh) {n:Nat} {G0:Heap} (h0:∀q,n≤q→G0 q=none) {xs:List α} {x:AV} {G:Heap} {D:List Nat} (h:LRow L sz xs x G D):LRow L sz xs (shC n x) (Heap.or G0 (shH n G)) (D.map (·+n)):=by
  obtain ⟨q,cs,D',rfl,hq,hll,rfl⟩:=h
  exact ⟨q+n,cs.map (shC n),D'.map (·+n),rfl,by rw [or_sh h0,hq];rfl,LL.sh hL h0 hll,rfl⟩
def only (D:List Nat) (G:Heap):Heap:=fun y=>if y∈D then G y else none
end Go.Sep
namespace Go.Proofs.Ytjdhigcefkihiaa
open Go Go.Sep Go.Pt
attribute [local irreducible] CallT
abbrev LN:List Nd→AV→Heap→List Nat→Prop:=LRow (LPl eN) 2
abbrev LI:List Int→AV→Heap→List Nat→Prop:=LRow (LPl eI) 1
def LCh:Lay Ch:=fun c cs G D=>∃x,cs=[I c.var,x]∧LN c.by_ x G D
def LCm:Lay Cm:=fun c cs G D=>∃x y D1 D2,cs=[x,y]∧D=D1++D2∧LN c.when_ x G D1∧LRow LCh 2 c.chs y G D2
theorem LCh.local:Lay.Local LCh:=by
  rintro c cs G G' D ⟨x,e,h⟩ hf
  exact ⟨x,e,LRow.local (LPl.local eN) h hf⟩
theorem LCh.size:Lay.Size LCh 2:=by
  rintro c cs G D ⟨x,rfl,h⟩;rfl
theorem LCh.has:Lay.Has LCh:=by
  rintro c cs G D ⟨x,e,h⟩
  exact LRow.has (LPl.has eN) h
theorem LCh.frz:Lay.Frz LCh eCh:=by
  rintro c cs G D v s pre post ⟨x,rfl,h⟩ hD hs hG
  obtain ⟨G',w,k,f⟩:=LRow.frzIn (e:=eN) (sz:=2) (pre:=pre++[I c.var]) (post:=post) (v:=v) (by omega) (fun _=>rfl) (LPl.local eN) (LPl.frz eN) h hD hs (by rw [hG];simp)
  exact ⟨G',w,by rw [k];simp,f⟩
theorem LCm.local:Lay.Local LCm:=by
  rintro c cs G G' D ⟨x,y,D1,D2,e,rfl,h1,h2⟩ hf
  exact ⟨x,y,D1,D2,e,rfl,LRow.local (LPl.local eN) h1 (fun z hz=>hf z (List.mem_append_left _ hz)),LRow.local LCh.local h2 (fun z hz=>hf z (List.mem_append_right _ hz))⟩
theorem LCm.size:Lay.Size LCm 2:=by
  rintro c cs G D ⟨x,y,D1,D2,rfl,e,h1,h2⟩;rfl
theorem LCm.has:Lay.Has LCm:=by
  rintro c cs G D ⟨x,y,D1,D2,e,rfl,h1,h2⟩ z hz
  rcases List.mem_append.1 hz with hz | hz
  · exact LRow.has (LPl.has eN) h1 z hz
  · exact LRow.has LCh.has h2 z hz
theorem LCm.frz:Lay.Frz LCm eCm:=by
  rintro c cs G D v s pre post ⟨x,y,D1,D2,rfl,rfl,h1,h2⟩ hD hs hG
  rw [List.nodup_append] at hD
  rw [List.mem_append,not_or] at hs
  obtain ⟨G1,w1,k1,f1⟩:=LRow.frzIn (e:=eN) (sz:=2) (pre:=pre) (post:=y::post) (v:=v) (by omega) (fun _=>rfl) (LPl.local eN) (LPl.frz eN) h1 hD.1 hs.1 (by rw [hG];simp)
  have h2':LRow LCh 2 c.chs y G1 D2:=LRow.local LCh.local h2 fun z hz b hb=>by rw [f1 z (fun e=>hs.2 (e ▸ hz)) (fun hz1=>hD.2.2 z hz1 z hz rfl)];exact hb
  obtain ⟨G2,w2,k2,f2⟩:=LRow.frzIn (e:=eCh) (sz:=2) (pre:=pre++[Ns c.when_]) (post:=post) (v:=v) (by omega) (fun _=>rfl) LCh.local LCh.frz h2' hD.2.1 hs.2 (by rw [k1];simp)
  refine ⟨G2,.trans w1 w2,by rw [k2];simp,fun z hz hzD=>?_⟩
  rw [List.mem_append,not_or] at hzD
  rw [f2 z hz hzD.2,f1 z hz hzD.1]
structure New (H G:Heap) (D:List Nat):Prop where
  nd:D.Nodup
  fr:∀y∈D,H y=none
  le:Heap.le H G
theorem New.trans {H G G':Heap} {D D':List Nat} (n:New H G D) (m:New G G' D') (hh:∀y∈D,G y≠none):New H G' (D++D'):=by
  refine ⟨List.nodup_append.2 ⟨n.nd,m.nd,fun a ha b hb e=>hh a ha (by rw [e];exact m.fr b hb)⟩,fun y hy=>?_,Heap.le_trans n.le m.le⟩
  rcases List.mem_append.1 hy with hy | hy
  · exact n.fr y hy
  · cases hh:H y with
    | none=>rfl
    | some b=>rw [← m.fr y hy,n.le y b hh]
theorem New.base {H H' G:Heap} {D:List Nat} (n:New H' G D) (hle:Heap.le H H'):New H G D:=
  ⟨n.nd,fun y hy=>by
    cases hh:H y with
    | none=>rfl
    | some b=>rw [← n.fr y hy,hle y b hh],Heap.le_trans hle n.le⟩
theorem New.put {H G:Heap} {D:List Nat} (n:New H G D) {q:Nat} (hq:H q=none) (b:List AV):New H (G.set q b) D:=⟨n.nd,n.fr,Heap.le_setN n.le hq⟩
theorem LRow.sl {α:Type} {L:Lay α} {sz:Nat} {xs:List α} {x:AV} {G:Heap} {D:List Nat} (h:LRow L sz xs x G D):∃q,x=.sl q sz 0 xs.length:=by
  obtain ⟨q,cs,D',e1,e2,e3,e4⟩:=h;exact ⟨q,e1⟩
end Go.Proofs.Ytjdhigcefkihiaa
namespace Go.Sep
open Go Go.RowKit Go.Proofs.Ytjdhigcefkihiaa
structure Th where
  D:List Nat
  P:Heap→Prop
  loc:∀{G G':Heap},P G→(∀y∈D,∀b,G y=some b→G' y=some b)→P G'
  has:∀{G:Heap},P G→∀y∈D,G y≠none
def cellT (r:Nat) (b:List AV):Th:=⟨[r],fun G=>G r=some b,fun h f=>f r (List.mem_singleton.2 rfl) b h,fun h y hy=>by rw [List.mem_singleton.1 hy,h];simp⟩
structure St (H:Heap) (Ts:List Th) (G:Heap):Prop where
  le:Heap.le H G
  nd:(Ts.flatMap Th.D).Nodup
  fr:∀t∈Ts,∀y∈t.D,H y=none
  ok:∀t∈Ts,t.P G
theorem St.nil (H:Heap):St H [] H:=⟨Heap.le_refl _,List.nodup_nil,fun t ht=>(by cases ht),fun t ht=>(by cases ht)⟩
theorem St.get {H G:Heap} {Ts:List Th} {t:Th} (s:St H Ts G) (i:Nat) (h:Ts[i]?=some t):t.P G:=s.ok t (List.mem_of_getElem? h)
theorem St.push {H G G':Heap} {Ts:List Th} (s:St H Ts G) (t:Th) (hn:New G G' t.D) (hp:t.P G'):St H (t::Ts) G':=by
  refine ⟨Heap.le_trans s.le hn.le,?_,?_,?_⟩
  · rw [List.flatMap_cons,List.nodup_append]
    refine ⟨hn.nd,s.nd,fun a ha b hb e=>?_⟩
    obtain ⟨u,hu,hbu⟩:=List.mem_flatMap.1 hb
    exact u.has (s.ok u hu) b hbu (by rw [← e];exact hn.fr a ha)
  · intro u hu y hy
    rcases List.mem_cons.1 hu with rfl | hu
    · cases hh:H y with
      | none=>rfl
      | some b=>rw [← hn.fr y hy,s.le y b hh]
    · exact s.fr u hu y hy
  · intro u hu
    rcases List.mem_cons.1 hu with rfl | hu
    · exact hp
    · exact u.loc (s.ok u hu) fun y _ b hb=>hn.le y b hb
theorem New.cell {G:Heap} {r:Nat} {b:List AV} (hr:G r=none):New G (G.set r b) [r]:=⟨by simp,by simpa using hr,Heap.le_set hr⟩
theorem St.cell {H G:Heap} {Ts:List Th} (s:St H Ts G) {r:Nat} (hr:G r=none) (b:List AV):St H (cellT r b::Ts) (G.set r b):=s.push (cellT r b) (New.cell hr) (Heap.set_same _ _ _)
theorem St.upd {H G G':Heap} {Ts:List Th} {t:Th} (s:St H Ts G) (i:Nat) (h:Ts[i]?=some t) (t':Th) (hD:t'.D=t.D) (hf:∀y,y∉t.D→G' y=G y) (hp:t'.P G'):St H (Ts.set i t') G':=by
  obtain ⟨hi,hti⟩:=List.getElem?_eq_some_iff.1 h
  have e:Ts=Ts.take i++t::Ts.drop (i+1):=by rw [← hti,List.getElem_cons_drop,List.take_append_drop]
  have e':Ts.set i t'=Ts.take i++t'::Ts.drop (i+1):=by rw [List.set_eq_take_append_cons_drop,if_pos hi]
  generalize Ts.take i=pre at e e'
  generalize Ts.drop (i+1)=post at e e'
  rw [e']
  subst e
  have hnd:=s.nd
  rw [List.flatMap_append,List.flatMap_cons] at hnd
  have hdis:∀u∈pre++post,∀y∈u.D,y∉t.D:=by
    intro u hu y hy hyt
    rw [List.nodup_append,List.nodup_append] at hnd
    rcases List.mem_append.1 hu with hu | hu
    · exact hnd.2.2 y (List.mem_flatMap.2 ⟨u,hu,hy⟩) y (List.mem_append_left _ hyt) rfl
    · exact hnd.2.1.2.2 y hyt y (List.mem_flatMap.2 ⟨u,hu,hy⟩) rfl
  refine ⟨fun y b hb=>?_,by rw [List.flatMap_append,List.flatMap_cons,hD];exact hnd,fun u hu y hy=>?_,fun u hu=>?_⟩
  · rw [hf y (fun hy=>by have:=s.fr t (by simp) y hy;rw [this] at hb;cases hb)];exact s.le y b hb
  · rcases List.mem_append.1 hu with hu | hu
    · exact s.fr u (List.mem_append_left _ hu) y hy
    · rcases List.mem_cons.1 hu with rfl | hu
      · exact s.fr t (by simp) y (hD ▸ hy)
      · exact s.fr u (by simp [hu]) y hy
  · have old:∀u∈pre++post,u.P G':=fun u hu=>u.loc (s.ok u (by
      rcases List.mem_append.1 hu with hu | hu
      · exact List.mem_append_left _ hu
      · exact List.mem_append_right _ (List.mem_cons_of_mem _ hu))) fun y hy b hb=>by rw [hf y (hdis u hu y hy)];exact hb
    rcases List.mem_append.1 hu with hu | hu
    · exact old u (List.mem_append_left _ hu)
    · rcases List.mem_cons.1 hu with rfl | hu
      · exact hp
      · exact old u (List.mem_append_right _ hu)
theorem St.drop {H G:Heap} {t:Th} {Ts:List Th} (s:St H (t::Ts) G):St H Ts G:=⟨s.le,(by have:=s.nd;rw [List.flatMap_cons,List.nodup_append] at this;exact this.2.1),fun u hu=>s.fr u (List.mem_cons_of_mem _ hu),fun u hu=>s.ok u (List.mem_cons_of_mem _ hu)⟩
theorem St.perm {H G:Heap} {Ts Us:List Th} (s:St H Ts G) (h:List.Perm Ts Us):St H Us G:=
  ⟨s.le,(h.flatMap_right _).nodup s.nd,fun t ht=>s.fr t (h.mem_iff.2 ht),fun t ht=>s.ok t (h.mem_iff.2 ht)⟩
theorem St.disj {H G:Heap} {t u:Th} {Ts:List Th} (s:St H (t::u::Ts) G):∀y∈t.D,y∉u.D:=by
  have:=s.nd
  rw [List.flatMap_cons,List.flatMap_cons,List.nodup_append] at this
  exact fun y hy hu=>this.2.2 y hy y (List.mem_append_left _ hu) rfl
theorem St.fresh {H G:Heap} {Ts:List Th} {t:Th} (s:St H Ts G) (i:Nat) (h:Ts[i]?=some t) {q:Nat} (hq:G q=none):q∉t.D:=fun hm=>t.has (s.get i h) q hm hq
theorem perm_pick {α:Type}:∀(Ts:List α) (i:Nat) (hi:i < Ts.length),List.Perm Ts (Ts[i]::Ts.eraseIdx i)
  | a::Ts,0,_=>List.Perm.refl _
  | a::Ts,i+1,hi=>((perm_pick Ts i (by simpa using hi)).cons a).trans (List.Perm.swap _ _ _)
theorem perm_set {α:Type}:∀(Ts:List α) (i:Nat) (hi:i < Ts.length) (t:α),List.Perm (Ts.set i t) (t::Ts.eraseIdx i)
  | a::Ts,0,_,_=>List.Perm.refl _
  | a::Ts,i+1,hi,t=>((perm_set Ts i (by simpa using hi) t).cons a).trans (List.Perm.swap _ _ _)
theorem sub_flat {α β:Type} {f:α→List β} {l m:List α} (h:List.Sublist l m):List.Sublist (l.flatMap f) (m.flatMap f):=by
  induction h with
  | slnil=>exact List.Sublist.refl _
  | cons a _ ih=>rw [List.flatMap_cons];exact ih.trans (List.sublist_append_right _ _)
  | cons_cons a _ ih=>rw [List.flatMap_cons,List.flatMap_cons];exact List.Sublist.append_left ih _
theorem St.pick {H G:Heap} {Ts:List Th} {t:Th} (s:St H Ts G) (i:Nat) (h:Ts[i]?=some t):St H (t::Ts.eraseIdx i) G:=by
  obtain ⟨hi,rfl⟩:=List.getElem?_eq_some_iff.1 h
  exact s.perm (perm_pick Ts i hi)
theorem St.step {H G G':Heap} {old rest:List Th} (s:St H (old++rest) G) (new:List Th) (hnd:(new.flatMap Th.D).Nodup) (hfr:∀t∈new,∀y∈t.D,(∃u∈old,y∈u.D)∨G y=none)
    (hf:∀y b,G y=some b→(∀u∈old,y∉u.D)→G' y=some b) (hp:∀t∈new,t.P G'):St H (new++rest) G':=by
  have hs:=s.nd
  rw [List.flatMap_append,List.nodup_append] at hs
  have hdis:∀u∈rest,∀y∈u.D,∀t∈old,y∉t.D:=fun u hu y hy t ht hyt=>hs.2.2 y (List.mem_flatMap.2 ⟨t,ht,hyt⟩) y (List.mem_flatMap.2 ⟨u,hu,hy⟩) rfl
  refine ⟨fun y b hb=>?_,?_,fun u hu y hy=>?_,fun u hu=>?_⟩
  · refine hf y b (s.le y b hb) fun u hu hy=>?_
    rw [s.fr u (List.mem_append_left _ hu) y hy] at hb;cases hb
  · rw [List.flatMap_append,List.nodup_append]
    refine ⟨hnd,hs.2.1,fun a ha b hb e=>?_⟩
    subst e
    obtain ⟨t,ht,hat⟩:=List.mem_flatMap.1 ha
    obtain ⟨u,hu,hau⟩:=List.mem_flatMap.1 hb
    rcases hfr t ht a hat with ⟨v,hv,hav⟩ | hn
    · exact hdis u hu a hau v hv hav
    · exact u.has (s.ok u (List.mem_append_right _ hu)) a hau hn
  · rcases List.mem_append.1 hu with hu | hu
    · rcases hfr u hu y hy with ⟨v,hv,hav⟩ | hn
      · exact s.fr v (List.mem_append_left _ hv) y hav
      · cases hh:H y with
        | none=>rfl
        | some b=>rw [← hn,s.le y b hh]
    · exact s.fr u (List.mem_append_right _ hu) y hy
  · rcases List.mem_append.1 hu with hu | hu
    · exact hp u hu
    · exact u.loc (s.ok u (List.mem_append_right _ hu)) fun y hy b hb=>hf y b hb (hdis u hu y hy)
theorem St.repl {H G G':Heap} {Ts:List Th} {t:Th} (s:St H Ts G) (i:Nat) (h:Ts[i]?=some t) (t':Th) (hnd:t'.D.Nodup) (hfr:∀y∈t'.D,y∈t.D∨G y=none)
    (hf:∀y b,G y=some b→y∉t.D→G' y=some b) (hp:t'.P G'):St H (Ts.set i t') G':=by
  obtain ⟨hi,-⟩:=List.getElem?_eq_some_iff.1 h
  have:=St.step (old:=[t]) (s.pick i h) [t'] (by simpa using hnd) (fun u hu y hy=>by
    rw [List.mem_singleton] at hu;subst hu
    rcases hfr y hy with h1 | h1
    · exact .inl ⟨t,by simp,h1⟩
    · exact .inr h1) (fun y b hb hy=>hf y b hb (hy t (by simp))) (fun u hu=>by rw [List.mem_singleton] at hu;subst hu;exact hp)
  exact this.perm (perm_set Ts i hi t').symm
theorem St.moved {H G:Heap} {Ts:List Th} {q q':Nat} {b c:List AV} (s:St H Ts G) (i:Nat) (h:Ts[i]?=some (cellT q b)) (hq:G q'=none):St H (Ts.set i (cellT q' c)) ((G.del q).set q' c):=by
  have hg:G q=some b:=s.get i h
  refine s.repl i h (cellT q' c) (by simp [cellT]) (fun y hy=>?_) (fun y bb hb hy=>?_) (Heap.set_same _ _ _)
  · simp only [cellT,List.mem_singleton] at hy;subst hy;exact .inr hq
  · simp only [cellT,List.mem_singleton] at hy
    rw [Heap.set_other (fun e=>by rw [e,hq] at hb;cases hb),Heap.del_other hy];exact hb
theorem St.put {H G:Heap} {Ts:List Th} {q:Nat} {b:List AV} (s:St H Ts G) (i:Nat) (h:Ts[i]?=some (cellT q b)) (c:List AV):St H (Ts.set i (cellT q c)) (G.set q c):=by
  refine s.repl i h (cellT q c) (by simp [cellT]) (fun y hy=>.inl hy) (fun y bb hb hy=>?_) (Heap.set_same _ _ _)
  simp only [cellT,List.mem_singleton] at hy
  rw [Heap.set_other hy];exact hb
theorem St.sub {H G:Heap} {Ts Us:List Th} (s:St H Ts G) (h:List.Sublist Us Ts):St H Us G:=
  ⟨s.le,List.Nodup.sublist (sub_flat h) s.nd,fun t ht=>s.fr t (h.subset ht),fun t ht=>s.ok t (h.subset ht)⟩
theorem St.new {H G:Heap} {Ts:List Th} (s:St H Ts G):New H G (Ts.flatMap Th.D):=⟨s.nd,fun y hy=>by
  obtain ⟨t,ht,hyt⟩:=List.mem_flatMap.1 hy
  exact s.fr t ht y hyt,s.le⟩
end Go.Sep
namespace Go.Proofs.Ytjdhigcefkihiaa
open Go Go.Sep Go.Pt
attribute [local irreducible] CallT
abbrev eE (x:Ed):List PV:=[.int .i64 x.src,.int .i64 x.lt,.int .i64 x.dst]
abbrev Es (xs:List Ed):AV:=.p (.sl (xs.map eE))
abbrev aAu (a:Au):AV:=.agg [I a.states,Is a.first,Es a.edges,Ls a.goals]
end Go.Proofs.Ytjdhigcefkihiaa
namespace Go.Proofs.Ytjdhigcefkihiaa
open Go Go.Sep Go.Pt
attribute [local irreducible] CallT
def LPg (p:Pg) (v:AV) (G:Heap) (D:List Nat):Prop:=∃x y D1 D2,v=.agg [I p.wide,I p.vars,x,y]∧D=D1++D2∧LN p.start x G D1∧LRow LCm 2 p.cmds y G D2
theorem LPg.local {p:Pg} {v:AV} {G G':Heap} {D:List Nat} (h:LPg p v G D) (hf:∀y∈D,∀b,G y=some b→G' y=some b):LPg p v G' D:=by
  obtain ⟨x,y,D1,D2,e,rfl,h1,h2⟩:=h
  exact ⟨x,y,D1,D2,e,rfl,LRow.local (LPl.local eN) h1 (fun z hz=>hf z (List.mem_append_left _ hz)),LRow.local LCm.local h2 (fun z hz=>hf z (List.mem_append_right _ hz))⟩
theorem LPg.has {p:Pg} {v:AV} {G:Heap} {D:List Nat} (h:LPg p v G D):∀y∈D,G y≠none:=by
  obtain ⟨x,y,D1,D2,e,rfl,h1,h2⟩:=h
  intro z hz
  rcases List.mem_append.1 hz with hz | hz
  · exact LRow.has (LPl.has eN) h1 z hz
  · exact LRow.has LCm.has h2 z hz
theorem LPg.wk {p:Pg} {v:AV} {G:Heap} {D:List Nat} (h:LPg p v G D) (hD:D.Nodup) (C:AV→AV) (hC:∀{q sz es a a'},FrzR q sz es a a'→FrzR q sz es (C a) (C a')):∃G',Wk (C v) G (C (aPg p)) G'∧∀y,y∉D→G' y=G y:=by
  obtain ⟨x,y,D1,D2,rfl,rfl,h1,h2⟩:=h
  rw [List.nodup_append] at hD
  obtain ⟨G1,w1,f1⟩:=LRow.frzV (e:=eN) (sz:=2) (v:=C (.agg [I p.wide,I p.vars,x,y])) (v':=C (.agg [I p.wide,I p.vars,Ns p.start,y])) (by omega) (fun _=>rfl) (LPl.local eN) (LPl.frz eN) h1 hD.1
    (fun q _ hr=>hC (.agg (.cons (.same _) (.cons (.same _) (.cons hr (.cons (.same _) .nil))))))
  have h2':=LRow.local LCm.local h2 (G':=G1) fun z hz b hb=>by rw [f1 z (fun hz1=>hD.2.2 z hz1 z hz rfl)];exact hb
  obtain ⟨G2,w2,f2⟩:=LRow.frzV (e:=eCm) (sz:=2) (v:=C (.agg [I p.wide,I p.vars,Ns p.start,y])) (v':=C (aPg p)) (by omega) (fun _=>rfl) LCm.local LCm.frz h2' hD.2.1
    (fun q _ hr=>hC (.agg (.cons (.same _) (.cons (.same _) (.cons (.same _) (.cons hr .nil))))))
  refine ⟨G2,.trans w1 w2,fun z hz=>?_⟩
  rw [List.mem_append,not_or] at hz
  rw [f2 z hz.2,f1 z hz.1]
def LSt (of:List Int) (v:AV) (G:Heap) (D:List Nat):Prop:=∃x,v=.agg [x]∧LI of x G D
theorem LI_mk {xs:List Int} {q:Nat} {G:Heap} (h:G q=some (cells (xs.map eI))):LI xs (rowP q xs) G [q]:=⟨q,_,[],rfl,h,LL.plain xs,rfl⟩
theorem LSt.local {of:List Int} {v:AV} {G G':Heap} {D:List Nat} (h:LSt of v G D) (hf:∀y∈D,∀b,G y=some b→G' y=some b):LSt of v G' D:=by
  obtain ⟨x,e,h⟩:=h;exact ⟨x,e,LRow.local (LPl.local eI) h hf⟩
theorem LSt.has {of:List Int} {v:AV} {G:Heap} {D:List Nat} (h:LSt of v G D):∀y∈D,G y≠none:=by
  obtain ⟨x,e,h⟩:=h;exact LRow.has (LPl.has eI) h
theorem LSt.wk {of:List Int} {v:AV} {G:Heap} {D:List Nat} (h:LSt of v G D) (hD:D.Nodup) (C:AV→AV) (hC:∀{q sz es a a'},FrzR q sz es a a'→FrzR q sz es (C a) (C a')):∃G',Wk (C v) G (C (aS of)) G'∧∀y,y∉D→G' y=G y:=by
  obtain ⟨x,rfl,h⟩:=h
  exact LRow.frzV (e:=eI) (sz:=1) (v:=C (.agg [x])) (v':=C (aS of)) (by omega) (fun _=>rfl) (LPl.local eI) (LPl.frz eI) h hD (fun q _ hr=>hC (.agg (.cons hr .nil)))
def marked (k:Int) (n:Nat):List Int:=(List.range n).map fun (j:Nat)=>k+(j:Int)
end Go.Proofs.Ytjdhigcefkihiaa
namespace Go.Proofs.Ytjdhigcefkihiaa
open Go Go.Sep Go.Pt
attribute [local irreducible] CallT
structure Half {α:Type} (L:Lay α) (G0:Heap) (q:Nat) (D:List Nat) (xs:List α) (i:Nat) (G:Heap) (done:List α):Prop where
  ex:∃cd cr Dd Dr,G q=some (cd++cr)∧LL L done cd G Dd∧LL L (xs.drop i) cr G Dr∧D=Dd++Dr
  len:done.length=i
  fr:∀y,y∉q::D→G y=G0 y
end Go.Proofs.Ytjdhigcefkihiaa
namespace Go.Proofs.Ytjdhigcefkihiaa
open Go Go.Sep Go.Pt
attribute [local irreducible] CallT
abbrev LE:List Ed→AV→Heap→List Nat→Prop:=LRow (LPl eE) 3
def LIc:Lay (List Int):=fun l cs G D=>∃x,cs=[x]∧LI l x G D
abbrev LII:List (List Int)→AV→Heap→List Nat→Prop:=LRow LIc 1
theorem LIc.local:Lay.Local LIc:=by
  rintro c cs G G' D ⟨x,e,h⟩ hf
  exact ⟨x,e,LRow.local (LPl.local eI) h hf⟩
theorem LIc.size:Lay.Size LIc 1:=by
  rintro c cs G D ⟨x,rfl,h⟩;rfl
theorem LIc.has:Lay.Has LIc:=by
  rintro c cs G D ⟨x,e,h⟩
  exact LRow.has (LPl.has eI) h
theorem LIc.frz:Lay.Frz LIc eL:=by
  rintro c cs G D v s pre post ⟨x,rfl,h⟩ hD hs hG
  obtain ⟨G',w,k,f⟩:=LRow.frzIn (e:=eI) (sz:=1) (pre:=pre) (post:=post) (v:=v) (by omega) (fun _=>rfl) (LPl.local eI) (LPl.frz eI) h hD hs (by rw [hG])
  exact ⟨G',w,by rw [k];rfl,f⟩
def LAu (a:Au) (v:AV) (G:Heap) (D:List Nat):Prop:=∃x y z D1 D2 D3,v=.agg [I a.states,x,y,z]∧D=D1++(D2++D3)∧LI a.first x G D1∧LE a.edges y G D2∧LII a.goals z G D3
theorem LAu.local {a:Au} {v:AV} {G G':Heap} {D:List Nat} (h:LAu a v G D) (hf:∀y∈D,∀b,G y=some b→G' y=some b):LAu a v G' D:=by
  obtain ⟨x,y,z,D1,D2,D3,e,rfl,h1,h2,h3⟩:=h
  exact ⟨x,y,z,D1,D2,D3,e,rfl,LRow.local (LPl.local eI) h1 (fun u hu=>hf u (by simp [hu])),LRow.local (LPl.local eE) h2 (fun u hu=>hf u (by simp [hu])),LRow.local LIc.local h3 (fun u hu=>hf u (by simp [hu]))⟩
theorem LAu.has {a:Au} {v:AV} {G:Heap} {D:List Nat} (h:LAu a v G D):∀y∈D,G y≠none:=by
  obtain ⟨x,y,z,D1,D2,D3,e,rfl,h1,h2,h3⟩:=h
  intro u hu
  simp only [List.mem_append] at hu
  rcases hu with hu | hu | hu
  · exact LRow.has (LPl.has eI) h1 u hu
  · exact LRow.has (LPl.has eE) h2 u hu
  · exact LRow.has LIc.has h3 u hu
theorem nd3' {A B C:List Nat} (h:(A++(B++C)).Nodup):A.Nodup∧B.Nodup∧C.Nodup∧(∀y∈A,y∉B)∧(∀y∈A,y∉C)∧(∀y∈B,y∉C):=by
  rw [List.nodup_append,List.nodup_append] at h
  obtain ⟨h1,⟨h2,h3,h4⟩,h5⟩:=h
  exact ⟨h1,h2,h3,fun y hy hb=>h5 y hy y (List.mem_append_left _ hb) rfl,fun y hy hb=>h5 y hy y (List.mem_append_right _ hb) rfl,fun y hy hb=>h4 y hy y hb rfl⟩
theorem LAu.wk {a:Au} {v:AV} {G:Heap} {D:List Nat} (h:LAu a v G D) (hD:D.Nodup) (C:AV→AV) (hC:∀{q sz es a a'},FrzR q sz es a a'→FrzR q sz es (C a) (C a')):∃G',Wk (C v) G (C (aAu a)) G'∧∀y,y∉D→G' y=G y:=by
  obtain ⟨x,y,z,D1,D2,D3,rfl,rfl,h1,h2,h3⟩:=h
  obtain ⟨n1,n2,n3,d12,d13,d23⟩:=nd3' hD
  obtain ⟨G1,w1,f1⟩:=LRow.frzV (e:=eI) (sz:=1) (v:=C (.agg [I a.states,x,y,z])) (v':=C (.agg [I a.states,Is a.first,y,z])) (by omega) (fun _=>rfl) (LPl.local eI) (LPl.frz eI) h1 n1
    (fun q _ hr=>hC (.agg (.cons (.same _) (.cons hr (.cons (.same _) (.cons (.same _) .nil))))))
  have h2':=LRow.local (LPl.local eE) h2 (G':=G1) fun u hu b hb=>by rw [f1 u (fun h=>d12 u h hu)];exact hb
  obtain ⟨G2,w2,f2⟩:=LRow.frzV (e:=eE) (sz:=3) (v:=C (.agg [I a.states,Is a.first,y,z])) (v':=C (.agg [I a.states,Is a.first,Es a.edges,z])) (by omega) (fun _=>rfl) (LPl.local eE) (LPl.frz eE) h2' n2
    (fun q _ hr=>hC (.agg (.cons (.same _) (.cons (.same _) (.cons hr (.cons (.same _) .nil))))))
  have h3':=LRow.local LIc.local h3 (G':=G2) fun u hu b hb=>by rw [f2 u (fun h=>d23 u h hu),f1 u (fun h=>d13 u h hu)];exact hb
  obtain ⟨G3,w3,f3⟩:=LRow.frzV (e:=eL) (sz:=1) (v:=C (.agg [I a.states,Is a.first,Es a.edges,z])) (v':=C (aAu a)) (by omega) (fun _=>rfl) LIc.local LIc.frz h3' n3
    (fun q _ hr=>hC (.agg (.cons (.same _) (.cons (.same _) (.cons (.same _) (.cons hr .nil))))))
  refine ⟨G3,.trans w1 (.trans w2 w3),fun u hu=>?_⟩
  simp only [List.mem_append,not_or] at hu
  rw [f3 u hu.2.2,f2 u hu.2.1,f1 u hu.1]
end Go.Proofs.Ytjdhigcefkihiaa
namespace Go.Proofs.Ytjdhigcefkihiaa
open Go Go.Sep Go.Pt
attribute [local irreducible] CallT
end Go.Proofs.Ytjdhigcefkihiaa
namespace Go.Proofs.Ytjdhigcefkihiaa
open Go Go.Sep Go.Pt
attribute [local irreducible] CallT
def below (n:Nat):List Int:=(List.range n).map fun (i:Nat)=>(i:Int)
def smI (l:List Int):Prop:=l.length≤10000∧∀x∈l,0≤x∧x≤100000
theorem LI_mk' {xs:List Int} {q:Nat} {G:Heap} (h:G q=some (cP fI xs)):LI xs (rowP q xs) G [q]:=LI_mk (by
  have e:cells (xs.map eI)=cP fI xs:=cells_P fI xs
  rw [e];exact h)
end Go.Proofs.Ytjdhigcefkihiaa
namespace Go.Sep
open Go Go.RowKit
inductive FinK (K:AV→Heap→Prop):AV→Heap→Prop where
  | done {v:AV} {H:Heap} (h:K v H):FinK K v H
  | wk {v v':AV} {H H':Heap} (h:Wk v H v' H') (k:FinK K v' H'):FinK K v H
  | ghost {v:AV} {H:Heap} (k:∀z,H z=none→FinK K v (H.set z [])):FinK K v H
def RN {α:Type} (L:Lay α) (sz:Nat) (x:AV) (xs:List α) (G:Heap) (D:List Nat):Prop:=(x=.p .nil∧xs=[]∧D=[])∨LRow L sz xs x G D
theorem RN.local {α:Type} {L:Lay α} {sz:Nat} (hL:L.Local) {x:AV} {xs:List α} {G G':Heap} {D:List Nat} (h:RN L sz x xs G D) (hf:∀y∈D,∀b,G y=some b→G' y=some b):RN L sz x xs G' D:=by
  rcases h with h | h
  · exact .inl h
  · exact .inr (h.local hL hf)
theorem RN.has {α:Type} {L:Lay α} {sz:Nat} (hL:L.Has) {x:AV} {xs:List α} {G:Heap} {D:List Nat} (h:RN L sz x xs G D):∀y∈D,G y≠none:=by
  rcases h with ⟨h1,h2,rfl⟩ | h
  · intro y hy;cases hy
  · exact h.has hL
theorem RN.sl {α:Type} {L:Lay α} {sz:Nat} {x:AV} {xs:List α} {G:Heap} {D:List Nat} (h:RN L sz x xs G D):x=.p .nil∨∃q,x=.sl q sz 0 xs.length:=by
  rcases h with ⟨h1,_⟩ | ⟨q,cs,D',h1,_⟩
  · exact .inl h1
  · exact .inr ⟨q,h1⟩
def rnT {α:Type} {L:Lay α} (hL:L.Local) (hh:L.Has) (sz:Nat) (x:AV) (xs:List α) (D:List Nat):Th:=⟨D,fun G=>RN L sz x xs G D,fun h f=>h.local hL f,fun h=>h.has hh⟩
theorem LL.plain' {α:Type} {e:α→List PV} {G:Heap}:∀{xs:List α} {cs:List AV} {D:List Nat},LL (LPl e) xs cs G D→cs=cells (xs.map e)∧D=[]
  | [],_,_,⟨h1,h2⟩=>⟨h1,h2⟩
  | a::xs,_,_,⟨c1,c2,D1,D2,e1,e2,h1,h2⟩=>by
    obtain ⟨f1,f2⟩:=LL.plain' h2
    rw [e1,e2,h1.1,h1.2,f1,f2]
    exact ⟨by simp [cells],rfl⟩
theorem RN.app {tab:Tab} {t0 t1 e0 e1 sz:Nat} {d d1 ed:TD} {α:Type} {e:α→List PV} (h1:tab t0=some d) (h2:d.k=.slice e0) (h3:tab e0=some ed) (h4:tab t1=some d1) (h5:d1.k=.slice e1) (h6:ed.size=sz) {bz:Nat} (h7:ed.bytes=bz)
    (hsz:∀a,(e a).length=sz) {H G:Heap} {Ts:List Th} {x y:AV} {xs ys:List α} {D:List Nat} {hL:(LPl e).Local} {hh:(LPl e).Has} (s:St H Ts G) (i:Nat) (hi:Ts[i]?=some (rnT hL hh sz x xs D)) (hy:y=.p (.sl (ys.map e)))
    (hl:(xs.length+ys.length)*bz≤140737488355328) (hl2:xs.length+ys.length≤9223372036854775807) {K:AV→Heap→Prop}
    (h:∀q' G',G q'=none→St H (Ts.set i (rnT hL hh sz (.sl q' sz 0 (xs++ys).length) (xs++ys) [q'])) G'→K (.sl q' sz 0 (xs++ys).length) G'):appendV tab t0 t1 x y G (wkK K):=by
  subst hy
  have hrz:RN (LPl e) sz x xs G D:=s.get i hi
  rcases hrz with ⟨rfl,rfl,rfl⟩ | ⟨q,cs,D',rfl,hq,hll,rfl⟩
  · refine app_nil h1 h2 h3 h4 h5 h6 h7 (.inl rfl) (.inl rfl) (sizedMap hsz ys) (by simpa using hl) (by simpa using hl2) fun q' hq'=>?_
    have:=h q' _ hq' (s.repl i hi (rnT hL hh sz (.sl q' sz 0 ([]++ys).length) ([]++ys) [q']) (by simp [rnT]) (fun y hy=>by
      simp only [rnT,List.mem_singleton] at hy;subst hy;exact .inr hq') (G':=G.set q' (cells (ys.map e))) (fun y b hb _=>Heap.le_set hq' y b hb) (.inr ⟨q',_,[],rfl,Heap.set_same _ _ _,LL.plain _,rfl⟩))
    simpa [Go.Sep.own] using this
  · obtain ⟨rfl,rfl⟩:=LL.plain' hll
    have:=app_own (x:=.p (.sl (ys.map e))) (r:=q) (es:=xs.map e) (fs:=ys.map e) (H:=G) (K:=K) h1 h2 h3 h4 h5 h6 h7 (.inl rfl) hq (sizedMap hsz xs) (sizedMap hsz ys)
      (by simpa using hl) (by simpa using hl2) fun q' hq'=>by
        have:=h q' ((G.del q).set q' (cells ((xs++ys).map e))) hq' (s.repl i hi (rnT hL hh sz (.sl q' sz 0 (xs++ys).length) (xs++ys) [q']) (by simp [rnT]) (fun y hy=>by
          simp only [rnT,List.mem_singleton] at hy;subst hy;exact .inr hq') (fun y b hb hy=>by
            simp only [rnT,List.mem_singleton] at hy
            rw [Heap.set_other (fun e=>by rw [e,hq'] at hb;cases hb),Heap.del_other hy];exact hb) (.inr ⟨q',_,[],rfl,Heap.set_same _ _ _,LL.plain _,rfl⟩))
        simpa only [Go.Sep.own,List.length_map,List.map_append,List.length_append] using this
    simpa only [Go.Sep.own,List.length_map] using this
end Go.Sep
namespace Go.Proofs.Ytjdhigcefkihiaa
open Go Go.Sep Go.Pt
attribute [local irreducible] CallT
def LIn:Lay (List Int):=fun l cs G D=>∃x,cs=[x]∧RN (LPl eI) 1 x l G D
theorem LIn.local:Lay.Local LIn:=by
  rintro c cs G G' D ⟨x,e,h⟩ hf
  exact ⟨x,e,h.local (LPl.local eI) hf⟩
theorem LIn.has:Lay.Has LIn:=by
  rintro c cs G D ⟨x,e,h⟩
  exact h.has (LPl.has eI)
theorem LIn.size:Lay.Size LIn 1:=by
  rintro c cs G D ⟨x,rfl,h⟩;rfl
abbrev eBo (b:Bool):List PV:=[.bool b]
abbrev fB (b:Bool):PV:=.bool b
end Go.Proofs.Ytjdhigcefkihiaa
namespace Go.Sep
open Go Go.RowKit Go.Sort Go.Proofs.Ytjdhigcefkihiaa
theorem Sim.ahead {Z:Fro} {φ:Pm} {B0:Nat} {w0 w:World} {H:Heap} (s:Sim Z φ B0 w0 H w) (n:Nat):Sim Z φ B0 w0 H (Go.Sort.ahead w n):=
  ⟨s.b0,⟨⟨s.below.os,s.below.tape,s.below.output,s.below.size,s.below.block⟩,s.below.drawn.trans (DrawnLe.same rfl)⟩,s.bnd,fun r blk e=>let ⟨pl,hp,hl⟩:=s.live r blk e;⟨pl,hp,hl.world fun _ h=>h⟩,s.disj,fun b i v hz=>s.froz b i v hz,s.zsep⟩
theorem Sim.grow {Z:Fro} {φ:Pm} {B0:Nat} {w0 w:World} {H:Heap} (s:Sim Z φ B0 w0 H w) (os:Array Obj):Sim Z φ B0 w0 H (Go.Sort.grow w os):=
  s.later ⟨⟨rfl,rfl,rfl,by simp,fun k hk=>heap_grow_old w os hk⟩,fun k o hk _=>(heap_grow_old w os (Array.getElem?_eq_some_iff.1 hk).1).trans hk⟩
end Go.Sep
/-
  DERIVED: THE SHELF's CONTRACTS AT THIS DUMP,IN PLAIN WORDS (tools/lay-plain.mjs out of 'YtjdhigcefkihiaaLay.lean',which tools/lay-shelf.mjs wrote): THE SAME DECLARATIONS UNDER THE SAME NAMES: 'import','namespace','open','def','theorem' AND NOTHING ELSE: no command of the shelf's: FOR A HAND-IN. Each laying: the table of numbers ('.._ren') and one theorem,a field a fact of the dump's own or the kernel's comparison;each contract: ONE APPLICATION.
-/
namespace Go.Proofs
open Go.Shelf
end Go.Proofs
namespace Go.Pt
def put (l:List Int) (n:Int):List Int:=if n∈l then l else l.takeWhile (· < n)++n::l.dropWhile (· < n)
end Go.Pt
namespace Go.Proofs.Ytjdhigcefkihiaa
open Go Go.Sep Go.Pt Go.RowKit
end Go.Proofs.Ytjdhigcefkihiaa
namespace Go.Proofs.Ytjdhigcefkihiaa
open Go Go.Sep Go.Pt
attribute [local irreducible] CallT
def GAt (x:AV) (gs:List (List Int)) (G:Heap) (D:List Nat):Prop:=∃cs D',LL LIc gs cs G D'∧((x=.p .nil∧cs=[]∧D=[])∨∃q,x=.sl q 1 0 gs.length∧G q=some cs∧D=q::D')
theorem GAt.nil (G:Heap):GAt (.p .nil) [] G []:=⟨[],[],⟨rfl,rfl⟩,.inl ⟨rfl,rfl,rfl⟩⟩
theorem GAt.local {x:AV} {gs:List (List Int)} {G G':Heap} {D:List Nat} (g:GAt x gs G D) (h:∀y∈D,∀b,G y=some b→G' y=some b):GAt x gs G' D:=by
  obtain ⟨cs,D',hl,h1⟩:=g
  rcases h1 with ⟨rfl,rfl,rfl⟩ | ⟨q,rfl,hq,rfl⟩
  · cases gs with
    | nil=>obtain ⟨_,rfl⟩:=hl;exact ⟨[],[],⟨rfl,rfl⟩,.inl ⟨rfl,rfl,rfl⟩⟩
    | cons a gs=>obtain ⟨c1,c2,D1,D2,e,_,⟨z,rfl,_⟩,_⟩:=hl;simp at e
  · exact ⟨cs,D',LL.local LIc.local hl (fun y hy b hb=>h y (List.mem_cons_of_mem _ hy) b hb),.inr ⟨q,rfl,h q (List.mem_cons_self ..) _ hq,rfl⟩⟩
theorem GAt.push {x:AV} {gs:List (List Int)} {G:Heap} {D:List Nat} {l:List Int} {qn ql:Nat} {K:AV→Heap→Prop} (g:GAt x gs G D) (hD:D.Nodup) (hl:G qn=some (cP fI l)) (hn:qn∉D) (hql:G ql=some [rowP qn l]) (hlen:gs.length≤1000)
    (h:∀q' G' D'',G q'=none→GAt (.sl q' 1 0 (gs.length+1)) (gs++[l]) G' D''→D''.Nodup→(∀y∈D'',y∈D∨y=qn∨y=q')→(∀y b,G y=some b→y∉D→G' y=some b)→K (.sl q' 1 0 (gs.length+1)) G') :
    appendV tab 110 110 x (.sl ql 1 0 1) G (wkK K):=by
  obtain ⟨cs,D',hll,h1⟩:=g
  have hcl:cs.length=gs.length:=by rw [LL.size LIc.size hll,Nat.mul_one]
  have hqnN:∀{q'},G q'=none→q'≠qn:=fun hq' e=>by rw [e,hl] at hq';cases hq'
  simp only [appendV,tab_110,tab_23,srcV,hql]
  rcases h1 with ⟨rfl,rfl,rfl⟩ | ⟨q,rfl,hq,rfl⟩
  · have hgs:gs=[]:=List.eq_nil_of_length_eq_zero hcl.symm
    subst hgs
    obtain ⟨_,rfl⟩:=hll
    simp only [baseV]
    refine ⟨trivial,by simp,by omega,by omega,rfl,fun q' hq'=>wkK.keep ?_⟩
    have hlL:LI l (rowP qn l) (G.set q' ([]++[rowP qn l])) [qn]:=LI_mk' (by rw [Heap.set_other (Ne.symm (hqnN hq'))];exact hl)
    refine h q' _ [q',qn] hq' ⟨[rowP qn l],[qn],?_,.inr ⟨q',rfl,Heap.set_same _ _ _,rfl⟩⟩ (by simp [hqnN hq']) (fun y hy=>by simp at hy;rcases hy with rfl | rfl<;>simp) (fun y b hb _=>by rw [Heap.set_other (fun e=>by rw [e,hq'] at hb;cases hb)];exact hb)
    exact ⟨[rowP qn l],[],[qn],[],rfl,by simp,⟨_,rfl,hlL⟩,⟨rfl,rfl⟩⟩
  · rw [List.mem_cons,not_or] at hn
    rw [List.nodup_cons] at hD
    simp only [baseV,hq]
    have e1:List.take (gs.length*1) (List.drop 0 cs)=cs:=by rw [List.drop_zero,Nat.mul_one,← hcl,List.take_length]
    have e2:List.take (1*1) (List.drop 0 [rowP qn l])=[rowP qn l]:=rfl
    refine ⟨trivial,by simp,trivial,by omega,by omega,by omega,rfl,fun q' hq'=>wkK.keep ?_⟩
    rw [e1,e2]
    have nq:q'≠q:=fun e=>by rw [e,hq] at hq';cases hq'
    have old:∀y b,G y=some b→y≠q→((G.del q).set q' (cs++[rowP qn l])) y=some b:=fun y b hb hy=>by
      rw [Heap.set_other (fun e=>by rw [e,hq'] at hb;cases hb),Heap.del_other hy];exact hb
    have hlL:LI l (rowP qn l) ((G.del q).set q' (cs++[rowP qn l])) [qn]:=LI_mk' (old _ _ hl hn.1)
    have hnD:∀y∈D',y≠q:=fun y hy e=>hD.1 (e ▸ hy)
    refine h q' _ (q'::(D'++[qn])) hq' ⟨cs++[rowP qn l],D'++[qn],LL.snoc ⟨_,rfl,hlL⟩ (LL.local LIc.local hll fun y hy b hb=>old y b hb (hnD y hy)),.inr ⟨q',by simp,Heap.set_same _ _ _,rfl⟩⟩ ?_ ?_ ?_
    · have hq'D:q'∉D':=fun hm=>LL.has LIc.has hll q' hm hq'
      rw [List.nodup_cons,List.nodup_append]
      refine ⟨by simp only [List.mem_append,List.mem_singleton,not_or];exact ⟨hq'D,hqnN hq'⟩,hD.2,by simp,fun a ha b hb e=>?_⟩
      rw [List.mem_singleton] at hb
      exact hn.2 (by rw [← hb,← e];exact ha)
    · intro y hy
      simp only [List.mem_cons,List.mem_append,List.not_mem_nil,or_false] at hy ⊢
      rcases hy with rfl | hy | rfl
      · exact .inr (.inr rfl)
      · exact .inl (.inr hy)
      · exact .inr (.inl rfl)
    · intro y b hb hy
      rw [List.mem_cons,not_or] at hy
      exact old y b hb hy.1
end Go.Proofs.Ytjdhigcefkihiaa
