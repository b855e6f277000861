/- What each function's code is asked for, as a formula. Written by wgen.py (a program of this session's) out of Lean's print of the program. -/
import Derived.KernelRfl
import Derived.Test.YtfbaijpanbjmpaaTab
import Derived.Test.YtfbaijpanbjmpaaSepC
namespace Go.Proofs.Ytfbaijpanbjmpaa
open Go Go.Sep
set_option linter.unusedVariables false
attribute [local irreducible] wpC headF
/-- loop.example/g00649/impl.both -/
def D74 : Info := ⟨182, fun i => ([], []), fun i => if i = 3 then ([2, 3, 4, 5, 33, 34], [35]) else if i = 6 then ([2, 3, 4, 5, 7, 33, 34, 35, 40, 41], [42]) else if i = 12 then ([2, 3, 4, 5, 60, 61], [62]) else if i = 15 then ([2, 3, 4, 5, 11, 60, 61, 62, 67, 68], [69]) else if i = 23 then ([2, 3, 4, 5, 108, 109], [110]) else if i = 27 then ([2, 3, 4, 5, 108, 109, 110, 115, 116], [16, 117]) else if i = 30 then ([2, 3, 4, 5, 18, 108, 109, 110, 115, 116, 117, 122], [16, 123]) else if i = 38 then ([2, 3, 4, 5, 145, 146], [147]) else if i = 42 then ([2, 3, 4, 5, 21, 145, 146, 147, 153], [22, 154]) else if i = 45 then ([2, 3, 4, 5, 21, 23, 145, 146, 147, 153, 154, 157, 158], [22, 159]) else ([], [])⟩
def L74_0 (K : AV → Heap → Prop) (v2 : AV) (v3 : AV) (v4 : AV) (v5 : AV) (v33 : AV) (v34 : AV) (v35 : AV) (H : Heap) : Prop := LoopV (wpC Try.prog tab D74 (cAt [1, 1, 0, 1, 0, 0] (bodyOf Try.f74))) [2, 3, 4, 5, 33, 34] (PostF.block 0 (PostF.thenA (wpC Try.prog tab D74 (cAt [1, 1, 1] (bodyOf Try.f74))) (retF tab [.cell 4 30] K))) [35] [AV.any, AV.any, v2, v3, v4, v5, AV.any, AV.any, AV.any, AV.any, AV.any, AV.any, AV.any, AV.any, AV.any, AV.any, AV.any, AV.any, AV.any, AV.any, AV.any, AV.any, AV.any, AV.any, AV.any, AV.any, AV.any, AV.any, AV.any, AV.any, AV.any, AV.any, AV.any, v33, v34, v35, AV.any, AV.any, AV.any, AV.any, AV.any, AV.any, AV.any, AV.any, AV.any, AV.any, AV.any, AV.any, AV.any, AV.any, AV.any, AV.any, AV.any, AV.any, AV.any, AV.any, AV.any, AV.any, AV.any, AV.any, AV.any, AV.any, AV.any, AV.any, AV.any, AV.any, AV.any, AV.any, AV.any, AV.any, AV.any, AV.any, AV.any, AV.any, AV.any, AV.any, AV.any, AV.any, AV.any, AV.any, AV.any, AV.any, AV.any, AV.any, AV.any, AV.any, AV.any, AV.any, AV.any, AV.any, AV.any, AV.any, AV.any, AV.any, AV.any, AV.any, AV.any, AV.any, AV.any, AV.any, AV.any, AV.any, AV.any, AV.any, AV.any, AV.any, AV.any, AV.any, AV.any, AV.any, AV.any, AV.any, AV.any, AV.any, AV.any, AV.any, AV.any, AV.any, AV.any, AV.any, AV.any, AV.any, AV.any, AV.any, AV.any, AV.any, AV.any, AV.any, AV.any, AV.any, AV.any, AV.any, AV.any, AV.any, AV.any, AV.any, AV.any, AV.any, AV.any, AV.any, AV.any, AV.any, AV.any, AV.any, AV.any, AV.any, AV.any, AV.any, AV.any, AV.any, AV.any, AV.any, AV.any, AV.any, AV.any, AV.any, AV.any, AV.any, AV.any, AV.any, AV.any, AV.any, AV.any, AV.any, AV.any, AV.any, AV.any, AV.any, AV.any, AV.any, AV.any, AV.any, AV.any, AV.any, AV.any, AV.any, AV.any, AV.any, AV.any, AV.any, AV.any, AV.any] H
def L74_1 (K : AV → Heap → Prop) (N1 : AV → Heap → Prop) (v2 : AV) (v3 : AV) (v4 : AV) (v5 : AV) (v7 : AV) (v33 : AV) (v34 : AV) (v35 : AV) (v40 : AV) (v41 : AV) (v42 : AV) (H : Heap) : Prop := LoopV (wpC Try.prog tab D74 (cAt [1, 1, 0, 1, 0, 0, 1, 1, 0, 0, 1, 1, 0, 0] (bodyOf Try.f74))) [2, 3, 4, 5, 7, 33, 34, 35, 40, 41] (PostF.block 2 (PostF.block 1 (PostF.thenA (wpC Try.prog tab D74 (cAt [1, 1, 0, 1, 0, 0, 1, 1, 1] (bodyOf Try.f74))) (loopF (PostF.block 0 (PostF.thenA (wpC Try.prog tab D74 (cAt [1, 1, 1] (bodyOf Try.f74))) (retF tab [.cell 4 30] K))) (fun e h => N1 (e 35) h))))) [42] [AV.any, AV.any, v2, v3, v4, v5, AV.any, v7, AV.any, AV.any, AV.any, AV.any, AV.any, AV.any, AV.any, AV.any, AV.any, AV.any, AV.any, AV.any, AV.any, AV.any, AV.any, AV.any, AV.any, AV.any, AV.any, AV.any, AV.any, AV.any, AV.any, AV.any, AV.any, v33, v34, v35, AV.any, AV.any, AV.any, AV.any, v40, v41, v42, AV.any, AV.any, AV.any, AV.any, AV.any, AV.any, AV.any, AV.any, AV.any, AV.any, AV.any, AV.any, AV.any, AV.any, AV.any, AV.any, AV.any, AV.any, AV.any, AV.any, AV.any, AV.any, AV.any, AV.any, AV.any, AV.any, AV.any, AV.any, AV.any, AV.any, AV.any, AV.any, AV.any, AV.any, AV.any, AV.any, AV.any, AV.any, AV.any, AV.any, AV.any, AV.any, AV.any, AV.any, AV.any, AV.any, AV.any, AV.any, AV.any, AV.any, AV.any, AV.any, AV.any, AV.any, AV.any, AV.any, AV.any, AV.any, AV.any, AV.any, AV.any, AV.any, AV.any, AV.any, AV.any, AV.any, AV.any, AV.any, AV.any, AV.any, AV.any, AV.any, AV.any, AV.any, AV.any, AV.any, AV.any, AV.any, AV.any, AV.any, AV.any, AV.any, AV.any, AV.any, AV.any, AV.any, AV.any, AV.any, AV.any, AV.any, AV.any, AV.any, AV.any, AV.any, AV.any, AV.any, AV.any, AV.any, AV.any, AV.any, AV.any, AV.any, AV.any, AV.any, AV.any, AV.any, AV.any, AV.any, AV.any, AV.any, AV.any, AV.any, AV.any, AV.any, AV.any, AV.any, AV.any, AV.any, AV.any, AV.any, AV.any, AV.any, AV.any, AV.any, AV.any, AV.any, AV.any, AV.any, AV.any, AV.any, AV.any, AV.any, AV.any, AV.any, AV.any, AV.any, AV.any, AV.any, AV.any] H
def B74_1 (K : AV → Heap → Prop) (N1 : AV → Heap → Prop) (N2 : AV → Heap → Prop) (v2 : AV) (v3 : AV) (v4 : AV) (v5 : AV) (v7 : AV) (v33 : AV) (v34 : AV) (v35 : AV) (v40 : AV) (v41 : AV) (v42 : AV) (H : Heap) : Prop :=
 binV tab .lss 3 v42 v41 fun v43 =>
 condV v43 (indexAddrV tab 22 v40 v42 fun v44 =>
 loadV tab 3 v44 H fun v45 =>
 fieldAddrV tab 30 v5 1 fun v46 =>
 loadV tab 22 v46 H fun v47 =>
 fieldAddrV tab 30 v3 0 fun v49 =>
 loadV tab 3 v49 H fun v50 =>
 binV tab .mul 3 v7 v50 fun v51 =>
 binV tab .add 3 v51 v45 fun v53 =>
 buildSliceV tab 22 1 [(0, v53)] H (wkK fun v54 H6 =>
 appendV tab 22 22 v47 v54 H6 (wkK fun v55 H7 =>
 fieldAddrV tab 30 v5 1 fun v56 =>
 storeV tab 22 v56 v55 H7 fun H8 =>
 binV tab .add 3 v42 (AV.p (.int .i64 1)) fun v57 =>
 N2 v57 H8)))
 (binV tab .add 3 v35 (AV.p (.int .i64 1)) fun v58 =>
 N1 v58 H)
def L74_2 (K : AV → Heap → Prop) (v2 : AV) (v3 : AV) (v4 : AV) (v5 : AV) (v60 : AV) (v61 : AV) (v62 : AV) (H : Heap) : Prop := LoopV (wpC Try.prog tab D74 (cAt [1, 1, 1, 0, 1, 0, 0] (bodyOf Try.f74))) [2, 3, 4, 5, 60, 61] (PostF.block 4 (PostF.thenA (wpC Try.prog tab D74 (cAt [1, 1, 1, 1] (bodyOf Try.f74))) (retF tab [.cell 4 30] K))) [62] [AV.any, AV.any, v2, v3, v4, v5, AV.any, AV.any, AV.any, AV.any, AV.any, AV.any, AV.any, AV.any, AV.any, AV.any, AV.any, AV.any, AV.any, AV.any, AV.any, AV.any, AV.any, AV.any, AV.any, AV.any, AV.any, AV.any, AV.any, AV.any, AV.any, AV.any, AV.any, AV.any, AV.any, AV.any, AV.any, AV.any, AV.any, AV.any, AV.any, AV.any, AV.any, AV.any, AV.any, AV.any, AV.any, AV.any, AV.any, AV.any, AV.any, AV.any, AV.any, AV.any, AV.any, AV.any, AV.any, AV.any, AV.any, AV.any, v60, v61, v62, AV.any, AV.any, AV.any, AV.any, AV.any, AV.any, AV.any, AV.any, AV.any, AV.any, AV.any, AV.any, AV.any, AV.any, AV.any, AV.any, AV.any, AV.any, AV.any, AV.any, AV.any, AV.any, AV.any, AV.any, AV.any, AV.any, AV.any, AV.any, AV.any, AV.any, AV.any, AV.any, AV.any, AV.any, AV.any, AV.any, AV.any, AV.any, AV.any, AV.any, AV.any, AV.any, AV.any, AV.any, AV.any, AV.any, AV.any, AV.any, AV.any, AV.any, AV.any, AV.any, AV.any, AV.any, AV.any, AV.any, AV.any, AV.any, AV.any, AV.any, AV.any, AV.any, AV.any, AV.any, AV.any, AV.any, AV.any, AV.any, AV.any, AV.any, AV.any, AV.any, AV.any, AV.any, AV.any, AV.any, AV.any, AV.any, AV.any, AV.any, AV.any, AV.any, AV.any, AV.any, AV.any, AV.any, AV.any, AV.any, AV.any, AV.any, AV.any, AV.any, AV.any, AV.any, AV.any, AV.any, AV.any, AV.any, AV.any, AV.any, AV.any, AV.any, AV.any, AV.any, AV.any, AV.any, AV.any, AV.any, AV.any, AV.any, AV.any, AV.any, AV.any, AV.any, AV.any, AV.any, AV.any, AV.any, AV.any] H
def L74_3 (K : AV → Heap → Prop) (N1 : AV → Heap → Prop) (v2 : AV) (v3 : AV) (v4 : AV) (v5 : AV) (v11 : AV) (v60 : AV) (v61 : AV) (v62 : AV) (v67 : AV) (v68 : AV) (v69 : AV) (H : Heap) : Prop := LoopV (wpC Try.prog tab D74 (cAt [1, 1, 1, 0, 1, 0, 0, 1, 1, 0, 0, 1, 1, 0, 0] (bodyOf Try.f74))) [2, 3, 4, 5, 11, 60, 61, 62, 67, 68] (PostF.block 6 (PostF.block 5 (PostF.thenA (wpC Try.prog tab D74 (cAt [1, 1, 1, 0, 1, 0, 0, 1, 1, 1] (bodyOf Try.f74))) (loopF (PostF.block 4 (PostF.thenA (wpC Try.prog tab D74 (cAt [1, 1, 1, 1] (bodyOf Try.f74))) (retF tab [.cell 4 30] K))) (fun e h => N1 (e 62) h))))) [69] [AV.any, AV.any, v2, v3, v4, v5, AV.any, AV.any, AV.any, AV.any, AV.any, v11, AV.any, AV.any, AV.any, AV.any, AV.any, AV.any, AV.any, AV.any, AV.any, AV.any, AV.any, AV.any, AV.any, AV.any, AV.any, AV.any, AV.any, AV.any, AV.any, AV.any, AV.any, AV.any, AV.any, AV.any, AV.any, AV.any, AV.any, AV.any, AV.any, AV.any, AV.any, AV.any, AV.any, AV.any, AV.any, AV.any, AV.any, AV.any, AV.any, AV.any, AV.any, AV.any, AV.any, AV.any, AV.any, AV.any, AV.any, AV.any, v60, v61, v62, AV.any, AV.any, AV.any, AV.any, v67, v68, v69, AV.any, AV.any, AV.any, AV.any, AV.any, AV.any, AV.any, AV.any, AV.any, AV.any, AV.any, AV.any, AV.any, AV.any, AV.any, AV.any, AV.any, AV.any, AV.any, AV.any, AV.any, AV.any, AV.any, AV.any, AV.any, AV.any, AV.any, AV.any, AV.any, AV.any, AV.any, AV.any, AV.any, AV.any, AV.any, AV.any, AV.any, AV.any, AV.any, AV.any, AV.any, AV.any, AV.any, AV.any, AV.any, AV.any, AV.any, AV.any, AV.any, AV.any, AV.any, AV.any, AV.any, AV.any, AV.any, AV.any, AV.any, AV.any, AV.any, AV.any, AV.any, AV.any, AV.any, AV.any, AV.any, AV.any, AV.any, AV.any, AV.any, AV.any, AV.any, AV.any, AV.any, AV.any, AV.any, AV.any, AV.any, AV.any, AV.any, AV.any, AV.any, AV.any, AV.any, AV.any, AV.any, AV.any, AV.any, AV.any, AV.any, AV.any, AV.any, AV.any, AV.any, AV.any, AV.any, AV.any, AV.any, AV.any, AV.any, AV.any, AV.any, AV.any, AV.any, AV.any, AV.any, AV.any, AV.any, AV.any, AV.any, AV.any, AV.any, AV.any] H
def B74_3 (K : AV → Heap → Prop) (N1 : AV → Heap → Prop) (N2 : AV → Heap → Prop) (v2 : AV) (v3 : AV) (v4 : AV) (v5 : AV) (v11 : AV) (v60 : AV) (v61 : AV) (v62 : AV) (v67 : AV) (v68 : AV) (v69 : AV) (H : Heap) : Prop :=
 binV tab .lss 3 v69 v68 fun v70 =>
 condV v70 (indexAddrV tab 28 v67 v69 fun v71 =>
 loadV tab 61 v71 H fun v72 =>
 allocV tab 61 H fun v13 H11 =>
 storeV tab 61 v13 v72 H11 fun H12 =>
 fieldAddrV tab 61 v11 1 fun v73 =>
 loadV tab 3 v73 H12 fun v74 =>
 fieldAddrV tab 61 v13 1 fun v75 =>
 loadV tab 3 v75 H12 fun v76 =>
 binV tab .eql 3 v74 v76 fun v77 =>
 condV v77 (fieldAddrV tab 30 v5 2 fun v78 =>
 loadV tab 28 v78 H12 fun v79 =>
 fieldAddrV tab 61 v11 0 fun v80 =>
 loadV tab 3 v80 H12 fun v81 =>
 fieldAddrV tab 30 v3 0 fun v82 =>
 loadV tab 3 v82 H12 fun v83 =>
 binV tab .mul 3 v81 v83 fun v84 =>
 fieldAddrV tab 61 v13 0 fun v85 =>
 loadV tab 3 v85 H12 fun v86 =>
 binV tab .add 3 v84 v86 fun v87 =>
 fieldAddrV tab 61 v11 1 fun v88 =>
 loadV tab 3 v88 H12 fun v89 =>
 fieldAddrV tab 61 v11 2 fun v90 =>
 loadV tab 3 v90 H12 fun v91 =>
 fieldAddrV tab 30 v3 0 fun v92 =>
 loadV tab 3 v92 H12 fun v93 =>
 binV tab .mul 3 v91 v93 fun v94 =>
 fieldAddrV tab 61 v13 2 fun v95 =>
 loadV tab 3 v95 H12 fun v96 =>
 binV tab .add 3 v94 v96 fun v97 =>
 buildV tab 61 [(0, v87), (1, v89), (2, v97)] fun v98 =>
 buildSliceV tab 28 1 [(0, v98)] H12 (wkK fun v99 H13 =>
 appendV tab 28 28 v79 v99 H13 (wkK fun v100 H14 =>
 fieldAddrV tab 30 v5 2 fun v101 =>
 storeV tab 28 v101 v100 H14 fun H15 =>
 binV tab .add 3 v69 (AV.p (.int .i64 1)) fun v102 =>
 N2 v102 H15)))
 (binV tab .add 3 v69 (AV.p (.int .i64 1)) fun v102 =>
 N2 v102 H12))
 (binV tab .add 3 v62 (AV.p (.int .i64 1)) fun v103 =>
 N1 v103 H)
def L74_4 (K : AV → Heap → Prop) (v2 : AV) (v3 : AV) (v4 : AV) (v5 : AV) (v108 : AV) (v109 : AV) (v110 : AV) (H : Heap) : Prop := LoopV (wpC Try.prog tab D74 (cAt [1, 1, 1, 1, 1, 0, 1, 0, 0] (bodyOf Try.f74))) [2, 3, 4, 5, 108, 109] (PostF.block 8 (PostF.thenA (wpC Try.prog tab D74 (cAt [1, 1, 1, 1, 1, 1] (bodyOf Try.f74))) (retF tab [.cell 4 30] K))) [110] [AV.any, AV.any, v2, v3, v4, v5, AV.any, AV.any, AV.any, AV.any, AV.any, AV.any, AV.any, AV.any, AV.any, AV.any, AV.any, AV.any, AV.any, AV.any, AV.any, AV.any, AV.any, AV.any, AV.any, AV.any, AV.any, AV.any, AV.any, AV.any, AV.any, AV.any, AV.any, AV.any, AV.any, AV.any, AV.any, AV.any, AV.any, AV.any, AV.any, AV.any, AV.any, AV.any, AV.any, AV.any, AV.any, AV.any, AV.any, AV.any, AV.any, AV.any, AV.any, AV.any, AV.any, AV.any, AV.any, AV.any, AV.any, AV.any, AV.any, AV.any, AV.any, AV.any, AV.any, AV.any, AV.any, AV.any, AV.any, AV.any, AV.any, AV.any, AV.any, AV.any, AV.any, AV.any, AV.any, AV.any, AV.any, AV.any, AV.any, AV.any, AV.any, AV.any, AV.any, AV.any, AV.any, AV.any, AV.any, AV.any, AV.any, AV.any, AV.any, AV.any, AV.any, AV.any, AV.any, AV.any, AV.any, AV.any, AV.any, AV.any, AV.any, AV.any, AV.any, AV.any, AV.any, AV.any, v108, v109, v110, AV.any, AV.any, AV.any, AV.any, AV.any, AV.any, AV.any, AV.any, AV.any, AV.any, AV.any, AV.any, AV.any, AV.any, AV.any, AV.any, AV.any, AV.any, AV.any, AV.any, AV.any, AV.any, AV.any, AV.any, AV.any, AV.any, AV.any, AV.any, AV.any, AV.any, AV.any, AV.any, AV.any, AV.any, AV.any, AV.any, AV.any, AV.any, AV.any, AV.any, AV.any, AV.any, AV.any, AV.any, AV.any, AV.any, AV.any, AV.any, AV.any, AV.any, AV.any, AV.any, AV.any, AV.any, AV.any, AV.any, AV.any, AV.any, AV.any, AV.any, AV.any, AV.any, AV.any, AV.any, AV.any, AV.any, AV.any, AV.any, AV.any, AV.any, AV.any] H
def L74_5 (K : AV → Heap → Prop) (N1 : AV → Heap → Prop) (v2 : AV) (v3 : AV) (v4 : AV) (v5 : AV) (v16 : AV) (v108 : AV) (v109 : AV) (v110 : AV) (v115 : AV) (v116 : AV) (v117 : AV) (H : Heap) : Prop := LoopV (wpC Try.prog tab D74 (cAt [1, 1, 1, 1, 1, 0, 1, 0, 0, 1, 1, 0, 0, 1, 1, 0, 1, 0, 0] (bodyOf Try.f74))) [2, 3, 4, 5, 108, 109, 110, 115, 116] (PostF.block 10 (PostF.thenA (wpC Try.prog tab D74 (cAt [1, 1, 1, 1, 1, 0, 1, 0, 0, 1, 1, 0, 0, 1, 1, 1] (bodyOf Try.f74))) (PostF.block 9 (PostF.thenA (wpC Try.prog tab D74 (cAt [1, 1, 1, 1, 1, 0, 1, 0, 0, 1, 1, 1] (bodyOf Try.f74))) (loopF (PostF.block 8 (PostF.thenA (wpC Try.prog tab D74 (cAt [1, 1, 1, 1, 1, 1] (bodyOf Try.f74))) (retF tab [.cell 4 30] K))) (fun e h => N1 (e 110) h)))))) [16, 117] [AV.any, AV.any, v2, v3, v4, v5, AV.any, AV.any, AV.any, AV.any, AV.any, AV.any, AV.any, AV.any, AV.any, AV.any, v16, AV.any, AV.any, AV.any, AV.any, AV.any, AV.any, AV.any, AV.any, AV.any, AV.any, AV.any, AV.any, AV.any, AV.any, AV.any, AV.any, AV.any, AV.any, AV.any, AV.any, AV.any, AV.any, AV.any, AV.any, AV.any, AV.any, AV.any, AV.any, AV.any, AV.any, AV.any, AV.any, AV.any, AV.any, AV.any, AV.any, AV.any, AV.any, AV.any, AV.any, AV.any, AV.any, AV.any, AV.any, AV.any, AV.any, AV.any, AV.any, AV.any, AV.any, AV.any, AV.any, AV.any, AV.any, AV.any, AV.any, AV.any, AV.any, AV.any, AV.any, AV.any, AV.any, AV.any, AV.any, AV.any, AV.any, AV.any, AV.any, AV.any, AV.any, AV.any, AV.any, AV.any, AV.any, AV.any, AV.any, AV.any, AV.any, AV.any, AV.any, AV.any, AV.any, AV.any, AV.any, AV.any, AV.any, AV.any, AV.any, AV.any, AV.any, AV.any, v108, v109, v110, AV.any, AV.any, AV.any, AV.any, v115, v116, v117, AV.any, AV.any, AV.any, AV.any, AV.any, AV.any, AV.any, AV.any, AV.any, AV.any, AV.any, AV.any, AV.any, AV.any, AV.any, AV.any, AV.any, AV.any, AV.any, AV.any, AV.any, AV.any, AV.any, AV.any, AV.any, AV.any, AV.any, AV.any, AV.any, AV.any, AV.any, AV.any, AV.any, AV.any, AV.any, AV.any, AV.any, AV.any, AV.any, AV.any, AV.any, AV.any, AV.any, AV.any, AV.any, AV.any, AV.any, AV.any, AV.any, AV.any, AV.any, AV.any, AV.any, AV.any, AV.any, AV.any, AV.any, AV.any, AV.any, AV.any, AV.any, AV.any, AV.any, AV.any] H
def L74_6 (K : AV → Heap → Prop) (N1 : AV → Heap → Prop) (N2 : AV → AV → Heap → Prop) (v2 : AV) (v3 : AV) (v4 : AV) (v5 : AV) (v16 : AV) (v18 : AV) (v108 : AV) (v109 : AV) (v110 : AV) (v115 : AV) (v116 : AV) (v117 : AV) (v122 : AV) (v123 : AV) (H : Heap) : Prop := LoopV (wpC Try.prog tab D74 (cAt [1, 1, 1, 1, 1, 0, 1, 0, 0, 1, 1, 0, 0, 1, 1, 0, 1, 0, 0, 1, 1, 0, 0, 1, 1, 0, 0] (bodyOf Try.f74))) [2, 3, 4, 5, 18, 108, 109, 110, 115, 116, 117, 122] (PostF.block 12 (PostF.block 11 (PostF.thenA (wpC Try.prog tab D74 (cAt [1, 1, 1, 1, 1, 0, 1, 0, 0, 1, 1, 0, 0, 1, 1, 0, 1, 0, 0, 1, 1, 1] (bodyOf Try.f74))) (loopF (PostF.block 10 (PostF.thenA (wpC Try.prog tab D74 (cAt [1, 1, 1, 1, 1, 0, 1, 0, 0, 1, 1, 0, 0, 1, 1, 1] (bodyOf Try.f74))) (PostF.block 9 (PostF.thenA (wpC Try.prog tab D74 (cAt [1, 1, 1, 1, 1, 0, 1, 0, 0, 1, 1, 1] (bodyOf Try.f74))) (loopF (PostF.block 8 (PostF.thenA (wpC Try.prog tab D74 (cAt [1, 1, 1, 1, 1, 1] (bodyOf Try.f74))) (retF tab [.cell 4 30] K))) (fun e h => N1 (e 110) h)))))) (fun e h => N2 (e 16) (e 117) h))))) [16, 123] [AV.any, AV.any, v2, v3, v4, v5, AV.any, AV.any, AV.any, AV.any, AV.any, AV.any, AV.any, AV.any, AV.any, AV.any, v16, AV.any, v18, AV.any, AV.any, AV.any, AV.any, AV.any, AV.any, AV.any, AV.any, AV.any, AV.any, AV.any, AV.any, AV.any, AV.any, AV.any, AV.any, AV.any, AV.any, AV.any, AV.any, AV.any, AV.any, AV.any, AV.any, AV.any, AV.any, AV.any, AV.any, AV.any, AV.any, AV.any, AV.any, AV.any, AV.any, AV.any, AV.any, AV.any, AV.any, AV.any, AV.any, AV.any, AV.any, AV.any, AV.any, AV.any, AV.any, AV.any, AV.any, AV.any, AV.any, AV.any, AV.any, AV.any, AV.any, AV.any, AV.any, AV.any, AV.any, AV.any, AV.any, AV.any, AV.any, AV.any, AV.any, AV.any, AV.any, AV.any, AV.any, AV.any, AV.any, AV.any, AV.any, AV.any, AV.any, AV.any, AV.any, AV.any, AV.any, AV.any, AV.any, AV.any, AV.any, AV.any, AV.any, AV.any, AV.any, AV.any, AV.any, AV.any, v108, v109, v110, AV.any, AV.any, AV.any, AV.any, v115, v116, v117, AV.any, AV.any, AV.any, AV.any, v122, v123, AV.any, AV.any, AV.any, AV.any, AV.any, AV.any, AV.any, AV.any, AV.any, AV.any, AV.any, AV.any, AV.any, AV.any, AV.any, AV.any, AV.any, AV.any, AV.any, AV.any, AV.any, AV.any, AV.any, AV.any, AV.any, AV.any, AV.any, AV.any, AV.any, AV.any, AV.any, AV.any, AV.any, AV.any, AV.any, AV.any, AV.any, AV.any, AV.any, AV.any, AV.any, AV.any, AV.any, AV.any, AV.any, AV.any, AV.any, AV.any, AV.any, AV.any, AV.any, AV.any, AV.any, AV.any, AV.any, AV.any, AV.any, AV.any] H
def B74_6 (K : AV → Heap → Prop) (N1 : AV → Heap → Prop) (N2 : AV → AV → Heap → Prop) (N3 : AV → AV → Heap → Prop) (v2 : AV) (v3 : AV) (v4 : AV) (v5 : AV) (v16 : AV) (v18 : AV) (v108 : AV) (v109 : AV) (v110 : AV) (v115 : AV) (v116 : AV) (v117 : AV) (v122 : AV) (v123 : AV) (H : Heap) : Prop :=
 binV tab .lss 3 v123 v122 fun v124 =>
 condV v124 (fieldAddrV tab 30 v3 0 fun v128 =>
 loadV tab 3 v128 H fun v129 =>
 binV tab .mul 3 v18 v129 fun v130 =>
 binV tab .add 3 v130 v123 fun v132 =>
 buildSliceV tab 22 1 [(0, v132)] H (wkK fun v133 H18 =>
 appendV tab 22 22 v16 v133 H18 (wkK fun v134 H19 =>
 binV tab .add 3 v123 (AV.p (.int .i64 1)) fun v135 =>
 N3 v134 v135 H19)))
 (binV tab .add 3 v117 (AV.p (.int .i64 1)) fun v136 =>
 N2 v16 v136 H)
def B74_5 (K : AV → Heap → Prop) (N1 : AV → Heap → Prop) (N2 : AV → AV → Heap → Prop) (v2 : AV) (v3 : AV) (v4 : AV) (v5 : AV) (v16 : AV) (v108 : AV) (v109 : AV) (v110 : AV) (v115 : AV) (v116 : AV) (v117 : AV) (H : Heap) : Prop :=
 binV tab .lss 3 v117 v116 fun v118 =>
 condV v118 (indexAddrV tab 22 v115 v117 fun v119 =>
 loadV tab 3 v119 H fun v120 =>
 fieldAddrV tab 30 v3 0 fun v121 =>
 loadV tab 3 v121 H fun v122 =>
 L74_6 K N1 N2 v2 v3 v4 v5 v16 v120 v108 v109 v110 v115 v116 v117 v122 (AV.p (.int .i64 0)) H)
 (fieldAddrV tab 30 v5 3 fun v137 =>
 loadV tab 24 v137 H fun v138 =>
 buildSliceV tab 24 1 [(0, v16)] H (wkK fun v140 H20 =>
 appendV tab 24 24 v138 v140 H20 (wkK fun v141 H21 =>
 fieldAddrV tab 30 v5 3 fun v142 =>
 storeV tab 24 v142 v141 H21 fun H22 =>
 binV tab .add 3 v110 (AV.p (.int .i64 1)) fun v143 =>
 N1 v143 H22)))
def L74_7 (K : AV → Heap → Prop) (v2 : AV) (v3 : AV) (v4 : AV) (v5 : AV) (v145 : AV) (v146 : AV) (v147 : AV) (H : Heap) : Prop := LoopV (wpC Try.prog tab D74 (cAt [1, 1, 1, 1, 1, 1, 0, 1, 0, 0] (bodyOf Try.f74))) [2, 3, 4, 5, 145, 146] (PostF.block 14 (PostF.thenA (wpC Try.prog tab D74 (cAt [1, 1, 1, 1, 1, 1, 1] (bodyOf Try.f74))) (retF tab [.cell 4 30] K))) [147] [AV.any, AV.any, v2, v3, v4, v5, AV.any, AV.any, AV.any, AV.any, AV.any, AV.any, AV.any, AV.any, AV.any, AV.any, AV.any, AV.any, AV.any, AV.any, AV.any, AV.any, AV.any, AV.any, AV.any, AV.any, AV.any, AV.any, AV.any, AV.any, AV.any, AV.any, AV.any, AV.any, AV.any, AV.any, AV.any, AV.any, AV.any, AV.any, AV.any, AV.any, AV.any, AV.any, AV.any, AV.any, AV.any, AV.any, AV.any, AV.any, AV.any, AV.any, AV.any, AV.any, AV.any, AV.any, AV.any, AV.any, AV.any, AV.any, AV.any, AV.any, AV.any, AV.any, AV.any, AV.any, AV.any, AV.any, AV.any, AV.any, AV.any, AV.any, AV.any, AV.any, AV.any, AV.any, AV.any, AV.any, AV.any, AV.any, AV.any, AV.any, AV.any, AV.any, AV.any, AV.any, AV.any, AV.any, AV.any, AV.any, AV.any, AV.any, AV.any, AV.any, AV.any, AV.any, AV.any, AV.any, AV.any, AV.any, AV.any, AV.any, AV.any, AV.any, AV.any, AV.any, AV.any, AV.any, AV.any, AV.any, AV.any, AV.any, AV.any, AV.any, AV.any, AV.any, AV.any, AV.any, AV.any, AV.any, AV.any, AV.any, AV.any, AV.any, AV.any, AV.any, AV.any, AV.any, AV.any, AV.any, AV.any, AV.any, AV.any, AV.any, AV.any, AV.any, AV.any, AV.any, AV.any, AV.any, AV.any, AV.any, AV.any, AV.any, AV.any, v145, v146, v147, AV.any, AV.any, AV.any, AV.any, AV.any, AV.any, AV.any, AV.any, AV.any, AV.any, AV.any, AV.any, AV.any, AV.any, AV.any, AV.any, AV.any, AV.any, AV.any, AV.any, AV.any, AV.any, AV.any, AV.any, AV.any, AV.any, AV.any, AV.any, AV.any, AV.any, AV.any, AV.any, AV.any, AV.any] H
def L74_8 (K : AV → Heap → Prop) (N1 : AV → Heap → Prop) (v2 : AV) (v3 : AV) (v4 : AV) (v5 : AV) (v21 : AV) (v22 : AV) (v145 : AV) (v146 : AV) (v147 : AV) (v153 : AV) (v154 : AV) (H : Heap) : Prop := LoopV (wpC Try.prog tab D74 (cAt [1, 1, 1, 1, 1, 1, 0, 1, 0, 0, 1, 1, 0, 0, 1, 1, 0, 1, 0, 0] (bodyOf Try.f74))) [2, 3, 4, 5, 21, 145, 146, 147, 153] (PostF.block 16 (PostF.thenA (wpC Try.prog tab D74 (cAt [1, 1, 1, 1, 1, 1, 0, 1, 0, 0, 1, 1, 0, 0, 1, 1, 1] (bodyOf Try.f74))) (PostF.block 15 (PostF.thenA (wpC Try.prog tab D74 (cAt [1, 1, 1, 1, 1, 1, 0, 1, 0, 0, 1, 1, 1] (bodyOf Try.f74))) (loopF (PostF.block 14 (PostF.thenA (wpC Try.prog tab D74 (cAt [1, 1, 1, 1, 1, 1, 1] (bodyOf Try.f74))) (retF tab [.cell 4 30] K))) (fun e h => N1 (e 147) h)))))) [22, 154] [AV.any, AV.any, v2, v3, v4, v5, AV.any, AV.any, AV.any, AV.any, AV.any, AV.any, AV.any, AV.any, AV.any, AV.any, AV.any, AV.any, AV.any, AV.any, AV.any, v21, v22, AV.any, AV.any, AV.any, AV.any, AV.any, AV.any, AV.any, AV.any, AV.any, AV.any, AV.any, AV.any, AV.any, AV.any, AV.any, AV.any, AV.any, AV.any, AV.any, AV.any, AV.any, AV.any, AV.any, AV.any, AV.any, AV.any, AV.any, AV.any, AV.any, AV.any, AV.any, AV.any, AV.any, AV.any, AV.any, AV.any, AV.any, AV.any, AV.any, AV.any, AV.any, AV.any, AV.any, AV.any, AV.any, AV.any, AV.any, AV.any, AV.any, AV.any, AV.any, AV.any, AV.any, AV.any, AV.any, AV.any, AV.any, AV.any, AV.any, AV.any, AV.any, AV.any, AV.any, AV.any, AV.any, AV.any, AV.any, AV.any, AV.any, AV.any, AV.any, AV.any, AV.any, AV.any, AV.any, AV.any, AV.any, AV.any, AV.any, AV.any, AV.any, AV.any, AV.any, AV.any, AV.any, AV.any, AV.any, AV.any, AV.any, AV.any, AV.any, AV.any, AV.any, AV.any, AV.any, AV.any, AV.any, AV.any, AV.any, AV.any, AV.any, AV.any, AV.any, AV.any, AV.any, AV.any, AV.any, AV.any, AV.any, AV.any, AV.any, AV.any, AV.any, AV.any, AV.any, AV.any, AV.any, AV.any, AV.any, AV.any, AV.any, AV.any, v145, v146, v147, AV.any, AV.any, AV.any, AV.any, AV.any, v153, v154, AV.any, AV.any, AV.any, AV.any, AV.any, AV.any, AV.any, AV.any, AV.any, AV.any, AV.any, AV.any, AV.any, AV.any, AV.any, AV.any, AV.any, AV.any, AV.any, AV.any, AV.any, AV.any, AV.any, AV.any, AV.any, AV.any, AV.any] H
def L74_9 (K : AV → Heap → Prop) (N1 : AV → Heap → Prop) (N2 : AV → AV → Heap → Prop) (v2 : AV) (v3 : AV) (v4 : AV) (v5 : AV) (v21 : AV) (v22 : AV) (v23 : AV) (v145 : AV) (v146 : AV) (v147 : AV) (v153 : AV) (v154 : AV) (v157 : AV) (v158 : AV) (v159 : AV) (H : Heap) : Prop := LoopV (wpC Try.prog tab D74 (cAt [1, 1, 1, 1, 1, 1, 0, 1, 0, 0, 1, 1, 0, 0, 1, 1, 0, 1, 0, 0, 1, 1, 0, 0, 1, 1, 0, 0] (bodyOf Try.f74))) [2, 3, 4, 5, 21, 23, 145, 146, 147, 153, 154, 157, 158] (PostF.block 18 (PostF.block 17 (PostF.thenA (wpC Try.prog tab D74 (cAt [1, 1, 1, 1, 1, 1, 0, 1, 0, 0, 1, 1, 0, 0, 1, 1, 0, 1, 0, 0, 1, 1, 1] (bodyOf Try.f74))) (loopF (PostF.block 16 (PostF.thenA (wpC Try.prog tab D74 (cAt [1, 1, 1, 1, 1, 1, 0, 1, 0, 0, 1, 1, 0, 0, 1, 1, 1] (bodyOf Try.f74))) (PostF.block 15 (PostF.thenA (wpC Try.prog tab D74 (cAt [1, 1, 1, 1, 1, 1, 0, 1, 0, 0, 1, 1, 1] (bodyOf Try.f74))) (loopF (PostF.block 14 (PostF.thenA (wpC Try.prog tab D74 (cAt [1, 1, 1, 1, 1, 1, 1] (bodyOf Try.f74))) (retF tab [.cell 4 30] K))) (fun e h => N1 (e 147) h)))))) (fun e h => N2 (e 22) (e 154) h))))) [22, 159] [AV.any, AV.any, v2, v3, v4, v5, AV.any, AV.any, AV.any, AV.any, AV.any, AV.any, AV.any, AV.any, AV.any, AV.any, AV.any, AV.any, AV.any, AV.any, AV.any, v21, v22, v23, AV.any, AV.any, AV.any, AV.any, AV.any, AV.any, AV.any, AV.any, AV.any, AV.any, AV.any, AV.any, AV.any, AV.any, AV.any, AV.any, AV.any, AV.any, AV.any, AV.any, AV.any, AV.any, AV.any, AV.any, AV.any, AV.any, AV.any, AV.any, AV.any, AV.any, AV.any, AV.any, AV.any, AV.any, AV.any, AV.any, AV.any, AV.any, AV.any, AV.any, AV.any, AV.any, AV.any, AV.any, AV.any, AV.any, AV.any, AV.any, AV.any, AV.any, AV.any, AV.any, AV.any, AV.any, AV.any, AV.any, AV.any, AV.any, AV.any, AV.any, AV.any, AV.any, AV.any, AV.any, AV.any, AV.any, AV.any, AV.any, AV.any, AV.any, AV.any, AV.any, AV.any, AV.any, AV.any, AV.any, AV.any, AV.any, AV.any, AV.any, AV.any, AV.any, AV.any, AV.any, AV.any, AV.any, AV.any, AV.any, AV.any, AV.any, AV.any, AV.any, AV.any, AV.any, AV.any, AV.any, AV.any, AV.any, AV.any, AV.any, AV.any, AV.any, AV.any, AV.any, AV.any, AV.any, AV.any, AV.any, AV.any, AV.any, AV.any, AV.any, AV.any, AV.any, AV.any, AV.any, AV.any, AV.any, AV.any, AV.any, AV.any, v145, v146, v147, AV.any, AV.any, AV.any, AV.any, AV.any, v153, v154, AV.any, AV.any, v157, v158, v159, AV.any, AV.any, AV.any, AV.any, AV.any, AV.any, AV.any, AV.any, AV.any, AV.any, AV.any, AV.any, AV.any, AV.any, AV.any, AV.any, AV.any, AV.any, AV.any, AV.any, AV.any, AV.any] H
def B74_9 (K : AV → Heap → Prop) (N1 : AV → Heap → Prop) (N2 : AV → AV → Heap → Prop) (N3 : AV → AV → Heap → Prop) (v2 : AV) (v3 : AV) (v4 : AV) (v5 : AV) (v21 : AV) (v22 : AV) (v23 : AV) (v145 : AV) (v146 : AV) (v147 : AV) (v153 : AV) (v154 : AV) (v157 : AV) (v158 : AV) (v159 : AV) (H : Heap) : Prop :=
 binV tab .lss 3 v159 v158 fun v160 =>
 condV v160 (indexAddrV tab 22 v157 v159 fun v161 =>
 loadV tab 3 v161 H fun v162 =>
 fieldAddrV tab 30 v3 0 fun v165 =>
 loadV tab 3 v165 H fun v166 =>
 binV tab .mul 3 v23 v166 fun v167 =>
 binV tab .add 3 v167 v162 fun v169 =>
 buildSliceV tab 22 1 [(0, v169)] H (wkK fun v170 H24 =>
 appendV tab 22 22 v22 v170 H24 (wkK fun v171 H25 =>
 binV tab .add 3 v159 (AV.p (.int .i64 1)) fun v172 =>
 N3 v171 v172 H25)))
 (binV tab .add 3 v154 (AV.p (.int .i64 1)) fun v173 =>
 N2 v22 v173 H)
def B74_8 (K : AV → Heap → Prop) (N1 : AV → Heap → Prop) (N2 : AV → AV → Heap → Prop) (v2 : AV) (v3 : AV) (v4 : AV) (v5 : AV) (v21 : AV) (v22 : AV) (v145 : AV) (v146 : AV) (v147 : AV) (v153 : AV) (v154 : AV) (H : Heap) : Prop :=
 binV tab .lss 3 v154 v153 fun v155 =>
 condV v155 (lenV tab 22 v21 fun v158 =>
 L74_9 K N1 N2 v2 v3 v4 v5 v21 v22 v154 v145 v146 v147 v153 v154 v21 v158 (AV.p (.int .i64 0)) H)
 (fieldAddrV tab 30 v5 3 fun v174 =>
 loadV tab 24 v174 H fun v175 =>
 buildSliceV tab 24 1 [(0, v22)] H (wkK fun v177 H26 =>
 appendV tab 24 24 v175 v177 H26 (wkK fun v178 H27 =>
 fieldAddrV tab 30 v5 3 fun v179 =>
 storeV tab 24 v179 v178 H27 fun H28 =>
 binV tab .add 3 v147 (AV.p (.int .i64 1)) fun v180 =>
 N1 v180 H28)))
def B74_7 (K : AV → Heap → Prop) (N1 : AV → Heap → Prop) (v2 : AV) (v3 : AV) (v4 : AV) (v5 : AV) (v145 : AV) (v146 : AV) (v147 : AV) (H : Heap) : Prop :=
 binV tab .lss 3 v147 v146 fun v148 =>
 condV v148 (indexAddrV tab 24 v145 v147 fun v149 =>
 loadV tab 22 v149 H fun v150 =>
 buildSliceV tab 22 0 [] H (wkK fun v151 H23 =>
 fieldAddrV tab 30 v2 0 fun v152 =>
 loadV tab 3 v152 H23 fun v153 =>
 L74_8 K N1 v2 v3 v4 v5 v150 v151 v145 v146 v147 v153 (AV.p (.int .i64 0)) H23))
 (loadV tab 30 v5 H fun v181 =>
 storeV tab 30 v4 v181 H fun H29 =>
 loadV tab 30 v4 H29 fun r0 =>
 K r0 H29)
def B74_4 (K : AV → Heap → Prop) (N1 : AV → Heap → Prop) (v2 : AV) (v3 : AV) (v4 : AV) (v5 : AV) (v108 : AV) (v109 : AV) (v110 : AV) (H : Heap) : Prop :=
 binV tab .lss 3 v110 v109 fun v111 =>
 condV v111 (indexAddrV tab 24 v108 v110 fun v112 =>
 loadV tab 22 v112 H fun v113 =>
 buildSliceV tab 22 0 [] H (wkK fun v114 H17 =>
 lenV tab 22 v113 fun v116 =>
 L74_5 K N1 v2 v3 v4 v5 v114 v108 v109 v110 v113 v116 (AV.p (.int .i64 0)) H17))
 (fieldAddrV tab 30 v3 3 fun v144 =>
 loadV tab 24 v144 H fun v145 =>
 lenV tab 24 v145 fun v146 =>
 L74_7 K v2 v3 v4 v5 v145 v146 (AV.p (.int .i64 0)) H)
def B74_2 (K : AV → Heap → Prop) (N1 : AV → Heap → Prop) (v2 : AV) (v3 : AV) (v4 : AV) (v5 : AV) (v60 : AV) (v61 : AV) (v62 : AV) (H : Heap) : Prop :=
 binV tab .lss 3 v62 v61 fun v63 =>
 condV v63 (indexAddrV tab 28 v60 v62 fun v64 =>
 loadV tab 61 v64 H fun v65 =>
 allocV tab 61 H fun v11 H9 =>
 storeV tab 61 v11 v65 H9 fun H10 =>
 fieldAddrV tab 30 v3 2 fun v66 =>
 loadV tab 28 v66 H10 fun v67 =>
 lenV tab 28 v67 fun v68 =>
 L74_3 K N1 v2 v3 v4 v5 v11 v60 v61 v62 v67 v68 (AV.p (.int .i64 0)) H10)
 (fieldAddrV tab 30 v5 2 fun v104 =>
 loadV tab 28 v104 H fun v105 =>
 CallT Try.prog 100 [v105, (.fn 83 [])] H fun v106 H16 =>
 fieldAddrV tab 30 v2 3 fun v107 =>
 loadV tab 24 v107 H16 fun v108 =>
 lenV tab 24 v108 fun v109 =>
 L74_4 K v2 v3 v4 v5 v108 v109 (AV.p (.int .i64 0)) H16)
def B74_0 (K : AV → Heap → Prop) (N1 : AV → Heap → Prop) (v2 : AV) (v3 : AV) (v4 : AV) (v5 : AV) (v33 : AV) (v34 : AV) (v35 : AV) (H : Heap) : Prop :=
 binV tab .lss 3 v35 v34 fun v36 =>
 condV v36 (indexAddrV tab 22 v33 v35 fun v37 =>
 loadV tab 3 v37 H fun v38 =>
 fieldAddrV tab 30 v3 1 fun v39 =>
 loadV tab 22 v39 H fun v40 =>
 lenV tab 22 v40 fun v41 =>
 L74_1 K N1 v2 v3 v4 v5 v38 v33 v34 v35 v40 v41 (AV.p (.int .i64 0)) H)
 (fieldAddrV tab 30 v2 2 fun v59 =>
 loadV tab 28 v59 H fun v60 =>
 lenV tab 28 v60 fun v61 =>
 L74_2 K v2 v3 v4 v5 v60 v61 (AV.p (.int .i64 0)) H)
def W74 (v0 : AV) (v1 : AV) (H : Heap) (K : AV → Heap → Prop) : Prop :=
 boxV v0 H fun v2 H1 =>
 boxV v1 H1 fun v3 H2 =>
 allocV tab 30 H2 fun v4 H3 =>
 fieldAddrV tab 30 v2 0 fun v26 =>
 loadV tab 3 v26 H3 fun v27 =>
 fieldAddrV tab 30 v3 0 fun v28 =>
 loadV tab 3 v28 H3 fun v29 =>
 binV tab .mul 3 v27 v29 fun v30 =>
 buildV tab 30 [(0, v30)] fun v31 =>
 allocV tab 30 H3 fun v5 H4 =>
 storeV tab 30 v5 v31 H4 fun H5 =>
 fieldAddrV tab 30 v2 1 fun v32 =>
 loadV tab 22 v32 H5 fun v33 =>
 lenV tab 22 v33 fun v34 =>
 L74_0 K v2 v3 v4 v5 v33 v34 (AV.p (.int .i64 0)) H5
theorem W74_wp (v0 : AV) (v1 : AV) (H : Heap) (K : AV → Heap → Prop) : wpC Try.prog tab D74 (bodyOf Try.f74) (retF tab [.cell 4 30] K) (nthA [v0, v1]) H = W74 v0 v1 H K := by kernel_rfl
theorem W74_ok {v0 v1 : AV} {H : Heap} {K : AV → Heap → Prop} (h : W74 v0 v1 H K) : CallT Try.prog 74 [v0, v1] H K :=
  CallT.of_wp (D := D74) tab_ok mixed Try.func74 (c := bodyOf Try.f74) (by kernel_rfl) rfl (by kernel_rfl) (rs := #[.cell 4 30]) rfl (by decide +kernel) (by kernel_rfl) (W74_wp v0 v1 H K) h
theorem W74_hb : HasBody Try.prog 74 := ⟨_, bodyOf Try.f74, Try.func74, by kernel_rfl, rfl⟩
theorem L74_1_rule {K : AV → Heap → Prop} {N1 : AV → Heap → Prop} {v2 v3 v4 v5 v7 v33 v34 v35 v40 v41 v42 : AV} {H : Heap} {σ : Type} (s0 : σ) (f42 : σ → AV) (TH : σ → Heap) (pre : σ → Prop) (μ : σ → Nat)
    (h0 : pre s0 ∧ AV.wk v42 (f42 s0) ∧ Heap.le (TH s0) H)
    (round : ∀ s, pre s → B74_1 K N1 (fun w42 H' => ∃ s', pre s' ∧ μ s' < μ s ∧ AV.wk w42 (f42 s') ∧ Heap.le (TH s') H') v2 v3 v4 v5 v7 v33 v34 v35 v40 v41 (f42 s) (TH s)) :
    L74_1 K N1 v2 v3 v4 v5 v7 v33 v34 v35 v40 v41 v42 H := by
  unfold L74_1
  exact LoopV.mk s0 (fun s => [f42 s]) TH pre μ (fun _ => rfl) (Eq.mp (by kernel_rfl) h0) (fun s hs => Eq.mp (by kernel_rfl) (round s hs))
theorem L74_1_ruleG {K : AV → Heap → Prop} {N1 : AV → Heap → Prop} {v2 v3 v4 v5 v7 v33 v34 v35 v40 v41 v42 : AV} {H : Heap} {σ : Type} (s0 : σ) (f42 : σ → AV) (TH : σ → Heap) (pre : σ → Prop) (μ : σ → Nat)
    (h0 : pre s0 ∧ AV.wk v42 (f42 s0) ∧ Heap.le (TH s0) H)
    (round : ∀ s, pre s → ∀ q, TH s q = none → B74_1 K N1 (fun w42 H' => ∃ s', pre s' ∧ μ s' < μ s ∧ AV.wk w42 (f42 s') ∧ Heap.le (TH s') H') v2 v3 v4 v5 v7 v33 v34 v35 v40 v41 (f42 s) ((TH s).set q [])) :
    L74_1 K N1 v2 v3 v4 v5 v7 v33 v34 v35 v40 v41 v42 H := by
  unfold L74_1
  exact LoopV.mkG s0 (fun s => [f42 s]) TH pre μ (fun _ => rfl) (Eq.mp (by kernel_rfl) h0) (fun s hs q hq => Eq.mp (by kernel_rfl) (round s hs q hq))
theorem L74_3_rule {K : AV → Heap → Prop} {N1 : AV → Heap → Prop} {v2 v3 v4 v5 v11 v60 v61 v62 v67 v68 v69 : AV} {H : Heap} {σ : Type} (s0 : σ) (f69 : σ → AV) (TH : σ → Heap) (pre : σ → Prop) (μ : σ → Nat)
    (h0 : pre s0 ∧ AV.wk v69 (f69 s0) ∧ Heap.le (TH s0) H)
    (round : ∀ s, pre s → B74_3 K N1 (fun w69 H' => ∃ s', pre s' ∧ μ s' < μ s ∧ AV.wk w69 (f69 s') ∧ Heap.le (TH s') H') v2 v3 v4 v5 v11 v60 v61 v62 v67 v68 (f69 s) (TH s)) :
    L74_3 K N1 v2 v3 v4 v5 v11 v60 v61 v62 v67 v68 v69 H := by
  unfold L74_3
  exact LoopV.mk s0 (fun s => [f69 s]) TH pre μ (fun _ => rfl) (Eq.mp (by kernel_rfl) h0) (fun s hs => Eq.mp (by kernel_rfl) (round s hs))
theorem L74_3_ruleG {K : AV → Heap → Prop} {N1 : AV → Heap → Prop} {v2 v3 v4 v5 v11 v60 v61 v62 v67 v68 v69 : AV} {H : Heap} {σ : Type} (s0 : σ) (f69 : σ → AV) (TH : σ → Heap) (pre : σ → Prop) (μ : σ → Nat)
    (h0 : pre s0 ∧ AV.wk v69 (f69 s0) ∧ Heap.le (TH s0) H)
    (round : ∀ s, pre s → ∀ q, TH s q = none → B74_3 K N1 (fun w69 H' => ∃ s', pre s' ∧ μ s' < μ s ∧ AV.wk w69 (f69 s') ∧ Heap.le (TH s') H') v2 v3 v4 v5 v11 v60 v61 v62 v67 v68 (f69 s) ((TH s).set q [])) :
    L74_3 K N1 v2 v3 v4 v5 v11 v60 v61 v62 v67 v68 v69 H := by
  unfold L74_3
  exact LoopV.mkG s0 (fun s => [f69 s]) TH pre μ (fun _ => rfl) (Eq.mp (by kernel_rfl) h0) (fun s hs q hq => Eq.mp (by kernel_rfl) (round s hs q hq))
theorem L74_6_rule {K : AV → Heap → Prop} {N1 : AV → Heap → Prop} {N2 : AV → AV → Heap → Prop} {v2 v3 v4 v5 v16 v18 v108 v109 v110 v115 v116 v117 v122 v123 : AV} {H : Heap} {σ : Type} (s0 : σ) (f16 : σ → AV) (f123 : σ → AV) (TH : σ → Heap) (pre : σ → Prop) (μ : σ → Nat)
    (h0 : pre s0 ∧ AV.wk v16 (f16 s0) ∧ AV.wk v123 (f123 s0) ∧ Heap.le (TH s0) H)
    (round : ∀ s, pre s → B74_6 K N1 N2 (fun w16 w123 H' => ∃ s', pre s' ∧ μ s' < μ s ∧ AV.wk w16 (f16 s') ∧ AV.wk w123 (f123 s') ∧ Heap.le (TH s') H') v2 v3 v4 v5 (f16 s) v18 v108 v109 v110 v115 v116 v117 v122 (f123 s) (TH s)) :
    L74_6 K N1 N2 v2 v3 v4 v5 v16 v18 v108 v109 v110 v115 v116 v117 v122 v123 H := by
  unfold L74_6
  exact LoopV.mk s0 (fun s => [f16 s, f123 s]) TH pre μ (fun _ => rfl) (Eq.mp (by kernel_rfl) h0) (fun s hs => Eq.mp (by kernel_rfl) (round s hs))
theorem L74_6_ruleG {K : AV → Heap → Prop} {N1 : AV → Heap → Prop} {N2 : AV → AV → Heap → Prop} {v2 v3 v4 v5 v16 v18 v108 v109 v110 v115 v116 v117 v122 v123 : AV} {H : Heap} {σ : Type} (s0 : σ) (f16 : σ → AV) (f123 : σ → AV) (TH : σ → Heap) (pre : σ → Prop) (μ : σ → Nat)
    (h0 : pre s0 ∧ AV.wk v16 (f16 s0) ∧ AV.wk v123 (f123 s0) ∧ Heap.le (TH s0) H)
    (round : ∀ s, pre s → ∀ q, TH s q = none → B74_6 K N1 N2 (fun w16 w123 H' => ∃ s', pre s' ∧ μ s' < μ s ∧ AV.wk w16 (f16 s') ∧ AV.wk w123 (f123 s') ∧ Heap.le (TH s') H') v2 v3 v4 v5 (f16 s) v18 v108 v109 v110 v115 v116 v117 v122 (f123 s) ((TH s).set q [])) :
    L74_6 K N1 N2 v2 v3 v4 v5 v16 v18 v108 v109 v110 v115 v116 v117 v122 v123 H := by
  unfold L74_6
  exact LoopV.mkG s0 (fun s => [f16 s, f123 s]) TH pre μ (fun _ => rfl) (Eq.mp (by kernel_rfl) h0) (fun s hs q hq => Eq.mp (by kernel_rfl) (round s hs q hq))
theorem L74_5_rule {K : AV → Heap → Prop} {N1 : AV → Heap → Prop} {v2 v3 v4 v5 v16 v108 v109 v110 v115 v116 v117 : AV} {H : Heap} {σ : Type} (s0 : σ) (f16 : σ → AV) (f117 : σ → AV) (TH : σ → Heap) (pre : σ → Prop) (μ : σ → Nat)
    (h0 : pre s0 ∧ AV.wk v16 (f16 s0) ∧ AV.wk v117 (f117 s0) ∧ Heap.le (TH s0) H)
    (round : ∀ s, pre s → B74_5 K N1 (fun w16 w117 H' => ∃ s', pre s' ∧ μ s' < μ s ∧ AV.wk w16 (f16 s') ∧ AV.wk w117 (f117 s') ∧ Heap.le (TH s') H') v2 v3 v4 v5 (f16 s) v108 v109 v110 v115 v116 (f117 s) (TH s)) :
    L74_5 K N1 v2 v3 v4 v5 v16 v108 v109 v110 v115 v116 v117 H := by
  unfold L74_5
  exact LoopV.mk s0 (fun s => [f16 s, f117 s]) TH pre μ (fun _ => rfl) (Eq.mp (by kernel_rfl) h0) (fun s hs => Eq.mp (by kernel_rfl) (round s hs))
theorem L74_5_ruleG {K : AV → Heap → Prop} {N1 : AV → Heap → Prop} {v2 v3 v4 v5 v16 v108 v109 v110 v115 v116 v117 : AV} {H : Heap} {σ : Type} (s0 : σ) (f16 : σ → AV) (f117 : σ → AV) (TH : σ → Heap) (pre : σ → Prop) (μ : σ → Nat)
    (h0 : pre s0 ∧ AV.wk v16 (f16 s0) ∧ AV.wk v117 (f117 s0) ∧ Heap.le (TH s0) H)
    (round : ∀ s, pre s → ∀ q, TH s q = none → B74_5 K N1 (fun w16 w117 H' => ∃ s', pre s' ∧ μ s' < μ s ∧ AV.wk w16 (f16 s') ∧ AV.wk w117 (f117 s') ∧ Heap.le (TH s') H') v2 v3 v4 v5 (f16 s) v108 v109 v110 v115 v116 (f117 s) ((TH s).set q [])) :
    L74_5 K N1 v2 v3 v4 v5 v16 v108 v109 v110 v115 v116 v117 H := by
  unfold L74_5
  exact LoopV.mkG s0 (fun s => [f16 s, f117 s]) TH pre μ (fun _ => rfl) (Eq.mp (by kernel_rfl) h0) (fun s hs q hq => Eq.mp (by kernel_rfl) (round s hs q hq))
theorem L74_9_rule {K : AV → Heap → Prop} {N1 : AV → Heap → Prop} {N2 : AV → AV → Heap → Prop} {v2 v3 v4 v5 v21 v22 v23 v145 v146 v147 v153 v154 v157 v158 v159 : AV} {H : Heap} {σ : Type} (s0 : σ) (f22 : σ → AV) (f159 : σ → AV) (TH : σ → Heap) (pre : σ → Prop) (μ : σ → Nat)
    (h0 : pre s0 ∧ AV.wk v22 (f22 s0) ∧ AV.wk v159 (f159 s0) ∧ Heap.le (TH s0) H)
    (round : ∀ s, pre s → B74_9 K N1 N2 (fun w22 w159 H' => ∃ s', pre s' ∧ μ s' < μ s ∧ AV.wk w22 (f22 s') ∧ AV.wk w159 (f159 s') ∧ Heap.le (TH s') H') v2 v3 v4 v5 v21 (f22 s) v23 v145 v146 v147 v153 v154 v157 v158 (f159 s) (TH s)) :
    L74_9 K N1 N2 v2 v3 v4 v5 v21 v22 v23 v145 v146 v147 v153 v154 v157 v158 v159 H := by
  unfold L74_9
  exact LoopV.mk s0 (fun s => [f22 s, f159 s]) TH pre μ (fun _ => rfl) (Eq.mp (by kernel_rfl) h0) (fun s hs => Eq.mp (by kernel_rfl) (round s hs))
theorem L74_9_ruleG {K : AV → Heap → Prop} {N1 : AV → Heap → Prop} {N2 : AV → AV → Heap → Prop} {v2 v3 v4 v5 v21 v22 v23 v145 v146 v147 v153 v154 v157 v158 v159 : AV} {H : Heap} {σ : Type} (s0 : σ) (f22 : σ → AV) (f159 : σ → AV) (TH : σ → Heap) (pre : σ → Prop) (μ : σ → Nat)
    (h0 : pre s0 ∧ AV.wk v22 (f22 s0) ∧ AV.wk v159 (f159 s0) ∧ Heap.le (TH s0) H)
    (round : ∀ s, pre s → ∀ q, TH s q = none → B74_9 K N1 N2 (fun w22 w159 H' => ∃ s', pre s' ∧ μ s' < μ s ∧ AV.wk w22 (f22 s') ∧ AV.wk w159 (f159 s') ∧ Heap.le (TH s') H') v2 v3 v4 v5 v21 (f22 s) v23 v145 v146 v147 v153 v154 v157 v158 (f159 s) ((TH s).set q [])) :
    L74_9 K N1 N2 v2 v3 v4 v5 v21 v22 v23 v145 v146 v147 v153 v154 v157 v158 v159 H := by
  unfold L74_9
  exact LoopV.mkG s0 (fun s => [f22 s, f159 s]) TH pre μ (fun _ => rfl) (Eq.mp (by kernel_rfl) h0) (fun s hs q hq => Eq.mp (by kernel_rfl) (round s hs q hq))
theorem L74_8_rule {K : AV → Heap → Prop} {N1 : AV → Heap → Prop} {v2 v3 v4 v5 v21 v22 v145 v146 v147 v153 v154 : AV} {H : Heap} {σ : Type} (s0 : σ) (f22 : σ → AV) (f154 : σ → AV) (TH : σ → Heap) (pre : σ → Prop) (μ : σ → Nat)
    (h0 : pre s0 ∧ AV.wk v22 (f22 s0) ∧ AV.wk v154 (f154 s0) ∧ Heap.le (TH s0) H)
    (round : ∀ s, pre s → B74_8 K N1 (fun w22 w154 H' => ∃ s', pre s' ∧ μ s' < μ s ∧ AV.wk w22 (f22 s') ∧ AV.wk w154 (f154 s') ∧ Heap.le (TH s') H') v2 v3 v4 v5 v21 (f22 s) v145 v146 v147 v153 (f154 s) (TH s)) :
    L74_8 K N1 v2 v3 v4 v5 v21 v22 v145 v146 v147 v153 v154 H := by
  unfold L74_8
  exact LoopV.mk s0 (fun s => [f22 s, f154 s]) TH pre μ (fun _ => rfl) (Eq.mp (by kernel_rfl) h0) (fun s hs => Eq.mp (by kernel_rfl) (round s hs))
theorem L74_8_ruleG {K : AV → Heap → Prop} {N1 : AV → Heap → Prop} {v2 v3 v4 v5 v21 v22 v145 v146 v147 v153 v154 : AV} {H : Heap} {σ : Type} (s0 : σ) (f22 : σ → AV) (f154 : σ → AV) (TH : σ → Heap) (pre : σ → Prop) (μ : σ → Nat)
    (h0 : pre s0 ∧ AV.wk v22 (f22 s0) ∧ AV.wk v154 (f154 s0) ∧ Heap.le (TH s0) H)
    (round : ∀ s, pre s → ∀ q, TH s q = none → B74_8 K N1 (fun w22 w154 H' => ∃ s', pre s' ∧ μ s' < μ s ∧ AV.wk w22 (f22 s') ∧ AV.wk w154 (f154 s') ∧ Heap.le (TH s') H') v2 v3 v4 v5 v21 (f22 s) v145 v146 v147 v153 (f154 s) ((TH s).set q [])) :
    L74_8 K N1 v2 v3 v4 v5 v21 v22 v145 v146 v147 v153 v154 H := by
  unfold L74_8
  exact LoopV.mkG s0 (fun s => [f22 s, f154 s]) TH pre μ (fun _ => rfl) (Eq.mp (by kernel_rfl) h0) (fun s hs q hq => Eq.mp (by kernel_rfl) (round s hs q hq))
theorem L74_7_rule {K : AV → Heap → Prop} {v2 v3 v4 v5 v145 v146 v147 : AV} {H : Heap} {σ : Type} (s0 : σ) (f147 : σ → AV) (TH : σ → Heap) (pre : σ → Prop) (μ : σ → Nat)
    (h0 : pre s0 ∧ AV.wk v147 (f147 s0) ∧ Heap.le (TH s0) H)
    (round : ∀ s, pre s → B74_7 K (fun w147 H' => ∃ s', pre s' ∧ μ s' < μ s ∧ AV.wk w147 (f147 s') ∧ Heap.le (TH s') H') v2 v3 v4 v5 v145 v146 (f147 s) (TH s)) :
    L74_7 K v2 v3 v4 v5 v145 v146 v147 H := by
  unfold L74_7
  exact LoopV.mk s0 (fun s => [f147 s]) TH pre μ (fun _ => rfl) (Eq.mp (by kernel_rfl) h0) (fun s hs => Eq.mp (by kernel_rfl) (round s hs))
theorem L74_7_ruleG {K : AV → Heap → Prop} {v2 v3 v4 v5 v145 v146 v147 : AV} {H : Heap} {σ : Type} (s0 : σ) (f147 : σ → AV) (TH : σ → Heap) (pre : σ → Prop) (μ : σ → Nat)
    (h0 : pre s0 ∧ AV.wk v147 (f147 s0) ∧ Heap.le (TH s0) H)
    (round : ∀ s, pre s → ∀ q, TH s q = none → B74_7 K (fun w147 H' => ∃ s', pre s' ∧ μ s' < μ s ∧ AV.wk w147 (f147 s') ∧ Heap.le (TH s') H') v2 v3 v4 v5 v145 v146 (f147 s) ((TH s).set q [])) :
    L74_7 K v2 v3 v4 v5 v145 v146 v147 H := by
  unfold L74_7
  exact LoopV.mkG s0 (fun s => [f147 s]) TH pre μ (fun _ => rfl) (Eq.mp (by kernel_rfl) h0) (fun s hs q hq => Eq.mp (by kernel_rfl) (round s hs q hq))
theorem L74_4_rule {K : AV → Heap → Prop} {v2 v3 v4 v5 v108 v109 v110 : AV} {H : Heap} {σ : Type} (s0 : σ) (f110 : σ → AV) (TH : σ → Heap) (pre : σ → Prop) (μ : σ → Nat)
    (h0 : pre s0 ∧ AV.wk v110 (f110 s0) ∧ Heap.le (TH s0) H)
    (round : ∀ s, pre s → B74_4 K (fun w110 H' => ∃ s', pre s' ∧ μ s' < μ s ∧ AV.wk w110 (f110 s') ∧ Heap.le (TH s') H') v2 v3 v4 v5 v108 v109 (f110 s) (TH s)) :
    L74_4 K v2 v3 v4 v5 v108 v109 v110 H := by
  unfold L74_4
  exact LoopV.mk s0 (fun s => [f110 s]) TH pre μ (fun _ => rfl) (Eq.mp (by kernel_rfl) h0) (fun s hs => Eq.mp (by kernel_rfl) (round s hs))
theorem L74_4_ruleG {K : AV → Heap → Prop} {v2 v3 v4 v5 v108 v109 v110 : AV} {H : Heap} {σ : Type} (s0 : σ) (f110 : σ → AV) (TH : σ → Heap) (pre : σ → Prop) (μ : σ → Nat)
    (h0 : pre s0 ∧ AV.wk v110 (f110 s0) ∧ Heap.le (TH s0) H)
    (round : ∀ s, pre s → ∀ q, TH s q = none → B74_4 K (fun w110 H' => ∃ s', pre s' ∧ μ s' < μ s ∧ AV.wk w110 (f110 s') ∧ Heap.le (TH s') H') v2 v3 v4 v5 v108 v109 (f110 s) ((TH s).set q [])) :
    L74_4 K v2 v3 v4 v5 v108 v109 v110 H := by
  unfold L74_4
  exact LoopV.mkG s0 (fun s => [f110 s]) TH pre μ (fun _ => rfl) (Eq.mp (by kernel_rfl) h0) (fun s hs q hq => Eq.mp (by kernel_rfl) (round s hs q hq))
theorem L74_2_rule {K : AV → Heap → Prop} {v2 v3 v4 v5 v60 v61 v62 : AV} {H : Heap} {σ : Type} (s0 : σ) (f62 : σ → AV) (TH : σ → Heap) (pre : σ → Prop) (μ : σ → Nat)
    (h0 : pre s0 ∧ AV.wk v62 (f62 s0) ∧ Heap.le (TH s0) H)
    (round : ∀ s, pre s → B74_2 K (fun w62 H' => ∃ s', pre s' ∧ μ s' < μ s ∧ AV.wk w62 (f62 s') ∧ Heap.le (TH s') H') v2 v3 v4 v5 v60 v61 (f62 s) (TH s)) :
    L74_2 K v2 v3 v4 v5 v60 v61 v62 H := by
  unfold L74_2
  exact LoopV.mk s0 (fun s => [f62 s]) TH pre μ (fun _ => rfl) (Eq.mp (by kernel_rfl) h0) (fun s hs => Eq.mp (by kernel_rfl) (round s hs))
theorem L74_2_ruleG {K : AV → Heap → Prop} {v2 v3 v4 v5 v60 v61 v62 : AV} {H : Heap} {σ : Type} (s0 : σ) (f62 : σ → AV) (TH : σ → Heap) (pre : σ → Prop) (μ : σ → Nat)
    (h0 : pre s0 ∧ AV.wk v62 (f62 s0) ∧ Heap.le (TH s0) H)
    (round : ∀ s, pre s → ∀ q, TH s q = none → B74_2 K (fun w62 H' => ∃ s', pre s' ∧ μ s' < μ s ∧ AV.wk w62 (f62 s') ∧ Heap.le (TH s') H') v2 v3 v4 v5 v60 v61 (f62 s) ((TH s).set q [])) :
    L74_2 K v2 v3 v4 v5 v60 v61 v62 H := by
  unfold L74_2
  exact LoopV.mkG s0 (fun s => [f62 s]) TH pre μ (fun _ => rfl) (Eq.mp (by kernel_rfl) h0) (fun s hs q hq => Eq.mp (by kernel_rfl) (round s hs q hq))
theorem L74_0_rule {K : AV → Heap → Prop} {v2 v3 v4 v5 v33 v34 v35 : AV} {H : Heap} {σ : Type} (s0 : σ) (f35 : σ → AV) (TH : σ → Heap) (pre : σ → Prop) (μ : σ → Nat)
    (h0 : pre s0 ∧ AV.wk v35 (f35 s0) ∧ Heap.le (TH s0) H)
    (round : ∀ s, pre s → B74_0 K (fun w35 H' => ∃ s', pre s' ∧ μ s' < μ s ∧ AV.wk w35 (f35 s') ∧ Heap.le (TH s') H') v2 v3 v4 v5 v33 v34 (f35 s) (TH s)) :
    L74_0 K v2 v3 v4 v5 v33 v34 v35 H := by
  unfold L74_0
  exact LoopV.mk s0 (fun s => [f35 s]) TH pre μ (fun _ => rfl) (Eq.mp (by kernel_rfl) h0) (fun s hs => Eq.mp (by kernel_rfl) (round s hs))
theorem L74_0_ruleG {K : AV → Heap → Prop} {v2 v3 v4 v5 v33 v34 v35 : AV} {H : Heap} {σ : Type} (s0 : σ) (f35 : σ → AV) (TH : σ → Heap) (pre : σ → Prop) (μ : σ → Nat)
    (h0 : pre s0 ∧ AV.wk v35 (f35 s0) ∧ Heap.le (TH s0) H)
    (round : ∀ s, pre s → ∀ q, TH s q = none → B74_0 K (fun w35 H' => ∃ s', pre s' ∧ μ s' < μ s ∧ AV.wk w35 (f35 s') ∧ Heap.le (TH s') H') v2 v3 v4 v5 v33 v34 (f35 s) ((TH s).set q [])) :
    L74_0 K v2 v3 v4 v5 v33 v34 v35 H := by
  unfold L74_0
  exact LoopV.mkG s0 (fun s => [f35 s]) TH pre μ (fun _ => rfl) (Eq.mp (by kernel_rfl) h0) (fun s hs q hq => Eq.mp (by kernel_rfl) (round s hs q hq))
/-- loop.example/g00649/spec.l1In -/
def D76 : Info := ⟨15, fun i => ([], []), fun i => ([], [])⟩
def W76 (v0 : AV) (v1 : AV) (v2 : AV) (H : Heap) (K : AV → Heap → Prop) : Prop :=
 binV tab .geq 3 v0 v1 fun v9 =>
 grdV v9 true (binV tab .leq 3 v0 v2 fun v13 =>
 K v13 H)
 (K (AV.p (.bool false)) H)
theorem W76_wp (v0 : AV) (v1 : AV) (v2 : AV) (H : Heap) (K : AV → Heap → Prop) : wpC Try.prog tab D76 (bodyOf Try.f76) (retF tab [.tmp 6] K) (nthA [v0, v1, v2]) H = W76 v0 v1 v2 H K := by kernel_rfl
theorem W76_ok {v0 v1 v2 : AV} {H : Heap} {K : AV → Heap → Prop} (h : W76 v0 v1 v2 H K) : CallT Try.prog 76 [v0, v1, v2] H K :=
  CallT.of_wp (D := D76) tab_ok mixed Try.func76 (c := bodyOf Try.f76) (by kernel_rfl) rfl (by kernel_rfl) (rs := #[.tmp 6]) rfl (by decide +kernel) (by kernel_rfl) (W76_wp v0 v1 v2 H K) h
theorem W76_hb : HasBody Try.prog 76 := ⟨_, bodyOf Try.f76, Try.func76, by kernel_rfl, rfl⟩
/-- loop.example/g00649/spec.l11Points -/
def D77 : Info := ⟨9, fun i => ([], []), fun i => ([], [])⟩
def W77 (v0 : AV) (v1 : AV) (H : Heap) (K : AV → Heap → Prop) : Prop :=
 binV tab .sub 3 v1 (AV.p (.int .i64 1)) fun v7 =>
 CallT Try.prog 105 [v0, (AV.p (.int .i64 0)), v7] H fun v8 H1 =>
 K v8 H1
theorem W77_wp (v0 : AV) (v1 : AV) (H : Heap) (K : AV → Heap → Prop) : wpC Try.prog tab D77 (bodyOf Try.f77) (retF tab [.tmp 4] K) (nthA [v0, v1]) H = W77 v0 v1 H K := by kernel_rfl
theorem W77_ok {v0 v1 : AV} {H : Heap} {K : AV → Heap → Prop} (h : W77 v0 v1 H K) : CallT Try.prog 77 [v0, v1] H K :=
  CallT.of_wp (D := D77) tab_ok mixed Try.func77 (c := bodyOf Try.f77) (by kernel_rfl) rfl (by kernel_rfl) (rs := #[.tmp 4]) rfl (by decide +kernel) (by kernel_rfl) (W77_wp v0 v1 H K) h
theorem W77_hb : HasBody Try.prog 77 := ⟨_, bodyOf Try.f77, Try.func77, by kernel_rfl, rfl⟩
/-- loop.example/g00649/spec.l11Goals -/
def D78 : Info := ⟨21, fun i => ([], []), fun i => if i = 4 then ([1, 10, 11], [12]) else ([], [])⟩
def L78_0 (K : AV → Heap → Prop) (v1 : AV) (v10 : AV) (v11 : AV) (v12 : AV) (H : Heap) : Prop := LoopV (wpC Try.prog tab D78 (cAt [1, 1, 0, 1, 0, 0] (bodyOf Try.f78))) [1, 10, 11] (PostF.block 0 (PostF.thenA (wpC Try.prog tab D78 (cAt [1, 1, 1] (bodyOf Try.f78))) (retF tab [.tmp 4] K))) [12] [AV.any, v1, AV.any, AV.any, AV.any, AV.any, AV.any, AV.any, AV.any, AV.any, v10, v11, v12, AV.any, AV.any, AV.any, AV.any, AV.any, AV.any, AV.any, AV.any] H
def B78_0 (K : AV → Heap → Prop) (N1 : AV → Heap → Prop) (v1 : AV) (v10 : AV) (v11 : AV) (v12 : AV) (H : Heap) : Prop :=
 binV tab .lss 3 v12 v11 fun v13 =>
 condV v13 (indexAddrV tab 24 v10 v12 fun v14 =>
 loadV tab 22 v14 H fun v15 =>
 CallT Try.prog 77 [v15, v1] H fun v18 H1 =>
 unV .not v18 fun v19 =>
 condV v19 (K (AV.p (.bool false)) H1)
 (binV tab .add 3 v12 (AV.p (.int .i64 1)) fun v20 =>
 N1 v20 H1))
 (K (AV.p (.bool true)) H)
def W78 (v0 : AV) (v1 : AV) (H : Heap) (K : AV → Heap → Prop) : Prop :=
 lenV tab 24 v0 fun v8 =>
 binV tab .gtr 3 v8 (AV.p (.int .i64 6)) fun v9 =>
 condV v9 (K (AV.p (.bool false)) H)
 (lenV tab 24 v0 fun v11 =>
 L78_0 K v1 v0 v11 (AV.p (.int .i64 0)) H)
theorem W78_wp (v0 : AV) (v1 : AV) (H : Heap) (K : AV → Heap → Prop) : wpC Try.prog tab D78 (bodyOf Try.f78) (retF tab [.tmp 4] K) (nthA [v0, v1]) H = W78 v0 v1 H K := by kernel_rfl
theorem W78_ok {v0 v1 : AV} {H : Heap} {K : AV → Heap → Prop} (h : W78 v0 v1 H K) : CallT Try.prog 78 [v0, v1] H K :=
  CallT.of_wp (D := D78) tab_ok mixed Try.func78 (c := bodyOf Try.f78) (by kernel_rfl) rfl (by kernel_rfl) (rs := #[.tmp 4]) rfl (by decide +kernel) (by kernel_rfl) (W78_wp v0 v1 H K) h
theorem W78_hb : HasBody Try.prog 78 := ⟨_, bodyOf Try.f78, Try.func78, by kernel_rfl, rfl⟩
theorem L78_0_rule {K : AV → Heap → Prop} {v1 v10 v11 v12 : AV} {H : Heap} {σ : Type} (s0 : σ) (f12 : σ → AV) (TH : σ → Heap) (pre : σ → Prop) (μ : σ → Nat)
    (h0 : pre s0 ∧ AV.wk v12 (f12 s0) ∧ Heap.le (TH s0) H)
    (round : ∀ s, pre s → B78_0 K (fun w12 H' => ∃ s', pre s' ∧ μ s' < μ s ∧ AV.wk w12 (f12 s') ∧ Heap.le (TH s') H') v1 v10 v11 (f12 s) (TH s)) :
    L78_0 K v1 v10 v11 v12 H := by
  unfold L78_0
  exact LoopV.mk s0 (fun s => [f12 s]) TH pre μ (fun _ => rfl) (Eq.mp (by kernel_rfl) h0) (fun s hs => Eq.mp (by kernel_rfl) (round s hs))
theorem L78_0_ruleG {K : AV → Heap → Prop} {v1 v10 v11 v12 : AV} {H : Heap} {σ : Type} (s0 : σ) (f12 : σ → AV) (TH : σ → Heap) (pre : σ → Prop) (μ : σ → Nat)
    (h0 : pre s0 ∧ AV.wk v12 (f12 s0) ∧ Heap.le (TH s0) H)
    (round : ∀ s, pre s → ∀ q, TH s q = none → B78_0 K (fun w12 H' => ∃ s', pre s' ∧ μ s' < μ s ∧ AV.wk w12 (f12 s') ∧ Heap.le (TH s') H') v1 v10 v11 (f12 s) ((TH s).set q [])) :
    L78_0 K v1 v10 v11 v12 H := by
  unfold L78_0
  exact LoopV.mkG s0 (fun s => [f12 s]) TH pre μ (fun _ => rfl) (Eq.mp (by kernel_rfl) h0) (fun s hs q hq => Eq.mp (by kernel_rfl) (round s hs q hq))
/-- loop.example/g00649/spec.l12Less -/
def D79 : Info := ⟨30, fun i => ([], []), fun i => ([], [])⟩
def W79 (v0 : AV) (v1 : AV) (H : Heap) (K : AV → Heap → Prop) : Prop :=
 boxV v0 H fun v2 H1 =>
 boxV v1 H1 fun v3 H2 =>
 fieldAddrV tab 61 v2 0 fun v5 =>
 loadV tab 3 v5 H2 fun v6 =>
 fieldAddrV tab 61 v3 0 fun v7 =>
 loadV tab 3 v7 H2 fun v8 =>
 binV tab .neq 3 v6 v8 fun v9 =>
 condV v9 (fieldAddrV tab 61 v2 0 fun v10 =>
 loadV tab 3 v10 H2 fun v11 =>
 fieldAddrV tab 61 v3 0 fun v12 =>
 loadV tab 3 v12 H2 fun v13 =>
 binV tab .lss 3 v11 v13 fun v14 =>
 K v14 H2)
 (fieldAddrV tab 61 v2 1 fun v15 =>
 loadV tab 3 v15 H2 fun v16 =>
 fieldAddrV tab 61 v3 1 fun v17 =>
 loadV tab 3 v17 H2 fun v18 =>
 binV tab .neq 3 v16 v18 fun v19 =>
 condV v19 (fieldAddrV tab 61 v2 1 fun v20 =>
 loadV tab 3 v20 H2 fun v21 =>
 fieldAddrV tab 61 v3 1 fun v22 =>
 loadV tab 3 v22 H2 fun v23 =>
 binV tab .lss 3 v21 v23 fun v24 =>
 K v24 H2)
 (fieldAddrV tab 61 v2 2 fun v25 =>
 loadV tab 3 v25 H2 fun v26 =>
 fieldAddrV tab 61 v3 2 fun v27 =>
 loadV tab 3 v27 H2 fun v28 =>
 binV tab .lss 3 v26 v28 fun v29 =>
 K v29 H2))
theorem W79_wp (v0 : AV) (v1 : AV) (H : Heap) (K : AV → Heap → Prop) : wpC Try.prog tab D79 (bodyOf Try.f79) (retF tab [.tmp 4] K) (nthA [v0, v1]) H = W79 v0 v1 H K := by kernel_rfl
theorem W79_ok {v0 v1 : AV} {H : Heap} {K : AV → Heap → Prop} (h : W79 v0 v1 H K) : CallT Try.prog 79 [v0, v1] H K :=
  CallT.of_wp (D := D79) tab_ok mixed Try.func79 (c := bodyOf Try.f79) (by kernel_rfl) rfl (by kernel_rfl) (rs := #[.tmp 4]) rfl (by decide +kernel) (by kernel_rfl) (W79_wp v0 v1 H K) h
theorem W79_hb : HasBody Try.prog 79 := ⟨_, bodyOf Try.f79, Try.func79, by kernel_rfl, rfl⟩
/-- loop.example/g00649/laws.toEdge -/
def D80 : Info := ⟨14, fun i => ([], []), fun i => ([], [])⟩
def W80 (v0 : AV) (H : Heap) (K : AV → Heap → Prop) : Prop :=
 boxV v0 H fun v1 H1 =>
 allocV tab 61 H1 fun v2 H2 =>
 allocV tab 61 H2 fun v3 H3 =>
 fieldAddrV tab 90 v1 0 fun v4 =>
 loadV tab 3 v4 H3 fun v5 =>
 fieldAddrV tab 61 v3 0 fun v6 =>
 storeV tab 3 v6 v5 H3 fun H4 =>
 fieldAddrV tab 90 v1 1 fun v7 =>
 loadV tab 3 v7 H4 fun v8 =>
 fieldAddrV tab 61 v3 1 fun v9 =>
 storeV tab 3 v9 v8 H4 fun H5 =>
 fieldAddrV tab 90 v1 2 fun v10 =>
 loadV tab 3 v10 H5 fun v11 =>
 fieldAddrV tab 61 v3 2 fun v12 =>
 storeV tab 3 v12 v11 H5 fun H6 =>
 loadV tab 61 v3 H6 fun v13 =>
 storeV tab 61 v2 v13 H6 fun H7 =>
 loadV tab 61 v2 H7 fun r0 =>
 K r0 H7
theorem W80_wp (v0 : AV) (H : Heap) (K : AV → Heap → Prop) : wpC Try.prog tab D80 (bodyOf Try.f80) (retF tab [.cell 2 61] K) (nthA [v0]) H = W80 v0 H K := by kernel_rfl
theorem W80_ok {v0 : AV} {H : Heap} {K : AV → Heap → Prop} (h : W80 v0 H K) : CallT Try.prog 80 [v0] H K :=
  CallT.of_wp (D := D80) tab_ok mixed Try.func80 (c := bodyOf Try.f80) (by kernel_rfl) rfl (by kernel_rfl) (rs := #[.cell 2 61]) rfl (by decide +kernel) (by kernel_rfl) (W80_wp v0 H K) h
theorem W80_hb : HasBody Try.prog 80 := ⟨_, bodyOf Try.f80, Try.func80, by kernel_rfl, rfl⟩
/-- loop.example/g00649/impl.isIncreasing -/
def D81 : Info := ⟨35, fun i => ([], []), fun i => if i = 2 then ([0, 1, 7, 8], [9]) else ([], [])⟩
def L81_0 (K : AV → Heap → Prop) (v0 : AV) (v1 : AV) (v7 : AV) (v8 : AV) (v9 : AV) (H : Heap) : Prop := LoopV (wpC Try.prog tab D81 (cAt [1, 0, 1, 0, 0] (bodyOf Try.f81))) [0, 1, 7, 8] (PostF.block 0 (PostF.thenA (wpC Try.prog tab D81 (cAt [1, 1] (bodyOf Try.f81))) (retF tab [.tmp 4] K))) [9] [v0, v1, AV.any, AV.any, AV.any, AV.any, AV.any, v7, v8, v9, AV.any, AV.any, AV.any, AV.any, AV.any, AV.any, AV.any, AV.any, AV.any, AV.any, AV.any, AV.any, AV.any, AV.any, AV.any, AV.any, AV.any, AV.any, AV.any, AV.any, AV.any, AV.any, AV.any, AV.any, AV.any] H
def B81_0 (K : AV → Heap → Prop) (N1 : AV → Heap → Prop) (v0 : AV) (v1 : AV) (v7 : AV) (v8 : AV) (v9 : AV) (H : Heap) : Prop :=
 binV tab .lss 3 v9 v8 fun v10 =>
 condV v10 (indexAddrV tab 22 v7 v9 fun v12 =>
 loadV tab 3 v12 H fun v13 =>
 binV tab .lss 3 v13 (AV.p (.int .i64 0)) fun v15 =>
 grdV v15 false (binV tab .geq 3 v13 v1 fun v19 =>
 grdV v19 false (binV tab .gtr 3 v9 (AV.p (.int .i64 0)) fun v23 =>
 grdV v23 true (binV tab .sub 3 v9 (AV.p (.int .i64 1)) fun v27 =>
 indexAddrV tab 22 v0 v27 fun v28 =>
 loadV tab 3 v28 H fun v29 =>
 binV tab .geq 3 v29 v13 fun v31 =>
 condV v31 (K (AV.p (.bool false)) H)
 (binV tab .add 3 v9 (AV.p (.int .i64 1)) fun v34 =>
 N1 v34 H))
 (binV tab .add 3 v9 (AV.p (.int .i64 1)) fun v34 =>
 N1 v34 H))
 (K (AV.p (.bool false)) H))
 (K (AV.p (.bool false)) H))
 (K (AV.p (.bool true)) H)
def W81 (v0 : AV) (v1 : AV) (H : Heap) (K : AV → Heap → Prop) : Prop :=
 lenV tab 22 v0 fun v8 =>
 L81_0 K v0 v1 v0 v8 (AV.p (.int .i64 0)) H
theorem W81_wp (v0 : AV) (v1 : AV) (H : Heap) (K : AV → Heap → Prop) : wpC Try.prog tab D81 (bodyOf Try.f81) (retF tab [.tmp 4] K) (nthA [v0, v1]) H = W81 v0 v1 H K := by kernel_rfl
theorem W81_ok {v0 v1 : AV} {H : Heap} {K : AV → Heap → Prop} (h : W81 v0 v1 H K) : CallT Try.prog 81 [v0, v1] H K :=
  CallT.of_wp (D := D81) tab_ok mixed Try.func81 (c := bodyOf Try.f81) (by kernel_rfl) rfl (by kernel_rfl) (rs := #[.tmp 4]) rfl (by decide +kernel) (by kernel_rfl) (W81_wp v0 v1 H K) h
theorem W81_hb : HasBody Try.prog 81 := ⟨_, bodyOf Try.f81, Try.func81, by kernel_rfl, rfl⟩
theorem L81_0_rule {K : AV → Heap → Prop} {v0 v1 v7 v8 v9 : AV} {H : Heap} {σ : Type} (s0 : σ) (f9 : σ → AV) (TH : σ → Heap) (pre : σ → Prop) (μ : σ → Nat)
    (h0 : pre s0 ∧ AV.wk v9 (f9 s0) ∧ Heap.le (TH s0) H)
    (round : ∀ s, pre s → B81_0 K (fun w9 H' => ∃ s', pre s' ∧ μ s' < μ s ∧ AV.wk w9 (f9 s') ∧ Heap.le (TH s') H') v0 v1 v7 v8 (f9 s) (TH s)) :
    L81_0 K v0 v1 v7 v8 v9 H := by
  unfold L81_0
  exact LoopV.mk s0 (fun s => [f9 s]) TH pre μ (fun _ => rfl) (Eq.mp (by kernel_rfl) h0) (fun s hs => Eq.mp (by kernel_rfl) (round s hs))
theorem L81_0_ruleG {K : AV → Heap → Prop} {v0 v1 v7 v8 v9 : AV} {H : Heap} {σ : Type} (s0 : σ) (f9 : σ → AV) (TH : σ → Heap) (pre : σ → Prop) (μ : σ → Nat)
    (h0 : pre s0 ∧ AV.wk v9 (f9 s0) ∧ Heap.le (TH s0) H)
    (round : ∀ s, pre s → ∀ q, TH s q = none → B81_0 K (fun w9 H' => ∃ s', pre s' ∧ μ s' < μ s ∧ AV.wk w9 (f9 s') ∧ Heap.le (TH s') H') v0 v1 v7 v8 (f9 s) ((TH s).set q [])) :
    L81_0 K v0 v1 v7 v8 v9 H := by
  unfold L81_0
  exact LoopV.mkG s0 (fun s => [f9 s]) TH pre μ (fun _ => rfl) (Eq.mp (by kernel_rfl) h0) (fun s hs q hq => Eq.mp (by kernel_rfl) (round s hs q hq))
/-- loop.example/g00649/impl.areGoals -/
def D82 : Info := ⟨14, fun i => ([], []), fun i => ([], [])⟩
def W82 (v0 : AV) (v1 : AV) (H : Heap) (K : AV → Heap → Prop) : Prop :=
 boxV v1 H fun v3 H1 =>
 lenV tab 24 v0 fun v6 =>
 binV tab .leq 3 v6 (AV.p (.int .i64 6)) fun v7 =>
 grdV v7 true (CallT Try.prog 106 [v0, (.fn 107 [v3])] H1 fun v11 H2 =>
 unV .not v11 fun v12 =>
 K v12 H2)
 (K (AV.p (.bool false)) H1)
theorem W82_wp (v0 : AV) (v1 : AV) (H : Heap) (K : AV → Heap → Prop) : wpC Try.prog tab D82 (bodyOf Try.f82) (retF tab [.tmp 4] K) (nthA [v0, v1]) H = W82 v0 v1 H K := by kernel_rfl
theorem W82_ok {v0 v1 : AV} {H : Heap} {K : AV → Heap → Prop} (h : W82 v0 v1 H K) : CallT Try.prog 82 [v0, v1] H K :=
  CallT.of_wp (D := D82) tab_ok mixed Try.func82 (c := bodyOf Try.f82) (by kernel_rfl) rfl (by kernel_rfl) (rs := #[.tmp 4]) rfl (by decide +kernel) (by kernel_rfl) (W82_wp v0 v1 H K) h
theorem W82_hb : HasBody Try.prog 82 := ⟨_, bodyOf Try.f82, Try.func82, by kernel_rfl, rfl⟩
end Go.Proofs.Ytfbaijpanbjmpaa
