/- Texts laid together: W6 W7 WA Lb0 Lb1a Lb3 Pt1 Le1 Le2 Pm1 Ma1 Lr2 Lt1 Lt2. -/
import Derived.Test.YtolffbcnbcjeaaaPkz4
import Derived.KernelRfl
set_option linter.unusedVariables false
set_option linter.unusedSimpArgs false
open Nat renaming reduceAdd → ν1, reduceLeDiff → ν2, reduceLT → ν3, reduceMul → ν4, reduceSub → ν5
open Int renaming reduceToNat → ι1, reduceSub → ι2, reduceAdd → ι3, reduceNeg → ι4
open Array renaming toList → ι5
open Ne renaming symm → ν6
open List renaming forall_mem_cons → ν7
namespace Go.Proofs.Ytolffbcnbcjeaaa
open Go Go.Sep
attribute [local irreducible] wpC headF
def D68 : Info := ⟨125, fun i => if i = 2 then ([[], [0], [], [2], [0, 1], [0, 1, 2, 3, 4]], [(0, []), (2, []), (1, [3]), (4, []), (3, [3]), (5, [])]) else if i = 9 then ([[], [], [], [1, 2], [1, 2, 3], [], [], [], [6, 7], [6, 7, 8], [5, 6, 7, 8, 9], [5, 6, 7, 8, 9, 10], [5, 6, 7, 8, 9, 10, 11], [5, 6, 7, 8, 9, 10, 11, 12], [5, 6, 7, 8, 9, 10, 11, 12], [5, 6, 7, 8, 9, 10, 11, 12, 13, 14], [5, 6, 7, 8, 9, 10, 11, 12, 13, 14, 15], [5, 6, 7, 8, 9, 10, 11, 12], [5, 6, 7, 8, 9, 10, 11, 12], [5, 6, 7, 8, 9, 10, 11, 12, 17, 18], [5, 6, 7, 8, 9, 10, 11, 12, 17, 18, 19], [5, 6, 7, 8, 9, 10, 11, 12, 13, 14, 15, 16, 17, 18, 19, 20], [5, 6, 7, 8, 9, 10, 11, 12, 13, 14, 15, 16, 17, 18, 19, 20, 21], [0, 1, 2, 3, 4, 5, 6, 7, 8, 9, 10, 11, 12, 13, 14, 15, 16, 17, 18, 19, 20, 21, 22], [0, 1, 2, 3, 4, 5, 6, 7, 8, 9, 10, 11, 12, 13, 14, 15, 16, 17, 18, 19, 20, 21, 22, 23]], [(0, []), (1, []), (2, []), (3, []), (4, []), (5, []), (6, []), (7, []), (8, []), (9, []), (10, []), (11, []), (12, []), (13, []), (14, []), (15, []), (16, []), (17, []), (18, []), (19, []), (20, []), (21, []), (22, []), (23, []), (24, [])]) else ([], []), fun i => if i = 4 then ([1, 5, 6, 7, 8, 28, 29], [30]) else if i = 7 then ([1, 5, 6, 7, 8, 9, 28, 29, 30, 35, 36], [37]) else if i = 13 then ([5, 6, 7, 8, 67, 68], [69]) else if i = 17 then ([5, 6, 7, 8, 15, 67, 68, 69, 75, 76], [77]) else if i = 22 then ([5, 6, 7, 8, 15, 67, 68, 69, 89], [90]) else if i = 28 then ([5, 7, 8, 109], [110]) else ([], [])⟩
def L68_0 (K : AV → Heap → Prop) (v1 : AV) (v5 : AV) (v6 : AV) (v7 : AV) (v8 : AV) (v28 : AV) (v29 : AV) (v30 : AV) (H : Heap) : Prop := LoopV (wpC Try.prog tab D68 (cAt [1, 1, 1, 0, 1, 0, 0] (bodyOf Try.f68))) [1, 5, 6, 7, 8, 28, 29] (PostF.block 0 (PostF.thenA (wpC Try.prog tab D68 (cAt [1, 1, 1, 1] (bodyOf Try.f68))) (retF tab [.tmp 4] K))) [30] [AV.any, v1, AV.any, AV.any, AV.any, v5, v6, v7, v8, AV.any, AV.any, AV.any, AV.any, AV.any, AV.any, AV.any, AV.any, AV.any, AV.any, AV.any, AV.any, AV.any, AV.any, AV.any, AV.any, AV.any, AV.any, AV.any, v28, v29, v30, AV.any, AV.any, AV.any, AV.any, AV.any, AV.any, AV.any, AV.any, AV.any, AV.any, AV.any, AV.any, AV.any, AV.any, AV.any, AV.any, AV.any, AV.any, AV.any, AV.any, AV.any, AV.any, AV.any, AV.any, AV.any, AV.any, AV.any, AV.any, AV.any, AV.any, AV.any, AV.any, AV.any, AV.any, AV.any, AV.any, AV.any, AV.any, AV.any, AV.any, AV.any, AV.any, AV.any, AV.any, AV.any, AV.any, AV.any, AV.any, AV.any, AV.any, AV.any, AV.any, AV.any, AV.any, AV.any, AV.any, AV.any, AV.any, AV.any, AV.any, AV.any, AV.any, AV.any, AV.any, AV.any, AV.any, AV.any, AV.any, AV.any, AV.any, AV.any, AV.any, AV.any, AV.any, AV.any, AV.any, AV.any, AV.any, AV.any, AV.any, AV.any, AV.any, AV.any, AV.any, AV.any, AV.any, AV.any, AV.any, AV.any, AV.any, AV.any, AV.any, AV.any, AV.any] H
def L68_1 (K : AV → Heap → Prop) (N1 : AV → Heap → Prop) (v1 : AV) (v5 : AV) (v6 : AV) (v7 : AV) (v8 : AV) (v9 : AV) (v28 : AV) (v29 : AV) (v30 : AV) (v35 : AV) (v36 : AV) (v37 : AV) (H : Heap) : Prop := LoopV (wpC Try.prog tab D68 (cAt [1, 1, 1, 0, 1, 0, 0, 1, 1, 0, 0, 1, 1, 0, 0] (bodyOf Try.f68))) [1, 5, 6, 7, 8, 9, 28, 29, 30, 35, 36] (PostF.block 2 (PostF.block 1 (PostF.thenA (wpC Try.prog tab D68 (cAt [1, 1, 1, 0, 1, 0, 0, 1, 1, 1] (bodyOf Try.f68))) (loopF (PostF.block 0 (PostF.thenA (wpC Try.prog tab D68 (cAt [1, 1, 1, 1] (bodyOf Try.f68))) (retF tab [.tmp 4] K))) (fun e h => N1 (e 30) h))))) [37] [AV.any, v1, AV.any, AV.any, AV.any, v5, v6, v7, v8, v9, AV.any, AV.any, AV.any, AV.any, AV.any, AV.any, AV.any, AV.any, AV.any, AV.any, AV.any, AV.any, AV.any, AV.any, AV.any, AV.any, AV.any, AV.any, v28, v29, v30, AV.any, AV.any, AV.any, AV.any, v35, v36, v37, AV.any, AV.any, AV.any, AV.any, AV.any, AV.any, AV.any, AV.any, AV.any, AV.any, AV.any, AV.any, AV.any, AV.any, AV.any, AV.any, AV.any, AV.any, AV.any, AV.any, AV.any, AV.any, AV.any, AV.any, AV.any, AV.any, AV.any, AV.any, AV.any, AV.any, AV.any, AV.any, AV.any, AV.any, AV.any, AV.any, AV.any, AV.any, AV.any, AV.any, AV.any, AV.any, AV.any, AV.any, AV.any, AV.any, AV.any, AV.any, AV.any, AV.any, AV.any, AV.any, AV.any, AV.any, AV.any, AV.any, AV.any, AV.any, AV.any, AV.any, AV.any, AV.any, AV.any, AV.any, AV.any, AV.any, AV.any, AV.any, AV.any, AV.any, AV.any, AV.any, AV.any, AV.any, AV.any, AV.any, AV.any, AV.any, AV.any, AV.any, AV.any, AV.any, AV.any, AV.any, AV.any, AV.any, AV.any] H
def B68_1 (K : AV → Heap → Prop) (N1 : AV → Heap → Prop) (N2 : AV → Heap → Prop) (v1 : AV) (v5 : AV) (v6 : AV) (v7 : AV) (v8 : AV) (v9 : AV) (v28 : AV) (v29 : AV) (v30 : AV) (v35 : AV) (v36 : AV) (v37 : AV) (H : Heap) : Prop :=
 binV tab .lss 3 v37 v36 fun v38 =>
 condV v38 (indexAddrV tab 22 v35 v37 fun v39 =>
 loadV tab 3 v39 H fun v40 =>
 indexAddrV tab 22 v5 v9 fun v44 =>
 loadV tab 3 v44 H fun v45 =>
 indexAddrV tab 22 v5 v9 fun v49 =>
 loadV tab 3 v49 H fun v50 =>
 indexAddrV tab 83 v7 v50 fun v51 =>
 loadV tab 4 v51 H fun v52 =>
 grdV v52 false (indexAddrV tab 22 v5 v40 fun v56 =>
 loadV tab 3 v56 H fun v57 =>
 indexAddrV tab 22 v5 v9 fun v60 =>
 loadV tab 3 v60 H fun v61 =>
 binV tab .eql 3 v57 v61 fun v62 =>
 indexAddrV tab 83 v7 v45 fun v64 =>
 storeV tab 4 v64 v62 H fun H4 =>
 binV tab .add 3 v37 (AV.p (.int .i64 1)) fun v65 =>
 N2 v65 H4)
 (indexAddrV tab 83 v7 v45 fun v64 =>
 storeV tab 4 v64 (AV.p (.bool true)) H fun H5 =>
 binV tab .add 3 v37 (AV.p (.int .i64 1)) fun v65 =>
 N2 v65 H5))
 (binV tab .add 3 v30 (AV.p (.int .i64 1)) fun v66 =>
 N1 v66 H)
def L68_2 (K : AV → Heap → Prop) (v5 : AV) (v6 : AV) (v7 : AV) (v8 : AV) (v67 : AV) (v68 : AV) (v69 : AV) (H : Heap) : Prop := LoopV (wpC Try.prog tab D68 (cAt [1, 1, 1, 1, 0, 1, 0, 0] (bodyOf Try.f68))) [5, 6, 7, 8, 67, 68] (PostF.block 4 (PostF.thenA (wpC Try.prog tab D68 (cAt [1, 1, 1, 1, 1] (bodyOf Try.f68))) (retF tab [.tmp 4] K))) [69] [AV.any, AV.any, AV.any, AV.any, AV.any, v5, v6, v7, v8, AV.any, AV.any, AV.any, AV.any, AV.any, AV.any, AV.any, AV.any, AV.any, AV.any, AV.any, AV.any, AV.any, AV.any, AV.any, AV.any, AV.any, AV.any, AV.any, AV.any, AV.any, AV.any, AV.any, AV.any, AV.any, AV.any, AV.any, AV.any, AV.any, AV.any, AV.any, AV.any, AV.any, AV.any, AV.any, AV.any, AV.any, AV.any, AV.any, AV.any, AV.any, AV.any, AV.any, AV.any, AV.any, AV.any, AV.any, AV.any, AV.any, AV.any, AV.any, AV.any, AV.any, AV.any, AV.any, AV.any, AV.any, AV.any, v67, v68, v69, AV.any, AV.any, AV.any, AV.any, AV.any, AV.any, AV.any, AV.any, AV.any, AV.any, AV.any, AV.any, AV.any, AV.any, AV.any, AV.any, AV.any, AV.any, AV.any, AV.any, AV.any, AV.any, AV.any, AV.any, AV.any, AV.any, AV.any, AV.any, AV.any, AV.any, AV.any, AV.any, AV.any, AV.any, AV.any, AV.any, AV.any, AV.any, AV.any, AV.any, AV.any, AV.any, AV.any, AV.any, AV.any, AV.any, AV.any, AV.any, AV.any, AV.any, AV.any, AV.any, AV.any, AV.any, AV.any] H
def L68_3 (K : AV → Heap → Prop) (N1 : AV → Heap → Prop) (v5 : AV) (v6 : AV) (v7 : AV) (v8 : AV) (v15 : AV) (v67 : AV) (v68 : AV) (v69 : AV) (v75 : AV) (v76 : AV) (v77 : AV) (H : Heap) : Prop := LoopV (wpC Try.prog tab D68 (cAt [1, 1, 1, 1, 0, 1, 0, 0, 1, 1, 0, 0, 1, 1, 0, 1, 0, 0] (bodyOf Try.f68))) [5, 6, 7, 8, 15, 67, 68, 69, 75, 76] (PostF.block 6 (PostF.thenA (wpC Try.prog tab D68 (cAt [1, 1, 1, 1, 0, 1, 0, 0, 1, 1, 0, 0, 1, 1, 1] (bodyOf Try.f68))) (PostF.block 5 (PostF.thenA (wpC Try.prog tab D68 (cAt [1, 1, 1, 1, 0, 1, 0, 0, 1, 1, 1] (bodyOf Try.f68))) (loopF (PostF.block 4 (PostF.thenA (wpC Try.prog tab D68 (cAt [1, 1, 1, 1, 1] (bodyOf Try.f68))) (retF tab [.tmp 4] K))) (fun e h => N1 (e 69) h)))))) [77] [AV.any, AV.any, AV.any, AV.any, AV.any, v5, v6, v7, v8, AV.any, AV.any, AV.any, AV.any, AV.any, AV.any, v15, AV.any, AV.any, AV.any, AV.any, AV.any, AV.any, AV.any, AV.any, AV.any, AV.any, AV.any, AV.any, AV.any, AV.any, AV.any, AV.any, AV.any, AV.any, AV.any, AV.any, AV.any, AV.any, AV.any, AV.any, AV.any, AV.any, AV.any, AV.any, AV.any, AV.any, AV.any, AV.any, AV.any, AV.any, AV.any, AV.any, AV.any, AV.any, AV.any, AV.any, AV.any, AV.any, AV.any, AV.any, AV.any, AV.any, AV.any, AV.any, AV.any, AV.any, AV.any, v67, v68, v69, AV.any, AV.any, AV.any, AV.any, AV.any, v75, v76, v77, AV.any, AV.any, AV.any, AV.any, AV.any, AV.any, AV.any, AV.any, AV.any, AV.any, AV.any, AV.any, AV.any, AV.any, AV.any, AV.any, AV.any, AV.any, AV.any, AV.any, AV.any, AV.any, AV.any, AV.any, AV.any, AV.any, AV.any, AV.any, AV.any, AV.any, AV.any, AV.any, AV.any, AV.any, AV.any, AV.any, AV.any, AV.any, AV.any, AV.any, AV.any, AV.any, AV.any, AV.any, AV.any, AV.any, AV.any] H
def L68_4 (K : AV → Heap → Prop) (N1 : AV → Heap → Prop) (v5 : AV) (v6 : AV) (v7 : AV) (v8 : AV) (v15 : AV) (v67 : AV) (v68 : AV) (v69 : AV) (v89 : AV) (v90 : AV) (H : Heap) : Prop := LoopV (wpC Try.prog tab D68 (cAt [1, 1, 1, 1, 0, 1, 0, 0, 1, 1, 0, 0, 1, 1, 1, 1, 0, 0] (bodyOf Try.f68))) [5, 6, 7, 8, 15, 67, 68, 69, 89] (PostF.block 8 (PostF.block 5 (PostF.thenA (wpC Try.prog tab D68 (cAt [1, 1, 1, 1, 0, 1, 0, 0, 1, 1, 1] (bodyOf Try.f68))) (loopF (PostF.block 4 (PostF.thenA (wpC Try.prog tab D68 (cAt [1, 1, 1, 1, 1] (bodyOf Try.f68))) (retF tab [.tmp 4] K))) (fun e h => N1 (e 69) h))))) [90] [AV.any, AV.any, AV.any, AV.any, AV.any, v5, v6, v7, v8, AV.any, AV.any, AV.any, AV.any, AV.any, AV.any, v15, AV.any, AV.any, AV.any, AV.any, AV.any, AV.any, AV.any, AV.any, AV.any, AV.any, AV.any, AV.any, AV.any, AV.any, AV.any, AV.any, AV.any, AV.any, AV.any, AV.any, AV.any, AV.any, AV.any, AV.any, AV.any, AV.any, AV.any, AV.any, AV.any, AV.any, AV.any, AV.any, AV.any, AV.any, AV.any, AV.any, AV.any, AV.any, AV.any, AV.any, AV.any, AV.any, AV.any, AV.any, AV.any, AV.any, AV.any, AV.any, AV.any, AV.any, AV.any, v67, v68, v69, AV.any, AV.any, AV.any, AV.any, AV.any, AV.any, AV.any, AV.any, AV.any, AV.any, AV.any, AV.any, AV.any, AV.any, AV.any, AV.any, AV.any, AV.any, AV.any, v89, v90, AV.any, AV.any, AV.any, AV.any, AV.any, AV.any, AV.any, AV.any, AV.any, AV.any, AV.any, AV.any, AV.any, AV.any, AV.any, AV.any, AV.any, AV.any, AV.any, AV.any, AV.any, AV.any, AV.any, AV.any, AV.any, AV.any, AV.any, AV.any, AV.any, AV.any, AV.any, AV.any, AV.any, AV.any] H
def B68_4 (K : AV → Heap → Prop) (N1 : AV → Heap → Prop) (N2 : AV → Heap → Prop) (v5 : AV) (v6 : AV) (v7 : AV) (v8 : AV) (v15 : AV) (v67 : AV) (v68 : AV) (v69 : AV) (v89 : AV) (v90 : AV) (H : Heap) : Prop :=
 binV tab .lss 3 v90 v89 fun v91 =>
 condV v91 (indexAddrV tab 83 v7 v90 fun v97 =>
 loadV tab 4 v97 H fun v98 =>
 grdV v98 true (indexAddrV tab 83 v15 v90 fun v102 =>
 loadV tab 4 v102 H fun v103 =>
 indexAddrV tab 83 v7 v90 fun v105 =>
 storeV tab 4 v105 v103 H fun H8 =>
 binV tab .add 3 v90 (AV.p (.int .i64 1)) fun v106 =>
 N2 v106 H8)
 (indexAddrV tab 83 v7 v90 fun v105 =>
 storeV tab 4 v105 (AV.p (.bool false)) H fun H9 =>
 binV tab .add 3 v90 (AV.p (.int .i64 1)) fun v106 =>
 N2 v106 H9))
 (binV tab .add 3 v69 (AV.p (.int .i64 1)) fun v107 =>
 N1 v107 H)
def B68_3 (K : AV → Heap → Prop) (N1 : AV → Heap → Prop) (N2 : AV → Heap → Prop) (v5 : AV) (v6 : AV) (v7 : AV) (v8 : AV) (v15 : AV) (v67 : AV) (v68 : AV) (v69 : AV) (v75 : AV) (v76 : AV) (v77 : AV) (H : Heap) : Prop :=
 binV tab .lss 3 v77 v76 fun v78 =>
 condV v78 (indexAddrV tab 22 v75 v77 fun v79 =>
 loadV tab 3 v79 H fun v80 =>
 indexAddrV tab 22 v5 v80 fun v84 =>
 loadV tab 3 v84 H fun v85 =>
 indexAddrV tab 83 v15 v85 fun v86 =>
 storeV tab 4 v86 (AV.p (.bool true)) H fun H7 =>
 binV tab .add 3 v77 (AV.p (.int .i64 1)) fun v87 =>
 N2 v87 H7)
 (lenV tab 83 v7 fun v89 =>
 L68_4 K N1 v5 v6 v7 v8 v15 v67 v68 v69 v89 (AV.p (.int .i64 0)) H)
def L68_5 (K : AV → Heap → Prop) (v5 : AV) (v7 : AV) (v8 : AV) (v109 : AV) (v110 : AV) (H : Heap) : Prop := LoopV (wpC Try.prog tab D68 (cAt [1, 1, 1, 1, 1, 0, 1, 0, 0] (bodyOf Try.f68))) [5, 7, 8, 109] (PostF.block 10 (PostF.thenA (wpC Try.prog tab D68 (cAt [1, 1, 1, 1, 1, 1] (bodyOf Try.f68))) (retF tab [.tmp 4] K))) [110] [AV.any, AV.any, AV.any, AV.any, AV.any, v5, AV.any, v7, v8, AV.any, AV.any, AV.any, AV.any, AV.any, AV.any, AV.any, AV.any, AV.any, AV.any, AV.any, AV.any, AV.any, AV.any, AV.any, AV.any, AV.any, AV.any, AV.any, AV.any, AV.any, AV.any, AV.any, AV.any, AV.any, AV.any, AV.any, AV.any, AV.any, AV.any, AV.any, AV.any, AV.any, AV.any, AV.any, AV.any, AV.any, AV.any, AV.any, AV.any, AV.any, AV.any, AV.any, AV.any, AV.any, AV.any, AV.any, AV.any, AV.any, AV.any, AV.any, AV.any, AV.any, AV.any, AV.any, AV.any, AV.any, AV.any, AV.any, AV.any, AV.any, AV.any, AV.any, AV.any, AV.any, AV.any, AV.any, AV.any, AV.any, AV.any, AV.any, AV.any, AV.any, AV.any, AV.any, AV.any, AV.any, AV.any, AV.any, AV.any, AV.any, AV.any, AV.any, AV.any, AV.any, AV.any, AV.any, AV.any, AV.any, AV.any, AV.any, AV.any, AV.any, AV.any, AV.any, AV.any, AV.any, AV.any, AV.any, AV.any, v109, v110, AV.any, AV.any, AV.any, AV.any, AV.any, AV.any, AV.any, AV.any, AV.any, AV.any, AV.any, AV.any, AV.any, AV.any] H
def B68_5 (K : AV → Heap → Prop) (N1 : AV → Heap → Prop) (v5 : AV) (v7 : AV) (v8 : AV) (v109 : AV) (v110 : AV) (H : Heap) : Prop :=
 binV tab .lss 3 v110 v109 fun v111 =>
 condV v111 (indexAddrV tab 22 v5 v110 fun v118 =>
 loadV tab 3 v118 H fun v119 =>
 indexAddrV tab 83 v7 v119 fun v120 =>
 loadV tab 4 v120 H fun v121 =>
 indexAddrV tab 83 v8 v110 fun v122 =>
 storeV tab 4 v122 v121 H fun H10 =>
 binV tab .add 3 v110 (AV.p (.int .i64 1)) fun v123 =>
 N1 v123 H10)
 (K v8 H)
def B68_2 (K : AV → Heap → Prop) (N1 : AV → Heap → Prop) (v5 : AV) (v6 : AV) (v7 : AV) (v8 : AV) (v67 : AV) (v68 : AV) (v69 : AV) (H : Heap) : Prop :=
 binV tab .lss 3 v69 v68 fun v70 =>
 condV v70 (indexAddrV tab 24 v67 v69 fun v71 =>
 loadV tab 22 v71 H fun v72 =>
 makeSliceV tab 83 v6 v6 H fun v74 H6 =>
 lenV tab 22 v72 fun v76 =>
 L68_3 K N1 v5 v6 v7 v8 v74 v67 v68 v69 v72 v76 (AV.p (.int .i64 0)) H6)
 (lenV tab 83 v8 fun v109 =>
 L68_5 K v5 v7 v8 v109 (AV.p (.int .i64 0)) H)
def B68_0 (K : AV → Heap → Prop) (N1 : AV → Heap → Prop) (v1 : AV) (v5 : AV) (v6 : AV) (v7 : AV) (v8 : AV) (v28 : AV) (v29 : AV) (v30 : AV) (H : Heap) : Prop :=
 binV tab .lss 3 v30 v29 fun v31 =>
 condV v31 (indexAddrV tab 24 v28 v30 fun v33 =>
 loadV tab 22 v33 H fun v34 =>
 lenV tab 22 v34 fun v36 =>
 L68_1 K N1 v1 v5 v6 v7 v8 v30 v28 v29 v30 v34 v36 (AV.p (.int .i64 0)) H)
 (lenV tab 24 v1 fun v68 =>
 L68_2 K v5 v6 v7 v8 v1 v68 (AV.p (.int .i64 0)) H)
def W68 (v0 : AV) (v1 : AV) (H : Heap) (K : AV → Heap → Prop) : Prop :=
 CallT Try.prog 88 [v0] H fun v21 H1 =>
 lenV tab 24 v0 fun v23 =>
 safeV (makeN tab 83 v23 v23) ∧
 makeSliceV tab 83 v23 v23 H1 fun v25 H2 =>
 newV (makeN tab 83 v23 v23) H2 fun v27 H3 =>
 lenV tab 24 v0 fun v29 =>
 L68_0 K v1 v21 v23 v25 v27 v0 v29 (AV.p (.int .i64 0)) H3
theorem W68_wp (v0 : AV) (v1 : AV) (H : Heap) (K : AV → Heap → Prop) : wpC Try.prog tab D68 (bodyOf Try.f68) (retF tab [.tmp 4] K) (nthA [v0, v1]) H = W68 v0 v1 H K := by kernel_rfl
theorem W68_ok {v0 v1 : AV} {H : Heap} {K : AV → Heap → Prop} (h : W68 v0 v1 H K) : CallT Try.prog 68 [v0, v1] H K :=
  CallT.of_wp (D := D68) tab_ok mixed Try.func68 (c := bodyOf Try.f68) (by kernel_rfl) rfl (by kernel_rfl) (rs := #[.tmp 4]) rfl (by decide +kernel) (by kernel_rfl) (W68_wp v0 v1 H K) h
theorem L68_1_rule {K : AV → Heap → Prop} {N1 : AV → Heap → Prop} {v1 v5 v6 v7 v8 v9 v28 v29 v30 v35 v36 v37 : AV} {H : Heap} {σ : Type} (s0 : σ) (f37 : σ → AV) (TH : σ → Heap) (pre : σ → Prop) (μ : σ → Nat)
    (h0 : pre s0 ∧ AV.wk v37 (f37 s0) ∧ Heap.le (TH s0) H)
    (round : ∀ s, pre s → B68_1 K N1 (fun w37 H' => ∃ s', pre s' ∧ μ s' < μ s ∧ AV.wk w37 (f37 s') ∧ Heap.le (TH s') H') v1 v5 v6 v7 v8 v9 v28 v29 v30 v35 v36 (f37 s) (TH s)) :
    L68_1 K N1 v1 v5 v6 v7 v8 v9 v28 v29 v30 v35 v36 v37 H := by
  unfold L68_1
  exact LoopV.mk s0 (fun s => [f37 s]) TH pre μ (fun _ => rfl) (Eq.mp (by kernel_rfl) h0) (fun s hs => Eq.mp (by kernel_rfl) (round s hs))
theorem L68_4_rule {K : AV → Heap → Prop} {N1 : AV → Heap → Prop} {v5 v6 v7 v8 v15 v67 v68 v69 v89 v90 : AV} {H : Heap} {σ : Type} (s0 : σ) (f90 : σ → AV) (TH : σ → Heap) (pre : σ → Prop) (μ : σ → Nat)
    (h0 : pre s0 ∧ AV.wk v90 (f90 s0) ∧ Heap.le (TH s0) H)
    (round : ∀ s, pre s → B68_4 K N1 (fun w90 H' => ∃ s', pre s' ∧ μ s' < μ s ∧ AV.wk w90 (f90 s') ∧ Heap.le (TH s') H') v5 v6 v7 v8 v15 v67 v68 v69 v89 (f90 s) (TH s)) :
    L68_4 K N1 v5 v6 v7 v8 v15 v67 v68 v69 v89 v90 H := by
  unfold L68_4
  exact LoopV.mk s0 (fun s => [f90 s]) TH pre μ (fun _ => rfl) (Eq.mp (by kernel_rfl) h0) (fun s hs => Eq.mp (by kernel_rfl) (round s hs))
theorem L68_3_rule {K : AV → Heap → Prop} {N1 : AV → Heap → Prop} {v5 v6 v7 v8 v15 v67 v68 v69 v75 v76 v77 : AV} {H : Heap} {σ : Type} (s0 : σ) (f77 : σ → AV) (TH : σ → Heap) (pre : σ → Prop) (μ : σ → Nat)
    (h0 : pre s0 ∧ AV.wk v77 (f77 s0) ∧ Heap.le (TH s0) H)
    (round : ∀ s, pre s → B68_3 K N1 (fun w77 H' => ∃ s', pre s' ∧ μ s' < μ s ∧ AV.wk w77 (f77 s') ∧ Heap.le (TH s') H') v5 v6 v7 v8 v15 v67 v68 v69 v75 v76 (f77 s) (TH s)) :
    L68_3 K N1 v5 v6 v7 v8 v15 v67 v68 v69 v75 v76 v77 H := by
  unfold L68_3
  exact LoopV.mk s0 (fun s => [f77 s]) TH pre μ (fun _ => rfl) (Eq.mp (by kernel_rfl) h0) (fun s hs => Eq.mp (by kernel_rfl) (round s hs))
theorem L68_5_rule {K : AV → Heap → Prop} {v5 v7 v8 v109 v110 : AV} {H : Heap} {σ : Type} (s0 : σ) (f110 : σ → AV) (TH : σ → Heap) (pre : σ → Prop) (μ : σ → Nat)
    (h0 : pre s0 ∧ AV.wk v110 (f110 s0) ∧ Heap.le (TH s0) H)
    (round : ∀ s, pre s → B68_5 K (fun w110 H' => ∃ s', pre s' ∧ μ s' < μ s ∧ AV.wk w110 (f110 s') ∧ Heap.le (TH s') H') v5 v7 v8 v109 (f110 s) (TH s)) :
    L68_5 K v5 v7 v8 v109 v110 H := by
  unfold L68_5
  exact LoopV.mk s0 (fun s => [f110 s]) TH pre μ (fun _ => rfl) (Eq.mp (by kernel_rfl) h0) (fun s hs => Eq.mp (by kernel_rfl) (round s hs))
theorem L68_2_rule {K : AV → Heap → Prop} {v5 v6 v7 v8 v67 v68 v69 : AV} {H : Heap} {σ : Type} (s0 : σ) (f69 : σ → AV) (TH : σ → Heap) (pre : σ → Prop) (μ : σ → Nat)
    (h0 : pre s0 ∧ AV.wk v69 (f69 s0) ∧ Heap.le (TH s0) H)
    (round : ∀ s, pre s → B68_2 K (fun w69 H' => ∃ s', pre s' ∧ μ s' < μ s ∧ AV.wk w69 (f69 s') ∧ Heap.le (TH s') H') v5 v6 v7 v8 v67 v68 (f69 s) (TH s)) :
    L68_2 K v5 v6 v7 v8 v67 v68 v69 H := by
  unfold L68_2
  exact LoopV.mk s0 (fun s => [f69 s]) TH pre μ (fun _ => rfl) (Eq.mp (by kernel_rfl) h0) (fun s hs => Eq.mp (by kernel_rfl) (round s hs))
theorem L68_0_rule {K : AV → Heap → Prop} {v1 v5 v6 v7 v8 v28 v29 v30 : AV} {H : Heap} {σ : Type} (s0 : σ) (f30 : σ → AV) (TH : σ → Heap) (pre : σ → Prop) (μ : σ → Nat)
    (h0 : pre s0 ∧ AV.wk v30 (f30 s0) ∧ Heap.le (TH s0) H)
    (round : ∀ s, pre s → B68_0 K (fun w30 H' => ∃ s', pre s' ∧ μ s' < μ s ∧ AV.wk w30 (f30 s') ∧ Heap.le (TH s') H') v1 v5 v6 v7 v8 v28 v29 (f30 s) (TH s)) :
    L68_0 K v1 v5 v6 v7 v8 v28 v29 v30 H := by
  unfold L68_0
  exact LoopV.mk s0 (fun s => [f30 s]) TH pre μ (fun _ => rfl) (Eq.mp (by kernel_rfl) h0) (fun s hs => Eq.mp (by kernel_rfl) (round s hs))
def D71 : Info := ⟨20, fun i => ([], []), fun i => ([], [])⟩
def W71 (v0 : AV) (v1 : AV) (H : Heap) (K : AV → Heap → Prop) : Prop :=
 boxV v0 H fun v2 H1 =>
 boxV v1 H1 fun v3 H2 =>
 fieldAddrV tab 65 v2 0 fun v5 =>
 loadV tab 3 v5 H2 fun v6 =>
 fieldAddrV tab 65 v3 0 fun v7 =>
 loadV tab 3 v7 H2 fun v8 =>
 binV tab .neq 3 v6 v8 fun v9 =>
 condV v9 (K (AV.p (.bool false)) H2)
 (fieldAddrV tab 65 v2 1 fun v10 =>
 loadV tab 3 v10 H2 fun v11 =>
 fieldAddrV tab 65 v3 1 fun v12 =>
 loadV tab 3 v12 H2 fun v13 =>
 binV tab .neq 3 v11 v13 fun v14 =>
 condV v14 (K (AV.p (.bool false)) H2)
 (fieldAddrV tab 65 v2 2 fun v15 =>
 loadV tab 3 v15 H2 fun v16 =>
 fieldAddrV tab 65 v3 2 fun v17 =>
 loadV tab 3 v17 H2 fun v18 =>
 binV tab .neq 3 v16 v18 fun v19 =>
 condV v19 (K (AV.p (.bool false)) H2)
 (K (AV.p (.bool true)) H2)))
theorem W71_wp (v0 : AV) (v1 : AV) (H : Heap) (K : AV → Heap → Prop) : wpC Try.prog tab D71 (bodyOf Try.f71) (retF tab [.tmp 4] K) (nthA [v0, v1]) H = W71 v0 v1 H K := by kernel_rfl
theorem W71_ok {v0 v1 : AV} {H : Heap} {K : AV → Heap → Prop} (h : W71 v0 v1 H K) : CallT Try.prog 71 [v0, v1] H K :=
  CallT.of_wp (D := D71) tab_ok mixed Try.func71 (c := bodyOf Try.f71) (by kernel_rfl) rfl (by kernel_rfl) (rs := #[.tmp 4]) rfl (by decide +kernel) (by kernel_rfl) (W71_wp v0 v1 H K) h
def D76 : Info := ⟨8, fun i => ([], []), fun i => ([], [])⟩
def W76 (v0 : AV) (H : Heap) (K : AV → Heap → Prop) : Prop :=
 binV tab .eql 22 v0 (AV.p .nil) fun v4 =>
 condV v4 (K (AV.p .nil) H)
 (buildSliceV tab 22 0 [] H (wkK fun v5 H1 =>
 appendV tab 22 22 v5 v0 H1 (wkK fun v7 H2 =>
 K v7 H2)))
theorem W76_wp (v0 : AV) (H : Heap) (K : AV → Heap → Prop) : wpC Try.prog tab D76 (bodyOf Try.f76) (retF tab [.tmp 2] K) (nthA [v0]) H = W76 v0 H K := by kernel_rfl
theorem W76_ok {v0 : AV} {H : Heap} {K : AV → Heap → Prop} (h : W76 v0 H K) : CallT Try.prog 76 [v0] H K :=
  CallT.of_wp (D := D76) tab_ok mixed Try.func76 (c := bodyOf Try.f76) (by kernel_rfl) rfl (by kernel_rfl) (rs := #[.tmp 2]) rfl (by decide +kernel) (by kernel_rfl) (W76_wp v0 H K) h
theorem W76_hb : HasBody Try.prog 76 := ⟨_, bodyOf Try.f76, Try.func76, by kernel_rfl, rfl⟩
def D77 : Info := ⟨30, fun i => ([], []), fun i => ([], [])⟩
def W77 (v0 : AV) (v1 : AV) (H : Heap) (K : AV → Heap → Prop) : Prop :=
 CallT Try.prog 95 [v0, v1] H fun v25 H1 =>
 extractV v25 0 fun v26 =>
 extractV v25 1 fun v27 =>
 K (.tup [v26, v27]) H1
theorem W77_wp (v0 : AV) (v1 : AV) (H : Heap) (K : AV → Heap → Prop) : wpC Try.prog tab D77 (bodyOf Try.f77) (retF tab [.tmp 4, .tmp 5] K) (nthA [v0, v1]) H = W77 v0 v1 H K := by kernel_rfl
theorem W77_ok {v0 v1 : AV} {H : Heap} {K : AV → Heap → Prop} (h : W77 v0 v1 H K) : CallT Try.prog 77 [v0, v1] H K :=
  CallT.of_wp (D := D77) tab_ok mixed Try.func77 (c := bodyOf Try.f77) (by kernel_rfl) rfl (by kernel_rfl) (rs := #[.tmp 4, .tmp 5]) rfl (by decide +kernel) (by kernel_rfl) (W77_wp v0 v1 H K) h
def D78 : Info := ⟨26, fun i => ([], []), fun i => if i = 3 then ([11, 12], [5, 13]) else ([], [])⟩
def L78_0 (K : AV → Heap → Prop) (v5 : AV) (v11 : AV) (v12 : AV) (v13 : AV) (H : Heap) : Prop := LoopV (wpC Try.prog tab D78 (cAt [1, 1, 0, 1, 0, 0] (bodyOf Try.f78))) [11, 12] (PostF.block 0 (PostF.thenA (wpC Try.prog tab D78 (cAt [1, 1, 1] (bodyOf Try.f78))) (retF tab [.tmp 4] K))) [5, 13] [AV.any, AV.any, AV.any, AV.any, AV.any, v5, AV.any, AV.any, AV.any, AV.any, AV.any, v11, v12, v13, AV.any, AV.any, AV.any, AV.any, AV.any, AV.any, AV.any, AV.any, AV.any, AV.any, AV.any, AV.any] H
def B78_0 (K : AV → Heap → Prop) (N1 : AV → AV → Heap → Prop) (v5 : AV) (v11 : AV) (v12 : AV) (v13 : AV) (H : Heap) : Prop :=
 binV tab .lss 3 v13 v12 fun v14 =>
 condV v14 (indexAddrV tab 22 v11 v13 fun v16 =>
 loadV tab 3 v16 H fun v17 =>
 binV tab .geq 3 v17 (AV.p (.int .i64 0)) fun v19 =>
 condV v19 (buildSliceV tab 22 1 [(0, v13)] H (wkK fun v22 H3 =>
 appendV tab 22 22 v5 v22 H3 (wkK fun v23 H4 =>
 binV tab .add 3 v13 (AV.p (.int .i64 1)) fun v24 =>
 N1 v23 v24 H4)))
 (binV tab .add 3 v13 (AV.p (.int .i64 1)) fun v24 =>
 N1 v5 v24 H))
 (K v5 H)
def W78 (v0 : AV) (v1 : AV) (H : Heap) (K : AV → Heap → Prop) : Prop :=
 buildSliceV tab 22 0 [] H (wkK fun v8 H1 =>
 CallT Try.prog 45 [v0, v1] H1 fun v11 H2 =>
 lenV tab 22 v11 fun v12 =>
 L78_0 K v8 v11 v12 (AV.p (.int .i64 0)) H2)
theorem W78_wp (v0 : AV) (v1 : AV) (H : Heap) (K : AV → Heap → Prop) : wpC Try.prog tab D78 (bodyOf Try.f78) (retF tab [.tmp 4] K) (nthA [v0, v1]) H = W78 v0 v1 H K := by kernel_rfl
theorem W78_ok {v0 v1 : AV} {H : Heap} {K : AV → Heap → Prop} (h : W78 v0 v1 H K) : CallT Try.prog 78 [v0, v1] H K :=
  CallT.of_wp (D := D78) tab_ok mixed Try.func78 (c := bodyOf Try.f78) (by kernel_rfl) rfl (by kernel_rfl) (rs := #[.tmp 4]) rfl (by decide +kernel) (by kernel_rfl) (W78_wp v0 v1 H K) h
theorem L78_0_rule {K : AV → Heap → Prop} {v5 v11 v12 v13 : AV} {H : Heap} {σ : Type} (s0 : σ) (f5 : σ → AV) (f13 : σ → AV) (TH : σ → Heap) (pre : σ → Prop) (μ : σ → Nat)
    (h0 : pre s0 ∧ AV.wk v5 (f5 s0) ∧ AV.wk v13 (f13 s0) ∧ Heap.le (TH s0) H)
    (round : ∀ s, pre s → B78_0 K (fun w5 w13 H' => ∃ s', pre s' ∧ μ s' < μ s ∧ AV.wk w5 (f5 s') ∧ AV.wk w13 (f13 s') ∧ Heap.le (TH s') H') (f5 s) v11 v12 (f13 s) (TH s)) :
    L78_0 K v5 v11 v12 v13 H := by
  unfold L78_0
  exact LoopV.mk s0 (fun s => [f5 s, f13 s]) TH pre μ (fun _ => rfl) (Eq.mp (by kernel_rfl) h0) (fun s hs => Eq.mp (by kernel_rfl) (round s hs))
def D79 : Info := ⟨37, fun i => ([], []), fun i => if i = 3 then ([3, 11, 12], [13]) else if i = 6 then ([3, 4, 11, 12, 13, 18, 19], [20]) else ([], [])⟩
def L79_0 (K : AV → Heap → Prop) (v3 : AV) (v11 : AV) (v12 : AV) (v13 : AV) (H : Heap) : Prop := LoopV (wpC Try.prog tab D79 (cAt [1, 1, 0, 1, 0, 0] (bodyOf Try.f79))) [3, 11, 12] (PostF.block 0 (PostF.thenA (wpC Try.prog tab D79 (cAt [1, 1, 1] (bodyOf Try.f79))) (retF tab [.tmp 2] K))) [13] [AV.any, AV.any, AV.any, v3, AV.any, AV.any, AV.any, AV.any, AV.any, AV.any, AV.any, v11, v12, v13, AV.any, AV.any, AV.any, AV.any, AV.any, AV.any, AV.any, AV.any, AV.any, AV.any, AV.any, AV.any, AV.any, AV.any, AV.any, AV.any, AV.any, AV.any, AV.any, AV.any, AV.any, AV.any, AV.any] H
def L79_1 (K : AV → Heap → Prop) (N1 : AV → Heap → Prop) (v3 : AV) (v4 : AV) (v11 : AV) (v12 : AV) (v13 : AV) (v18 : AV) (v19 : AV) (v20 : AV) (H : Heap) : Prop := LoopV (wpC Try.prog tab D79 (cAt [1, 1, 0, 1, 0, 0, 1, 1, 0, 0, 1, 1, 0, 0] (bodyOf Try.f79))) [3, 4, 11, 12, 13, 18, 19] (PostF.block 2 (PostF.block 1 (PostF.thenA (wpC Try.prog tab D79 (cAt [1, 1, 0, 1, 0, 0, 1, 1, 1] (bodyOf Try.f79))) (loopF (PostF.block 0 (PostF.thenA (wpC Try.prog tab D79 (cAt [1, 1, 1] (bodyOf Try.f79))) (retF tab [.tmp 2] K))) (fun e h => N1 (e 13) h))))) [20] [AV.any, AV.any, AV.any, v3, v4, AV.any, AV.any, AV.any, AV.any, AV.any, AV.any, v11, v12, v13, AV.any, AV.any, AV.any, AV.any, v18, v19, v20, AV.any, AV.any, AV.any, AV.any, AV.any, AV.any, AV.any, AV.any, AV.any, AV.any, AV.any, AV.any, AV.any, AV.any, AV.any, AV.any] H
def B79_1 (K : AV → Heap → Prop) (N1 : AV → Heap → Prop) (N2 : AV → Heap → Prop) (v3 : AV) (v4 : AV) (v11 : AV) (v12 : AV) (v13 : AV) (v18 : AV) (v19 : AV) (v20 : AV) (H : Heap) : Prop :=
 binV tab .lss 3 v20 v19 fun v21 =>
 condV v21 (indexAddrV tab 22 v18 v20 fun v22 =>
 loadV tab 3 v22 H fun v23 =>
 indexAddrV tab 24 v3 v23 fun v28 =>
 loadV tab 22 v28 H fun v29 =>
 buildSliceV tab 22 1 [(0, v4)] H (wkK fun v31 H2 =>
 appendV tab 22 22 v29 v31 H2 (wkK fun v32 H3 =>
 indexAddrV tab 24 v3 v23 fun v33 =>
 storeV tab 22 v33 v32 H3 fun H4 =>
 binV tab .add 3 v20 (AV.p (.int .i64 1)) fun v34 =>
 N2 v34 H4)))
 (binV tab .add 3 v13 (AV.p (.int .i64 1)) fun v35 =>
 N1 v35 H)
def B79_0 (K : AV → Heap → Prop) (N1 : AV → Heap → Prop) (v3 : AV) (v11 : AV) (v12 : AV) (v13 : AV) (H : Heap) : Prop :=
 binV tab .lss 3 v13 v12 fun v14 =>
 condV v14 (indexAddrV tab 24 v11 v13 fun v16 =>
 loadV tab 22 v16 H fun v17 =>
 lenV tab 22 v17 fun v19 =>
 L79_1 K N1 v3 v13 v11 v12 v13 v17 v19 (AV.p (.int .i64 0)) H)
 (K v3 H)
def W79 (v0 : AV) (H : Heap) (K : AV → Heap → Prop) : Prop :=
 lenV tab 24 v0 fun v9 =>
 makeSliceV tab 24 v9 v9 H fun v10 H1 =>
 lenV tab 24 v0 fun v12 =>
 L79_0 K v10 v0 v12 (AV.p (.int .i64 0)) H1
theorem W79_wp (v0 : AV) (H : Heap) (K : AV → Heap → Prop) : wpC Try.prog tab D79 (bodyOf Try.f79) (retF tab [.tmp 2] K) (nthA [v0]) H = W79 v0 H K := by kernel_rfl
theorem W79_ok {v0 : AV} {H : Heap} {K : AV → Heap → Prop} (h : W79 v0 H K) : CallT Try.prog 79 [v0] H K :=
  CallT.of_wp (D := D79) tab_ok mixed Try.func79 (c := bodyOf Try.f79) (by kernel_rfl) rfl (by kernel_rfl) (rs := #[.tmp 2]) rfl (by decide +kernel) (by kernel_rfl) (W79_wp v0 H K) h
theorem L79_1_rule {K : AV → Heap → Prop} {N1 : AV → Heap → Prop} {v3 v4 v11 v12 v13 v18 v19 v20 : AV} {H : Heap} {σ : Type} (s0 : σ) (f20 : σ → AV) (TH : σ → Heap) (pre : σ → Prop) (μ : σ → Nat)
    (h0 : pre s0 ∧ AV.wk v20 (f20 s0) ∧ Heap.le (TH s0) H)
    (round : ∀ s, pre s → B79_1 K N1 (fun w20 H' => ∃ s', pre s' ∧ μ s' < μ s ∧ AV.wk w20 (f20 s') ∧ Heap.le (TH s') H') v3 v4 v11 v12 v13 v18 v19 (f20 s) (TH s)) :
    L79_1 K N1 v3 v4 v11 v12 v13 v18 v19 v20 H := by
  unfold L79_1
  exact LoopV.mk s0 (fun s => [f20 s]) TH pre μ (fun _ => rfl) (Eq.mp (by kernel_rfl) h0) (fun s hs => Eq.mp (by kernel_rfl) (round s hs))
theorem L79_0_rule {K : AV → Heap → Prop} {v3 v11 v12 v13 : AV} {H : Heap} {σ : Type} (s0 : σ) (f13 : σ → AV) (TH : σ → Heap) (pre : σ → Prop) (μ : σ → Nat)
    (h0 : pre s0 ∧ AV.wk v13 (f13 s0) ∧ Heap.le (TH s0) H)
    (round : ∀ s, pre s → B79_0 K (fun w13 H' => ∃ s', pre s' ∧ μ s' < μ s ∧ AV.wk w13 (f13 s') ∧ Heap.le (TH s') H') v3 v11 v12 (f13 s) (TH s)) :
    L79_0 K v3 v11 v12 v13 H := by
  unfold L79_0
  exact LoopV.mk s0 (fun s => [f13 s]) TH pre μ (fun _ => rfl) (Eq.mp (by kernel_rfl) h0) (fun s hs => Eq.mp (by kernel_rfl) (round s hs))
def D80 : Info := ⟨21, fun i => ([], []), fun i => if i = 3 then ([7, 8], [3, 9]) else ([], [])⟩
def L80_0 (K : AV → Heap → Prop) (v3 : AV) (v7 : AV) (v8 : AV) (v9 : AV) (H : Heap) : Prop := LoopV (wpC Try.prog tab D80 (cAt [1, 1, 0, 1, 0, 0] (bodyOf Try.f80))) [7, 8] (PostF.block 0 (PostF.thenA (wpC Try.prog tab D80 (cAt [1, 1, 1] (bodyOf Try.f80))) (retF tab [.tmp 2] K))) [3, 9] [AV.any, AV.any, AV.any, v3, AV.any, AV.any, AV.any, v7, v8, v9, AV.any, AV.any, AV.any, AV.any, AV.any, AV.any, AV.any, AV.any, AV.any, AV.any, AV.any] H
def B80_0 (K : AV → Heap → Prop) (N1 : AV → AV → Heap → Prop) (v3 : AV) (v7 : AV) (v8 : AV) (v9 : AV) (H : Heap) : Prop :=
 binV tab .lss 3 v9 v8 fun v10 =>
 condV v10 (indexAddrV tab 83 v7 v9 fun v12 =>
 loadV tab 4 v12 H fun v13 =>
 condV v13 (buildSliceV tab 22 1 [(0, v9)] H (wkK fun v17 H2 =>
 appendV tab 22 22 v3 v17 H2 (wkK fun v18 H3 =>
 binV tab .add 3 v9 (AV.p (.int .i64 1)) fun v19 =>
 N1 v18 v19 H3)))
 (binV tab .add 3 v9 (AV.p (.int .i64 1)) fun v19 =>
 N1 v3 v19 H))
 (K v3 H)
def W80 (v0 : AV) (H : Heap) (K : AV → Heap → Prop) : Prop :=
 buildSliceV tab 22 0 [] H (wkK fun v6 H1 =>
 lenV tab 83 v0 fun v8 =>
 L80_0 K v6 v0 v8 (AV.p (.int .i64 0)) H1)
theorem W80_wp (v0 : AV) (H : Heap) (K : AV → Heap → Prop) : wpC Try.prog tab D80 (bodyOf Try.f80) (retF tab [.tmp 2] K) (nthA [v0]) H = W80 v0 H K := by kernel_rfl
theorem W80_ok {v0 : AV} {H : Heap} {K : AV → Heap → Prop} (h : W80 v0 H K) : CallT Try.prog 80 [v0] H K :=
  CallT.of_wp (D := D80) tab_ok mixed Try.func80 (c := bodyOf Try.f80) (by kernel_rfl) rfl (by kernel_rfl) (rs := #[.tmp 2]) rfl (by decide +kernel) (by kernel_rfl) (W80_wp v0 H K) h
theorem L80_0_rule {K : AV → Heap → Prop} {v3 v7 v8 v9 : AV} {H : Heap} {σ : Type} (s0 : σ) (f3 : σ → AV) (f9 : σ → AV) (TH : σ → Heap) (pre : σ → Prop) (μ : σ → Nat)
    (h0 : pre s0 ∧ AV.wk v3 (f3 s0) ∧ AV.wk v9 (f9 s0) ∧ Heap.le (TH s0) H)
    (round : ∀ s, pre s → B80_0 K (fun w3 w9 H' => ∃ s', pre s' ∧ μ s' < μ s ∧ AV.wk w3 (f3 s') ∧ AV.wk w9 (f9 s') ∧ Heap.le (TH s') H') (f3 s) v7 v8 (f9 s) (TH s)) :
    L80_0 K v3 v7 v8 v9 H := by
  unfold L80_0
  exact LoopV.mk s0 (fun s => [f3 s, f9 s]) TH pre μ (fun _ => rfl) (Eq.mp (by kernel_rfl) h0) (fun s hs => Eq.mp (by kernel_rfl) (round s hs))
def D81 : Info := ⟨35, fun i => ([], []), fun i => if i = 2 then ([0, 1, 2, 9, 10], [11]) else ([], [])⟩
def L81_0 (K : AV → Heap → Prop) (v0 : AV) (v1 : AV) (v2 : AV) (v9 : AV) (v10 : AV) (v11 : AV) (H : Heap) : Prop := LoopV (wpC Try.prog tab D81 (cAt [1, 0, 1, 0, 0] (bodyOf Try.f81))) [0, 1, 2, 9, 10] (PostF.block 0 (PostF.thenA (wpC Try.prog tab D81 (cAt [1, 1] (bodyOf Try.f81))) (retF tab [.tmp 6] K))) [11] [v0, v1, v2, AV.any, AV.any, AV.any, AV.any, AV.any, AV.any, v9, v10, v11, AV.any, AV.any, AV.any, AV.any, AV.any, AV.any, AV.any, AV.any, AV.any, AV.any, AV.any, AV.any, AV.any, AV.any, AV.any, AV.any, AV.any, AV.any, AV.any, AV.any, AV.any, AV.any, AV.any] H
def B81_0 (K : AV → Heap → Prop) (N1 : AV → Heap → Prop) (v0 : AV) (v1 : AV) (v2 : AV) (v9 : AV) (v10 : AV) (v11 : AV) (H : Heap) : Prop :=
 binV tab .lss 3 v11 v10 fun v12 =>
 condV v12 (indexAddrV tab 22 v9 v11 fun v14 =>
 loadV tab 3 v14 H fun v15 =>
 CallT Try.prog 55 [v15, v1, v2] H fun v19 H1 =>
 unV .not v19 fun v20 =>
 grdV v20 false (binV tab .gtr 3 v11 (AV.p (.int .i64 0)) fun v23 =>
 grdV v23 true (binV tab .sub 3 v11 (AV.p (.int .i64 1)) fun v27 =>
 indexAddrV tab 22 v0 v27 fun v28 =>
 loadV tab 3 v28 H1 fun v29 =>
 binV tab .geq 3 v29 v15 fun v31 =>
 condV v31 (K (AV.p (.bool false)) H1)
 (binV tab .add 3 v11 (AV.p (.int .i64 1)) fun v34 =>
 N1 v34 H1))
 (binV tab .add 3 v11 (AV.p (.int .i64 1)) fun v34 =>
 N1 v34 H1))
 (K (AV.p (.bool false)) H1))
 (K (AV.p (.bool true)) H)
def W81 (v0 : AV) (v1 : AV) (v2 : AV) (H : Heap) (K : AV → Heap → Prop) : Prop :=
 lenV tab 22 v0 fun v10 =>
 L81_0 K v0 v1 v2 v0 v10 (AV.p (.int .i64 0)) H
theorem W81_wp (v0 : AV) (v1 : AV) (v2 : AV) (H : Heap) (K : AV → Heap → Prop) : wpC Try.prog tab D81 (bodyOf Try.f81) (retF tab [.tmp 6] K) (nthA [v0, v1, v2]) H = W81 v0 v1 v2 H K := by kernel_rfl
theorem W81_ok {v0 v1 v2 : AV} {H : Heap} {K : AV → Heap → Prop} (h : W81 v0 v1 v2 H K) : CallT Try.prog 81 [v0, v1, v2] H K :=
  CallT.of_wp (D := D81) tab_ok mixed Try.func81 (c := bodyOf Try.f81) (by kernel_rfl) rfl (by kernel_rfl) (rs := #[.tmp 6]) rfl (by decide +kernel) (by kernel_rfl) (W81_wp v0 v1 v2 H K) h
theorem L81_0_rule {K : AV → Heap → Prop} {v0 v1 v2 v9 v10 v11 : AV} {H : Heap} {σ : Type} (s0 : σ) (f11 : σ → AV) (TH : σ → Heap) (pre : σ → Prop) (μ : σ → Nat)
    (h0 : pre s0 ∧ AV.wk v11 (f11 s0) ∧ Heap.le (TH s0) H)
    (round : ∀ s, pre s → B81_0 K (fun w11 H' => ∃ s', pre s' ∧ μ s' < μ s ∧ AV.wk w11 (f11 s') ∧ Heap.le (TH s') H') v0 v1 v2 v9 v10 (f11 s) (TH s)) :
    L81_0 K v0 v1 v2 v9 v10 v11 H := by
  unfold L81_0
  exact LoopV.mk s0 (fun s => [f11 s]) TH pre μ (fun _ => rfl) (Eq.mp (by kernel_rfl) h0) (fun s hs => Eq.mp (by kernel_rfl) (round s hs))
end Go.Proofs.Ytolffbcnbcjeaaa
namespace Go.Proofs.Ytolffbcnbcjeaaa
open Go Go.Sep
attribute [local irreducible] wpC headF
def D82 : Info := ⟨6, fun i => ([], []), fun i => ([], [])⟩
def W82 (v0 : AV) (H : Heap) (K : AV → Heap → Prop) : Prop :=
 buildSliceV tab 22 0 [] H (wkK fun v3 H1 =>
 appendV tab 22 22 v3 v0 H1 (wkK fun v5 H2 =>
 K v5 H2))
theorem W82_wp (v0 : AV) (H : Heap) (K : AV → Heap → Prop) : wpC Try.prog tab D82 (bodyOf Try.f82) (retF tab [.tmp 2] K) (nthA [v0]) H = W82 v0 H K := by kernel_rfl
theorem W82_ok {v0 : AV} {H : Heap} {K : AV → Heap → Prop} (h : W82 v0 H K) : CallT Try.prog 82 [v0] H K :=
  CallT.of_wp (D := D82) tab_ok mixed Try.func82 (c := bodyOf Try.f82) (by kernel_rfl) rfl (by kernel_rfl) (rs := #[.tmp 2]) rfl (by decide +kernel) (by kernel_rfl) (W82_wp v0 H K) h
def D83 : Info := ⟨45, fun i => ([], []), fun i => if i = 3 then ([0, 1, 25, 26], [27]) else ([], [])⟩
def L83_0 (K : AV → Heap → Prop) (v0 : AV) (v1 : AV) (v25 : AV) (v26 : AV) (v27 : AV) (H : Heap) : Prop := LoopV (wpC Try.prog tab D83 (cAt [1, 1, 0, 1, 0, 0] (bodyOf Try.f83))) [0, 1, 25, 26] (PostF.block 0 (PostF.thenA (wpC Try.prog tab D83 (cAt [1, 1, 1] (bodyOf Try.f83))) (retF tab [] K))) [27] [v0, v1, AV.any, AV.any, AV.any, AV.any, AV.any, AV.any, AV.any, AV.any, AV.any, AV.any, AV.any, AV.any, AV.any, AV.any, AV.any, AV.any, AV.any, AV.any, AV.any, AV.any, AV.any, AV.any, AV.any, v25, v26, v27, AV.any, AV.any, AV.any, AV.any, AV.any, AV.any, AV.any, AV.any, AV.any, AV.any, AV.any, AV.any, AV.any, AV.any, AV.any, AV.any, AV.any] H
def B83_0 (K : AV → Heap → Prop) (N1 : AV → Heap → Prop) (v0 : AV) (v1 : AV) (v25 : AV) (v26 : AV) (v27 : AV) (H : Heap) : Prop :=
 binV tab .lss 3 v27 v26 fun v28 =>
 condV v28 (indexAddrV tab 22 v25 v27 fun v29 =>
 loadV tab 3 v29 H fun v30 =>
 CallT Try.prog 83 [v0, v30] H fun v33 H2 =>
 binV tab .add 3 v27 (AV.p (.int .i64 1)) fun v34 =>
 N1 v34 H2)
 (nilCheckV v0 fun v37 =>
 fieldAddrV tab 96 v37 2 fun v38 =>
 loadV tab 22 v38 H fun v39 =>
 buildSliceV tab 22 1 [(0, v1)] H (wkK fun v41 H3 =>
 appendV tab 22 22 v39 v41 H3 (wkK fun v42 H4 =>
 nilCheckV v0 fun v43 =>
 fieldAddrV tab 96 v43 2 fun v44 =>
 storeV tab 22 v44 v42 H4 fun H5 =>
 K (.tup []) H5)))
def W83 (v0 : AV) (v1 : AV) (H : Heap) (K : AV → Heap → Prop) : Prop :=
 nilCheckV v0 fun v7 =>
 fieldAddrV tab 96 v7 1 fun v8 =>
 loadV tab 83 v8 H fun v9 =>
 indexAddrV tab 83 v9 v1 fun v11 =>
 loadV tab 4 v11 H fun v12 =>
 condV v12 (K (.tup []) H)
 (nilCheckV v0 fun v14 =>
 fieldAddrV tab 96 v14 1 fun v15 =>
 loadV tab 83 v15 H fun v16 =>
 indexAddrV tab 83 v16 v1 fun v18 =>
 storeV tab 4 v18 (AV.p (.bool true)) H fun H1 =>
 nilCheckV v0 fun v20 =>
 fieldAddrV tab 96 v20 0 fun v21 =>
 loadV tab 24 v21 H1 fun v22 =>
 indexAddrV tab 24 v22 v1 fun v24 =>
 loadV tab 22 v24 H1 fun v25 =>
 lenV tab 22 v25 fun v26 =>
 L83_0 K v0 v1 v25 v26 (AV.p (.int .i64 0)) H1)
theorem W83_wp (v0 : AV) (v1 : AV) (H : Heap) (K : AV → Heap → Prop) : wpC Try.prog tab D83 (bodyOf Try.f83) (retF tab [] K) (nthA [v0, v1]) H = W83 v0 v1 H K := by kernel_rfl
theorem W83_ok {v0 v1 : AV} {H : Heap} {K : AV → Heap → Prop} (h : W83 v0 v1 H K) : CallT Try.prog 83 [v0, v1] H K :=
  CallT.of_wp (D := D83) tab_ok mixed Try.func83 (c := bodyOf Try.f83) (by kernel_rfl) rfl (by kernel_rfl) (rs := #[]) rfl (by decide +kernel) (by kernel_rfl) (W83_wp v0 v1 H K) h
theorem L83_0_rule {K : AV → Heap → Prop} {v0 v1 v25 v26 v27 : AV} {H : Heap} {σ : Type} (s0 : σ) (f27 : σ → AV) (TH : σ → Heap) (pre : σ → Prop) (μ : σ → Nat)
    (h0 : pre s0 ∧ AV.wk v27 (f27 s0) ∧ Heap.le (TH s0) H)
    (round : ∀ s, pre s → B83_0 K (fun w27 H' => ∃ s', pre s' ∧ μ s' < μ s ∧ AV.wk w27 (f27 s') ∧ Heap.le (TH s') H') v0 v1 v25 v26 (f27 s) (TH s)) :
    L83_0 K v0 v1 v25 v26 v27 H := by
  unfold L83_0
  exact LoopV.mk s0 (fun s => [f27 s]) TH pre μ (fun _ => rfl) (Eq.mp (by kernel_rfl) h0) (fun s hs => Eq.mp (by kernel_rfl) (round s hs))
def D84 : Info := ⟨9, fun i => ([], []), fun i => ([], [])⟩
def W84 (v0 : AV) (v1 : AV) (H : Heap) (K : AV → Heap → Prop) : Prop :=
 CallT Try.prog 96 [v0, v1] H fun v7 H1 =>
 binV tab .geq 3 v7 (AV.p (.int .i64 0)) fun v8 =>
 K v8 H1
theorem W84_wp (v0 : AV) (v1 : AV) (H : Heap) (K : AV → Heap → Prop) : wpC Try.prog tab D84 (bodyOf Try.f84) (retF tab [.tmp 4] K) (nthA [v0, v1]) H = W84 v0 v1 H K := by kernel_rfl
theorem W84_ok {v0 v1 : AV} {H : Heap} {K : AV → Heap → Prop} (h : W84 v0 v1 H K) : CallT Try.prog 84 [v0, v1] H K :=
  CallT.of_wp (D := D84) tab_ok mixed Try.func84 (c := bodyOf Try.f84) (by kernel_rfl) rfl (by kernel_rfl) (rs := #[.tmp 4]) rfl (by decide +kernel) (by kernel_rfl) (W84_wp v0 v1 H K) h
def D85 : Info := ⟨8, fun i => ([], []), fun i => ([], [])⟩
def W85 (v0 : AV) (v1 : AV) (H : Heap) (K : AV → Heap → Prop) : Prop :=
 loadV tab 3 v1 H fun v5 =>
 CallT Try.prog 65 [v0, v5] H fun v6 H1 =>
 unV .not v6 fun v7 =>
 K v7 H1
theorem W85_wp (v0 : AV) (v1 : AV) (H : Heap) (K : AV → Heap → Prop) : wpC Try.prog tab D85 (bodyOf Try.f85) (retF tab [.tmp 3] K) (nthA [v0, v1]) H = W85 v0 v1 H K := by kernel_rfl
theorem W85_ok {v0 v1 : AV} {H : Heap} {K : AV → Heap → Prop} (h : W85 v0 v1 H K) : CallT Try.prog 85 [v0, v1] H K :=
  CallT.of_wp (D := D85) tab_ok mixed Try.func85 (c := bodyOf Try.f85) (by kernel_rfl) rfl (by kernel_rfl) (rs := #[.tmp 3]) rfl (by decide +kernel) (by kernel_rfl) (W85_wp v0 v1 H K) h
def D86 : Info := ⟨18, fun i => ([], []), fun i => if i = 3 then ([3, 6, 7], [8]) else ([], [])⟩
def L86_0 (K : AV → Heap → Prop) (v3 : AV) (v6 : AV) (v7 : AV) (v8 : AV) (H : Heap) : Prop := LoopV (wpC Try.prog tab D86 (cAt [1, 1, 0, 1, 0, 0] (bodyOf Try.f86))) [3, 6, 7] (PostF.block 0 (PostF.thenA (wpC Try.prog tab D86 (cAt [1, 1, 1] (bodyOf Try.f86))) (retF tab [.tmp 2] K))) [8] [AV.any, AV.any, AV.any, v3, AV.any, AV.any, v6, v7, v8, AV.any, AV.any, AV.any, AV.any, AV.any, AV.any, AV.any, AV.any, AV.any] H
def B86_0 (K : AV → Heap → Prop) (N1 : AV → Heap → Prop) (v3 : AV) (v6 : AV) (v7 : AV) (v8 : AV) (H : Heap) : Prop :=
 binV tab .lss 3 v8 v7 fun v9 =>
 condV v9 (indexAddrV tab 22 v6 v8 fun v10 =>
 loadV tab 3 v10 H fun v11 =>
 binV tab .neq 3 v11 v3 fun v14 =>
 condV v14 (K v11 H)
 (binV tab .add 3 v8 (AV.p (.int .i64 1)) fun v16 =>
 N1 v16 H))
 (K v3 H)
def W86 (v0 : AV) (H : Heap) (K : AV → Heap → Prop) : Prop :=
 lenV tab 22 v0 fun v7 =>
 L86_0 K (AV.p (.int .i64 0)) v0 v7 (AV.p (.int .i64 0)) H
theorem W86_wp (v0 : AV) (H : Heap) (K : AV → Heap → Prop) : wpC Try.prog tab D86 (bodyOf Try.f86) (retF tab [.tmp 2] K) (nthA [v0]) H = W86 v0 H K := by kernel_rfl
theorem W86_ok {v0 : AV} {H : Heap} {K : AV → Heap → Prop} (h : W86 v0 H K) : CallT Try.prog 86 [v0] H K :=
  CallT.of_wp (D := D86) tab_ok mixed Try.func86 (c := bodyOf Try.f86) (by kernel_rfl) rfl (by kernel_rfl) (rs := #[.tmp 2]) rfl (by decide +kernel) (by kernel_rfl) (W86_wp v0 H K) h
theorem L86_0_rule {K : AV → Heap → Prop} {v3 v6 v7 v8 : AV} {H : Heap} {σ : Type} (s0 : σ) (f8 : σ → AV) (TH : σ → Heap) (pre : σ → Prop) (μ : σ → Nat)
    (h0 : pre s0 ∧ AV.wk v8 (f8 s0) ∧ Heap.le (TH s0) H)
    (round : ∀ s, pre s → B86_0 K (fun w8 H' => ∃ s', pre s' ∧ μ s' < μ s ∧ AV.wk w8 (f8 s') ∧ Heap.le (TH s') H') v3 v6 v7 (f8 s) (TH s)) :
    L86_0 K v3 v6 v7 v8 H := by
  unfold L86_0
  exact LoopV.mk s0 (fun s => [f8 s]) TH pre μ (fun _ => rfl) (Eq.mp (by kernel_rfl) h0) (fun s hs => Eq.mp (by kernel_rfl) (round s hs))
def D87 : Info := ⟨20, fun i => ([], []), fun i => ([], [])⟩
def W87 (v0 : AV) (v1 : AV) (H : Heap) (K : AV → Heap → Prop) : Prop :=
 CallT Try.prog 97 [v0] H fun v8 H1 =>
 CallT Try.prog 97 [v1] H1 fun v10 H2 =>
 condV v8 (condV v10 (K (AV.p (.int .i64 0)) H2)
 (K (AV.p (.int .i64 (-1))) H2))
 (condV v10 (K (AV.p (.int .i64 1)) H2)
 (binV tab .lss 3 v0 v1 fun v16 =>
 condV v16 (K (AV.p (.int .i64 (-1))) H2)
 (binV tab .gtr 3 v0 v1 fun v19 =>
 condV v19 (K (AV.p (.int .i64 1)) H2)
 (K (AV.p (.int .i64 0)) H2))))
theorem W87_wp (v0 : AV) (v1 : AV) (H : Heap) (K : AV → Heap → Prop) : wpC Try.prog tab D87 (bodyOf Try.f87) (retF tab [.tmp 4] K) (nthA [v0, v1]) H = W87 v0 v1 H K := by kernel_rfl
theorem W87_ok {v0 v1 : AV} {H : Heap} {K : AV → Heap → Prop} (h : W87 v0 v1 H K) : CallT Try.prog 87 [v0, v1] H K :=
  CallT.of_wp (D := D87) tab_ok mixed Try.func87 (c := bodyOf Try.f87) (by kernel_rfl) rfl (by kernel_rfl) (rs := #[.tmp 4]) rfl (by decide +kernel) (by kernel_rfl) (W87_wp v0 v1 H K) h
def D88 : Info := ⟨39, fun i => if i = 2 then ([[], [], [1], [], [3], [], [], [5, 6], [0, 1, 2, 3, 4, 5, 6, 7], [0, 1, 2, 3, 4, 5, 6, 7, 8], [0, 1, 2, 3, 4, 5, 6, 7, 8, 9]], [(0, []), (1, []), (3, []), (6, []), (5, [2, 4]), (7, [2, 4]), (2, [2, 4]), (4, [4]), (8, []), (9, []), (10, [])]) else ([], []), fun i => if i = 4 then ([4, 19], [20]) else ([], [])⟩
def L88_0 (K : AV → Heap → Prop) (v4 : AV) (v19 : AV) (v20 : AV) (H : Heap) : Prop := LoopV (wpC Try.prog tab D88 (cAt [1, 1, 1, 0, 1, 0, 0] (bodyOf Try.f88))) [4, 19] (PostF.block 0 (PostF.thenA (wpC Try.prog tab D88 (cAt [1, 1, 1, 1] (bodyOf Try.f88))) (retF tab [.tmp 2] K))) [20] [AV.any, AV.any, AV.any, AV.any, v4, AV.any, AV.any, AV.any, AV.any, AV.any, AV.any, AV.any, AV.any, AV.any, AV.any, AV.any, AV.any, AV.any, AV.any, v19, v20, AV.any, AV.any, AV.any, AV.any, AV.any, AV.any, AV.any, AV.any, AV.any, AV.any, AV.any, AV.any, AV.any, AV.any, AV.any, AV.any, AV.any, AV.any] H
def B88_0 (K : AV → Heap → Prop) (N1 : AV → Heap → Prop) (v4 : AV) (v19 : AV) (v20 : AV) (H : Heap) : Prop :=
 binV tab .lss 3 v20 v19 fun v21 =>
 condV v21 (nilCheckV v4 fun v24 =>
 fieldAddrV tab 115 v24 1 fun v25 =>
 loadV tab 22 v25 H fun v26 =>
 indexAddrV tab 22 v26 v20 fun v28 =>
 loadV tab 3 v28 H fun v29 =>
 binV tab .eql 3 v29 (AV.p (.int .i64 0)) fun v30 =>
 condV v30 (CallT Try.prog 98 [v4, v20] H fun v33 H6 =>
 binV tab .add 3 v20 (AV.p (.int .i64 1)) fun v34 =>
 N1 v34 H6)
 (binV tab .add 3 v20 (AV.p (.int .i64 1)) fun v34 =>
 N1 v34 H))
 (nilCheckV v4 fun v36 =>
 fieldAddrV tab 115 v36 3 fun v37 =>
 loadV tab 22 v37 H fun v38 =>
 K v38 H)
def W88 (v0 : AV) (H : Heap) (K : AV → Heap → Prop) : Prop :=
 lenV tab 24 v0 fun v7 =>
 safeV (makeN tab 22 v7 v7) ∧
 safeV (makeN tab 22 v7 v7) ∧
 buildSliceV tab 22 1 [(0, (AV.p (.int .i64 (-1))))] H (wkK fun v13 H1 =>
 safeV (makeN tab 22 v7 v7) ∧
 safeV (makeN tab 22 v7 v7) ∧
 CallT Try.prog 46 [v13, v7] H1 fun v15 H2 =>
 safeV (makeN tab 22 v7 v7) ∧
 newV (makeN tab 22 v7 v7) H2 fun v10 H3 =>
 newV (makeN tab 22 v7 v7) H3 fun v12 H4 =>
 buildV tab 115 [(0, v0), (1, v10), (2, v12), (3, v15)] fun v16 =>
 boxV v16 H4 fun v17 H5 =>
 lenV tab 24 v0 fun v19 =>
 L88_0 K v17 v19 (AV.p (.int .i64 0)) H5)
theorem W88_wp (v0 : AV) (H : Heap) (K : AV → Heap → Prop) : wpC Try.prog tab D88 (bodyOf Try.f88) (retF tab [.tmp 2] K) (nthA [v0]) H = W88 v0 H K := by kernel_rfl
theorem W88_ok {v0 : AV} {H : Heap} {K : AV → Heap → Prop} (h : W88 v0 H K) : CallT Try.prog 88 [v0] H K :=
  CallT.of_wp (D := D88) tab_ok mixed Try.func88 (c := bodyOf Try.f88) (by kernel_rfl) rfl (by kernel_rfl) (rs := #[.tmp 2]) rfl (by decide +kernel) (by kernel_rfl) (W88_wp v0 H K) h
theorem L88_0_rule {K : AV → Heap → Prop} {v4 v19 v20 : AV} {H : Heap} {σ : Type} (s0 : σ) (f20 : σ → AV) (TH : σ → Heap) (pre : σ → Prop) (μ : σ → Nat)
    (h0 : pre s0 ∧ AV.wk v20 (f20 s0) ∧ Heap.le (TH s0) H)
    (round : ∀ s, pre s → B88_0 K (fun w20 H' => ∃ s', pre s' ∧ μ s' < μ s ∧ AV.wk w20 (f20 s') ∧ Heap.le (TH s') H') v4 v19 (f20 s) (TH s)) :
    L88_0 K v4 v19 v20 H := by
  unfold L88_0
  exact LoopV.mk s0 (fun s => [f20 s]) TH pre μ (fun _ => rfl) (Eq.mp (by kernel_rfl) h0) (fun s hs => Eq.mp (by kernel_rfl) (round s hs))
def D95 : Info := ⟨51, fun i => ([], []), fun i => ([], [])⟩
def W95 (v0 : AV) (v1 : AV) (H : Heap) (K : AV → Heap → Prop) : Prop :=
 binV tab .and 109 v0 (AV.p (.int .u64 4294967295)) fun v15 =>
 binV tab .shr 109 v0 (AV.p (.int .u64 32)) fun v17 =>
 binV tab .and 109 v1 (AV.p (.int .u64 4294967295)) fun v19 =>
 binV tab .shr 109 v1 (AV.p (.int .u64 32)) fun v21 =>
 binV tab .mul 109 v15 v19 fun v24 =>
 binV tab .mul 109 v17 v19 fun v27 =>
 binV tab .shr 109 v24 (AV.p (.int .u64 32)) fun v29 =>
 binV tab .add 109 v27 v29 fun v30 =>
 binV tab .and 109 v30 (AV.p (.int .u64 4294967295)) fun v32 =>
 binV tab .shr 109 v30 (AV.p (.int .u64 32)) fun v34 =>
 binV tab .mul 109 v15 v21 fun v38 =>
 binV tab .add 109 v32 v38 fun v39 =>
 binV tab .mul 109 v17 v21 fun v42 =>
 binV tab .add 109 v42 v34 fun v44 =>
 binV tab .shr 109 v39 (AV.p (.int .u64 32)) fun v46 =>
 binV tab .add 109 v44 v46 fun v47 =>
 binV tab .mul 109 v0 v1 fun v50 =>
 K (.tup [v47, v50]) H
theorem W95_wp (v0 : AV) (v1 : AV) (H : Heap) (K : AV → Heap → Prop) : wpC Try.prog tab D95 (bodyOf Try.f95) (retF tab [.tmp 4, .tmp 5] K) (nthA [v0, v1]) H = W95 v0 v1 H K := by kernel_rfl
theorem W95_ok {v0 v1 : AV} {H : Heap} {K : AV → Heap → Prop} (h : W95 v0 v1 H K) : CallT Try.prog 95 [v0, v1] H K :=
  CallT.of_wp (D := D95) tab_ok mixed Try.func95 (c := bodyOf Try.f95) (by kernel_rfl) rfl (by kernel_rfl) (rs := #[.tmp 4, .tmp 5]) rfl (by decide +kernel) (by kernel_rfl) (W95_wp v0 v1 H K) h
def D96 : Info := ⟨19, fun i => ([], []), fun i => if i = 2 then ([0, 1, 7], [8]) else ([], [])⟩
def L96_0 (K : AV → Heap → Prop) (v0 : AV) (v1 : AV) (v7 : AV) (v8 : AV) (H : Heap) : Prop := LoopV (wpC Try.prog tab D96 (cAt [1, 0, 1, 0, 0] (bodyOf Try.f96))) [0, 1, 7] (PostF.block 0 (PostF.thenA (wpC Try.prog tab D96 (cAt [1, 1] (bodyOf Try.f96))) (retF tab [.tmp 4] K))) [8] [v0, v1, AV.any, AV.any, AV.any, AV.any, AV.any, v7, v8, AV.any, AV.any, AV.any, AV.any, AV.any, AV.any, AV.any, AV.any, AV.any, AV.any] H
def B96_0 (K : AV → Heap → Prop) (N1 : AV → Heap → Prop) (v0 : AV) (v1 : AV) (v7 : AV) (v8 : AV) (H : Heap) : Prop :=
 binV tab .lss 3 v8 v7 fun v9 =>
 condV v9 (indexAddrV tab 24 v0 v8 fun v14 =>
 loadV tab 22 v14 H fun v15 =>
 callF Try.prog v1 [v15] H fun v16 H1 =>
 condV v16 (K v8 H1)
 (binV tab .add 3 v8 (AV.p (.int .i64 1)) fun v18 =>
 N1 v18 H1))
 (K (AV.p (.int .i64 (-1))) H)
def W96 (v0 : AV) (v1 : AV) (H : Heap) (K : AV → Heap → Prop) : Prop :=
 lenV tab 24 v0 fun v7 =>
 L96_0 K v0 v1 v7 (AV.p (.int .i64 0)) H
theorem W96_wp (v0 : AV) (v1 : AV) (H : Heap) (K : AV → Heap → Prop) : wpC Try.prog tab D96 (bodyOf Try.f96) (retF tab [.tmp 4] K) (nthA [v0, v1]) H = W96 v0 v1 H K := by kernel_rfl
theorem W96_ok {v0 v1 : AV} {H : Heap} {K : AV → Heap → Prop} (h : W96 v0 v1 H K) : CallT Try.prog 96 [v0, v1] H K :=
  CallT.of_wp (D := D96) tab_ok mixed Try.func96 (c := bodyOf Try.f96) (by kernel_rfl) rfl (by kernel_rfl) (rs := #[.tmp 4]) rfl (by decide +kernel) (by kernel_rfl) (W96_wp v0 v1 H K) h
theorem L96_0_rule {K : AV → Heap → Prop} {v0 v1 v7 v8 : AV} {H : Heap} {σ : Type} (s0 : σ) (f8 : σ → AV) (TH : σ → Heap) (pre : σ → Prop) (μ : σ → Nat)
    (h0 : pre s0 ∧ AV.wk v8 (f8 s0) ∧ Heap.le (TH s0) H)
    (round : ∀ s, pre s → B96_0 K (fun w8 H' => ∃ s', pre s' ∧ μ s' < μ s ∧ AV.wk w8 (f8 s') ∧ Heap.le (TH s') H') v0 v1 v7 (f8 s) (TH s)) :
    L96_0 K v0 v1 v7 v8 H := by
  unfold L96_0
  exact LoopV.mk s0 (fun s => [f8 s]) TH pre μ (fun _ => rfl) (Eq.mp (by kernel_rfl) h0) (fun s hs => Eq.mp (by kernel_rfl) (round s hs))
def D97 : Info := ⟨6, fun i => ([], []), fun i => ([], [])⟩
def W97 (v0 : AV) (H : Heap) (K : AV → Heap → Prop) : Prop :=
 binV tab .neq 3 v0 v0 fun v5 =>
 K v5 H
theorem W97_wp (v0 : AV) (H : Heap) (K : AV → Heap → Prop) : wpC Try.prog tab D97 (bodyOf Try.f97) (retF tab [.tmp 2] K) (nthA [v0]) H = W97 v0 H K := by kernel_rfl
theorem W97_ok {v0 : AV} {H : Heap} {K : AV → Heap → Prop} (h : W97 v0 H K) : CallT Try.prog 97 [v0] H K :=
  CallT.of_wp (D := D97) tab_ok mixed Try.func97 (c := bodyOf Try.f97) (by kernel_rfl) rfl (by kernel_rfl) (rs := #[.tmp 2]) rfl (by decide +kernel) (by kernel_rfl) (W97_wp v0 H K) h
def D98 : Info := ⟨177, fun i => if i = 1 then ([[], [0], [0, 1], [0, 1, 2], [], [], [5], [5, 6], [5, 6, 7], [], [], [10], [10, 11], [10, 11, 12], [], [14], [14, 15], [14, 15, 16], [0, 1, 2, 3, 4, 5, 6, 7, 8, 10, 11, 12, 13, 14, 15, 16, 17], [0, 1, 2, 3, 4, 5, 6, 7, 8, 10, 11, 12, 13, 14, 15, 16, 17, 18], [0, 1, 2, 3, 4, 5, 6, 7, 8, 9, 10, 11, 12, 13, 14, 15, 16, 17, 18, 19], [0, 1, 2, 3, 4, 5, 6, 7, 8, 9, 10, 11, 12, 13, 14, 15, 16, 17, 18, 19, 20]], [(0, []), (1, []), (2, []), (3, []), (4, []), (5, []), (6, []), (7, []), (8, []), (9, []), (10, []), (11, []), (12, []), (13, []), (14, []), (15, []), (16, []), (17, []), (18, []), (19, []), (20, []), (21, [])]) else if i = 8 then ([[], [0], [0, 1], [0, 1, 2], [], [], [5], [5, 6], [5, 6, 7], [], [5, 6, 7, 8, 9], [5, 6, 7, 8, 9, 10], [], [12], [12, 13], [12, 13, 14], [], [12, 13, 14, 15, 16], [12, 13, 14, 15, 16, 17], [5, 6, 7, 8, 9, 10, 11, 12, 13, 14, 15, 16, 17, 18], [0, 1, 2, 3, 4, 5, 6, 7, 8, 9, 10, 11, 12, 13, 14, 15, 16, 17, 18, 19], [0, 1, 2, 3, 4, 5, 6, 7, 8, 9, 10, 11, 12, 13, 14, 15, 16, 17, 18, 19, 20]], [(0, []), (1, []), (2, []), (3, []), (4, []), (5, []), (6, []), (7, []), (8, []), (9, []), (10, []), (11, []), (12, []), (13, []), (14, []), (15, []), (16, []), (17, []), (18, []), (19, []), (20, []), (21, [])]) else if i = 10 then ([[], [0], [0, 1], [0, 1, 2], [], [], [5], [5, 6], [5, 6, 7], [], [5, 6, 7, 8, 9], [5, 6, 7, 8, 9, 10], [], [12], [12, 13], [12, 13, 14], [], [12, 13, 14, 15, 16], [12, 13, 14, 15, 16, 17], [5, 6, 7, 8, 9, 10, 11, 12, 13, 14, 15, 16, 17, 18], [0, 1, 2, 3, 4, 5, 6, 7, 8, 9, 10, 11, 12, 13, 14, 15, 16, 17, 18, 19], [0, 1, 2, 3, 4, 5, 6, 7, 8, 9, 10, 11, 12, 13, 14, 15, 16, 17, 18, 19, 20]], [(0, []), (1, []), (2, []), (3, []), (4, []), (5, []), (6, []), (7, []), (8, []), (9, []), (10, []), (11, []), (12, []), (13, []), (14, []), (15, []), (16, []), (17, []), (18, []), (19, []), (20, []), (21, [])]) else if i = 12 then ([[], [0], [0, 1], [0, 1, 2], [], [0, 1, 2, 3, 4], [0, 1, 2, 3, 4, 5], [], [7], [7, 8], [7, 8, 9], [], [7, 8, 9, 10, 11], [7, 8, 9, 10, 11, 12], [0, 1, 2, 3, 4, 5, 6, 7, 8, 9, 10, 11, 12, 13]], [(0, []), (1, []), (2, []), (3, []), (4, []), (5, []), (6, []), (7, []), (8, []), (9, []), (10, []), (11, []), (12, []), (13, []), (14, [])]) else ([], []), fun i => if i = 4 then ([0, 1, 53, 54], [55]) else if i = 16 then ([0, 6, 7, 154, 155], [156]) else ([], [])⟩
def L98_0 (K : AV → Heap → Prop) (v0 : AV) (v1 : AV) (v53 : AV) (v54 : AV) (v55 : AV) (H : Heap) : Prop := LoopV (wpC Try.prog tab D98 (cAt [1, 1, 1, 0, 1, 0, 0] (bodyOf Try.f98))) [0, 1, 53, 54] (PostF.block 0 (PostF.thenA (wpC Try.prog tab D98 (cAt [1, 1, 1, 1] (bodyOf Try.f98))) (retF tab [] K))) [55] [v0, v1, AV.any, AV.any, AV.any, AV.any, AV.any, AV.any, AV.any, AV.any, AV.any, AV.any, AV.any, AV.any, AV.any, AV.any, AV.any, AV.any, AV.any, AV.any, AV.any, AV.any, AV.any, AV.any, AV.any, AV.any, AV.any, AV.any, AV.any, AV.any, AV.any, AV.any, AV.any, AV.any, AV.any, AV.any, AV.any, AV.any, AV.any, AV.any, AV.any, AV.any, AV.any, AV.any, AV.any, AV.any, AV.any, AV.any, AV.any, AV.any, AV.any, AV.any, AV.any, v53, v54, v55, AV.any, AV.any, AV.any, AV.any, AV.any, AV.any, AV.any, AV.any, AV.any, AV.any, AV.any, AV.any, AV.any, AV.any, AV.any, AV.any, AV.any, AV.any, AV.any, AV.any, AV.any, AV.any, AV.any, AV.any, AV.any, AV.any, AV.any, AV.any, AV.any, AV.any, AV.any, AV.any, AV.any, AV.any, AV.any, AV.any, AV.any, AV.any, AV.any, AV.any, AV.any, AV.any, AV.any, AV.any, AV.any, AV.any, AV.any, AV.any, AV.any, AV.any, AV.any, AV.any, AV.any, AV.any, AV.any, AV.any, AV.any, AV.any, AV.any, AV.any, AV.any, AV.any, AV.any, AV.any, AV.any, AV.any, AV.any, AV.any, AV.any, AV.any, AV.any, AV.any, AV.any, AV.any, AV.any, AV.any, AV.any, AV.any, AV.any, AV.any, AV.any, AV.any, AV.any, AV.any, AV.any, AV.any, AV.any, AV.any, AV.any, AV.any, AV.any, AV.any, AV.any, AV.any, AV.any, AV.any, AV.any, AV.any, AV.any, AV.any, AV.any, AV.any, AV.any, AV.any, AV.any, AV.any, AV.any, AV.any, AV.any, AV.any, AV.any, AV.any, AV.any, AV.any, AV.any, AV.any, AV.any, AV.any, AV.any, AV.any, AV.any] H
def L98_1 (K : AV → Heap → Prop) (v0 : AV) (v6 : AV) (v7 : AV) (v154 : AV) (v155 : AV) (v156 : AV) (H : Heap) : Prop := LoopV (wpC Try.prog tab D98 (cAt [1, 1, 1, 1, 1, 1, 1, 0, 1, 0, 0] (bodyOf Try.f98))) [0, 6, 7, 154, 155] (PostF.block 2 (PostF.thenA (wpC Try.prog tab D98 (cAt [1, 1, 1, 1, 1, 1, 1, 1] (bodyOf Try.f98))) (retF tab [] K))) [156] [v0, AV.any, AV.any, AV.any, AV.any, AV.any, v6, v7, AV.any, AV.any, AV.any, AV.any, AV.any, AV.any, AV.any, AV.any, AV.any, AV.any, AV.any, AV.any, AV.any, AV.any, AV.any, AV.any, AV.any, AV.any, AV.any, AV.any, AV.any, AV.any, AV.any, AV.any, AV.any, AV.any, AV.any, AV.any, AV.any, AV.any, AV.any, AV.any, AV.any, AV.any, AV.any, AV.any, AV.any, AV.any, AV.any, AV.any, AV.any, AV.any, AV.any, AV.any, AV.any, AV.any, AV.any, AV.any, AV.any, AV.any, AV.any, AV.any, AV.any, AV.any, AV.any, AV.any, AV.any, AV.any, AV.any, AV.any, AV.any, AV.any, AV.any, AV.any, AV.any, AV.any, AV.any, AV.any, AV.any, AV.any, AV.any, AV.any, AV.any, AV.any, AV.any, AV.any, AV.any, AV.any, AV.any, AV.any, AV.any, AV.any, AV.any, AV.any, AV.any, AV.any, AV.any, AV.any, AV.any, AV.any, AV.any, AV.any, AV.any, AV.any, AV.any, AV.any, AV.any, AV.any, AV.any, AV.any, AV.any, AV.any, AV.any, AV.any, AV.any, AV.any, AV.any, AV.any, AV.any, AV.any, AV.any, AV.any, AV.any, AV.any, AV.any, AV.any, AV.any, AV.any, AV.any, AV.any, AV.any, AV.any, AV.any, AV.any, AV.any, AV.any, AV.any, AV.any, AV.any, AV.any, AV.any, AV.any, AV.any, AV.any, AV.any, AV.any, AV.any, AV.any, AV.any, AV.any, AV.any, AV.any, AV.any, AV.any, AV.any, AV.any, v154, v155, v156, AV.any, AV.any, AV.any, AV.any, AV.any, AV.any, AV.any, AV.any, AV.any, AV.any, AV.any, AV.any, AV.any, AV.any, AV.any, AV.any, AV.any, AV.any, AV.any, AV.any] H
def B98_1 (K : AV → Heap → Prop) (N1 : AV → Heap → Prop) (v0 : AV) (v6 : AV) (v7 : AV) (v154 : AV) (v155 : AV) (v156 : AV) (H : Heap) : Prop :=
 binV tab .lss 3 v156 v155 fun v157 =>
 condV v157 (indexAddrV tab 22 v154 v156 fun v158 =>
 loadV tab 3 v158 H fun v159 =>
 nilCheckV v0 fun v161 =>
 fieldAddrV tab 115 v161 3 fun v162 =>
 loadV tab 22 v162 H fun v163 =>
 indexAddrV tab 22 v163 v159 fun v166 =>
 storeV tab 3 v166 v7 H fun H12 =>
 binV tab .add 3 v156 (AV.p (.int .i64 1)) fun v167 =>
 N1 v167 H12)
 (nilCheckV v0 fun v170 =>
 fieldAddrV tab 115 v170 4 fun v171 =>
 loadV tab 22 v171 H fun v172 =>
 sliceV tab 22 v172 none (some v6) none fun v174 =>
 nilCheckV v0 fun v175 =>
 fieldAddrV tab 115 v175 4 fun v176 =>
 storeV tab 22 v176 v174 H fun H13 =>
 K (.tup []) H13)
def B98_0 (K : AV → Heap → Prop) (N1 : AV → Heap → Prop) (v0 : AV) (v1 : AV) (v53 : AV) (v54 : AV) (v55 : AV) (H : Heap) : Prop :=
 binV tab .lss 3 v55 v54 fun v56 =>
 condV v56 (indexAddrV tab 22 v53 v55 fun v57 =>
 loadV tab 3 v57 H fun v58 =>
 nilCheckV v0 fun v60 =>
 fieldAddrV tab 115 v60 1 fun v61 =>
 loadV tab 22 v61 H fun v62 =>
 indexAddrV tab 22 v62 v58 fun v64 =>
 loadV tab 3 v64 H fun v65 =>
 binV tab .eql 3 v65 (AV.p (.int .i64 0)) fun v66 =>
 condV v66 (CallT Try.prog 98 [v0, v58] H fun v69 H7 =>
 nilCheckV v0 fun v71 =>
 fieldAddrV tab 115 v71 2 fun v72 =>
 loadV tab 22 v72 H7 fun v73 =>
 nilCheckV v0 fun v76 =>
 fieldAddrV tab 115 v76 2 fun v77 =>
 loadV tab 22 v77 H7 fun v78 =>
 indexAddrV tab 22 v78 v1 fun v80 =>
 loadV tab 3 v80 H7 fun v81 =>
 nilCheckV v0 fun v83 =>
 fieldAddrV tab 115 v83 2 fun v84 =>
 loadV tab 22 v84 H7 fun v85 =>
 indexAddrV tab 22 v85 v58 fun v87 =>
 loadV tab 3 v87 H7 fun v88 =>
 mmV .min v81 v88 fun v89 =>
 indexAddrV tab 22 v73 v1 fun v90 =>
 storeV tab 3 v90 v89 H7 fun H8 =>
 binV tab .add 3 v55 (AV.p (.int .i64 1)) fun v120 =>
 N1 v120 H8)
 (nilCheckV v0 fun v92 =>
 fieldAddrV tab 115 v92 3 fun v93 =>
 loadV tab 22 v93 H fun v94 =>
 indexAddrV tab 22 v94 v58 fun v96 =>
 loadV tab 3 v96 H fun v97 =>
 binV tab .lss 3 v97 (AV.p (.int .i64 0)) fun v98 =>
 condV v98 (nilCheckV v0 fun v100 =>
 fieldAddrV tab 115 v100 2 fun v101 =>
 loadV tab 22 v101 H fun v102 =>
 nilCheckV v0 fun v105 =>
 fieldAddrV tab 115 v105 2 fun v106 =>
 loadV tab 22 v106 H fun v107 =>
 indexAddrV tab 22 v107 v1 fun v109 =>
 loadV tab 3 v109 H fun v110 =>
 nilCheckV v0 fun v112 =>
 fieldAddrV tab 115 v112 1 fun v113 =>
 loadV tab 22 v113 H fun v114 =>
 indexAddrV tab 22 v114 v58 fun v116 =>
 loadV tab 3 v116 H fun v117 =>
 mmV .min v110 v117 fun v118 =>
 indexAddrV tab 22 v102 v1 fun v119 =>
 storeV tab 3 v119 v118 H fun H9 =>
 binV tab .add 3 v55 (AV.p (.int .i64 1)) fun v120 =>
 N1 v120 H9)
 (binV tab .add 3 v55 (AV.p (.int .i64 1)) fun v120 =>
 N1 v120 H)))
 (nilCheckV v0 fun v122 =>
 fieldAddrV tab 115 v122 2 fun v123 =>
 loadV tab 22 v123 H fun v124 =>
 indexAddrV tab 22 v124 v1 fun v126 =>
 loadV tab 3 v126 H fun v127 =>
 nilCheckV v0 fun v129 =>
 fieldAddrV tab 115 v129 1 fun v130 =>
 loadV tab 22 v130 H fun v131 =>
 indexAddrV tab 22 v131 v1 fun v133 =>
 loadV tab 3 v133 H fun v134 =>
 binV tab .lss 3 v127 v134 fun v135 =>
 condV v135 (K (.tup []) H)
 (nilCheckV v0 fun v137 =>
 fieldAddrV tab 115 v137 4 fun v138 =>
 loadV tab 22 v138 H fun v139 =>
 CallT Try.prog 111 [v139, v1] H fun v141 H10 =>
 nilCheckV v0 fun v143 =>
 fieldAddrV tab 115 v143 4 fun v144 =>
 loadV tab 22 v144 H10 fun v145 =>
 sliceV tab 22 v145 (some v141) none none fun v147 =>
 CallT Try.prog 112 [v147] H10 fun v148 H11 =>
 nilCheckV v0 fun v150 =>
 fieldAddrV tab 115 v150 4 fun v151 =>
 loadV tab 22 v151 H11 fun v152 =>
 sliceV tab 22 v152 (some v141) none none fun v154 =>
 lenV tab 22 v154 fun v155 =>
 L98_1 K v0 v141 v148 v154 v155 (AV.p (.int .i64 0)) H11))
def W98 (v0 : AV) (v1 : AV) (H : Heap) (K : AV → Heap → Prop) : Prop :=
 nilCheckV v0 fun v11 =>
 fieldAddrV tab 115 v11 5 fun v12 =>
 loadV tab 3 v12 H fun v13 =>
 binV tab .add 3 v13 (AV.p (.int .i64 1)) fun v14 =>
 nilCheckV v0 fun v15 =>
 fieldAddrV tab 115 v15 5 fun v16 =>
 storeV tab 3 v16 v14 H fun H1 =>
 nilCheckV v0 fun v18 =>
 fieldAddrV tab 115 v18 1 fun v19 =>
 loadV tab 22 v19 H1 fun v20 =>
 nilCheckV v0 fun v23 =>
 fieldAddrV tab 115 v23 2 fun v24 =>
 loadV tab 22 v24 H1 fun v25 =>
 nilCheckV v0 fun v28 =>
 fieldAddrV tab 115 v28 5 fun v29 =>
 loadV tab 3 v29 H1 fun v30 =>
 nilCheckV v0 fun v32 =>
 fieldAddrV tab 115 v32 5 fun v33 =>
 loadV tab 3 v33 H1 fun v34 =>
 indexAddrV tab 22 v20 v1 fun v35 =>
 storeV tab 3 v35 v30 H1 fun H2 =>
 indexAddrV tab 22 v25 v1 fun v36 =>
 storeV tab 3 v36 v34 H2 fun H3 =>
 nilCheckV v0 fun v39 =>
 fieldAddrV tab 115 v39 4 fun v40 =>
 loadV tab 22 v40 H3 fun v41 =>
 buildSliceV tab 22 1 [(0, v1)] H3 (wkK fun v43 H4 =>
 appendV tab 22 22 v41 v43 H4 (wkK fun v44 H5 =>
 nilCheckV v0 fun v45 =>
 fieldAddrV tab 115 v45 4 fun v46 =>
 storeV tab 22 v46 v44 H5 fun H6 =>
 nilCheckV v0 fun v48 =>
 fieldAddrV tab 115 v48 0 fun v49 =>
 loadV tab 24 v49 H6 fun v50 =>
 indexAddrV tab 24 v50 v1 fun v52 =>
 loadV tab 22 v52 H6 fun v53 =>
 lenV tab 22 v53 fun v54 =>
 L98_0 K v0 v1 v53 v54 (AV.p (.int .i64 0)) H6))
theorem W98_wp (v0 : AV) (v1 : AV) (H : Heap) (K : AV → Heap → Prop) : wpC Try.prog tab D98 (bodyOf Try.f98) (retF tab [] K) (nthA [v0, v1]) H = W98 v0 v1 H K := by kernel_rfl
theorem W98_ok {v0 v1 : AV} {H : Heap} {K : AV → Heap → Prop} (h : W98 v0 v1 H K) : CallT Try.prog 98 [v0, v1] H K :=
  CallT.of_wp (D := D98) tab_ok mixed Try.func98 (c := bodyOf Try.f98) (by kernel_rfl) rfl (by kernel_rfl) (rs := #[]) rfl (by decide +kernel) (by kernel_rfl) (W98_wp v0 v1 H K) h
theorem L98_1_rule {K : AV → Heap → Prop} {v0 v6 v7 v154 v155 v156 : AV} {H : Heap} {σ : Type} (s0 : σ) (f156 : σ → AV) (TH : σ → Heap) (pre : σ → Prop) (μ : σ → Nat)
    (h0 : pre s0 ∧ AV.wk v156 (f156 s0) ∧ Heap.le (TH s0) H)
    (round : ∀ s, pre s → B98_1 K (fun w156 H' => ∃ s', pre s' ∧ μ s' < μ s ∧ AV.wk w156 (f156 s') ∧ Heap.le (TH s') H') v0 v6 v7 v154 v155 (f156 s) (TH s)) :
    L98_1 K v0 v6 v7 v154 v155 v156 H := by
  unfold L98_1
  exact LoopV.mk s0 (fun s => [f156 s]) TH pre μ (fun _ => rfl) (Eq.mp (by kernel_rfl) h0) (fun s hs => Eq.mp (by kernel_rfl) (round s hs))
theorem L98_0_rule {K : AV → Heap → Prop} {v0 v1 v53 v54 v55 : AV} {H : Heap} {σ : Type} (s0 : σ) (f55 : σ → AV) (TH : σ → Heap) (pre : σ → Prop) (μ : σ → Nat)
    (h0 : pre s0 ∧ AV.wk v55 (f55 s0) ∧ Heap.le (TH s0) H)
    (round : ∀ s, pre s → B98_0 K (fun w55 H' => ∃ s', pre s' ∧ μ s' < μ s ∧ AV.wk w55 (f55 s') ∧ Heap.le (TH s') H') v0 v1 v53 v54 (f55 s) (TH s)) :
    L98_0 K v0 v1 v53 v54 v55 H := by
  unfold L98_0
  exact LoopV.mk s0 (fun s => [f55 s]) TH pre μ (fun _ => rfl) (Eq.mp (by kernel_rfl) h0) (fun s hs => Eq.mp (by kernel_rfl) (round s hs))
def D111 : Info := ⟨19, fun i => ([], []), fun i => if i = 2 then ([0, 1, 7], [8]) else ([], [])⟩
def L111_0 (K : AV → Heap → Prop) (v0 : AV) (v1 : AV) (v7 : AV) (v8 : AV) (H : Heap) : Prop := LoopV (wpC Try.prog tab D111 (cAt [1, 0, 1, 0, 0] (bodyOf Try.f111))) [0, 1, 7] (PostF.block 0 (PostF.thenA (wpC Try.prog tab D111 (cAt [1, 1] (bodyOf Try.f111))) (retF tab [.tmp 4] K))) [8] [v0, v1, AV.any, AV.any, AV.any, AV.any, AV.any, v7, v8, AV.any, AV.any, AV.any, AV.any, AV.any, AV.any, AV.any, AV.any, AV.any, AV.any] H
def B111_0 (K : AV → Heap → Prop) (N1 : AV → Heap → Prop) (v0 : AV) (v1 : AV) (v7 : AV) (v8 : AV) (H : Heap) : Prop :=
 binV tab .lss 3 v8 v7 fun v9 =>
 condV v9 (indexAddrV tab 22 v0 v8 fun v14 =>
 loadV tab 3 v14 H fun v15 =>
 binV tab .eql 3 v1 v15 fun v16 =>
 condV v16 (K v8 H)
 (binV tab .add 3 v8 (AV.p (.int .i64 1)) fun v18 =>
 N1 v18 H))
 (K (AV.p (.int .i64 (-1))) H)
def W111 (v0 : AV) (v1 : AV) (H : Heap) (K : AV → Heap → Prop) : Prop :=
 lenV tab 22 v0 fun v7 =>
 L111_0 K v0 v1 v7 (AV.p (.int .i64 0)) H
theorem W111_wp (v0 : AV) (v1 : AV) (H : Heap) (K : AV → Heap → Prop) : wpC Try.prog tab D111 (bodyOf Try.f111) (retF tab [.tmp 4] K) (nthA [v0, v1]) H = W111 v0 v1 H K := by kernel_rfl
theorem W111_ok {v0 v1 : AV} {H : Heap} {K : AV → Heap → Prop} (h : W111 v0 v1 H K) : CallT Try.prog 111 [v0, v1] H K :=
  CallT.of_wp (D := D111) tab_ok mixed Try.func111 (c := bodyOf Try.f111) (by kernel_rfl) rfl (by kernel_rfl) (rs := #[.tmp 4]) rfl (by decide +kernel) (by kernel_rfl) (W111_wp v0 v1 H K) h
theorem L111_0_rule {K : AV → Heap → Prop} {v0 v1 v7 v8 : AV} {H : Heap} {σ : Type} (s0 : σ) (f8 : σ → AV) (TH : σ → Heap) (pre : σ → Prop) (μ : σ → Nat)
    (h0 : pre s0 ∧ AV.wk v8 (f8 s0) ∧ Heap.le (TH s0) H)
    (round : ∀ s, pre s → B111_0 K (fun w8 H' => ∃ s', pre s' ∧ μ s' < μ s ∧ AV.wk w8 (f8 s') ∧ Heap.le (TH s') H') v0 v1 v7 (f8 s) (TH s)) :
    L111_0 K v0 v1 v7 v8 H := by
  unfold L111_0
  exact LoopV.mk s0 (fun s => [f8 s]) TH pre μ (fun _ => rfl) (Eq.mp (by kernel_rfl) h0) (fun s hs => Eq.mp (by kernel_rfl) (round s hs))
def D112 : Info := ⟨25, fun i => ([], []), fun i => if i = 5 then ([0], [3, 4]) else ([], [])⟩
def L112_0 (K : AV → Heap → Prop) (v0 : AV) (v3 : AV) (v4 : AV) (H : Heap) : Prop := LoopV (wpC Try.prog tab D112 (cAt [1, 1, 1, 0, 1, 0, 0] (bodyOf Try.f112))) [0] (PostF.block 0 (PostF.thenA (wpC Try.prog tab D112 (cAt [1, 1, 1, 1] (bodyOf Try.f112))) (retF tab [.tmp 2] K))) [3, 4] [v0, AV.any, AV.any, v3, v4, AV.any, AV.any, AV.any, AV.any, AV.any, AV.any, AV.any, AV.any, AV.any, AV.any, AV.any, AV.any, AV.any, AV.any, AV.any, AV.any, AV.any, AV.any, AV.any, AV.any] H
def B112_0 (K : AV → Heap → Prop) (N1 : AV → AV → Heap → Prop) (v0 : AV) (v3 : AV) (v4 : AV) (H : Heap) : Prop :=
 lenV tab 22 v0 fun v14 =>
 binV tab .lss 3 v4 v14 fun v15 =>
 condV v15 (indexAddrV tab 22 v0 v4 fun v21 =>
 loadV tab 3 v21 H fun v22 =>
 mmV .min v3 v22 fun v23 =>
 binV tab .add 3 v4 (AV.p (.int .i64 1)) fun v17 =>
 N1 v23 v17 H)
 (K v3 H)
def W112 (v0 : AV) (H : Heap) (K : AV → Heap → Prop) : Prop :=
 lenV tab 22 v0 fun v6 =>
 binV tab .lss 3 v6 (AV.p (.int .i64 1)) fun v7 =>
 condV v7 (False)
 (indexAddrV tab 22 v0 (AV.p (.int .i64 0)) fun v10 =>
 loadV tab 3 v10 H fun v11 =>
 L112_0 K v0 v11 (AV.p (.int .i64 1)) H)
theorem W112_wp (v0 : AV) (H : Heap) (K : AV → Heap → Prop) : wpC Try.prog tab D112 (bodyOf Try.f112) (retF tab [.tmp 2] K) (nthA [v0]) H = W112 v0 H K := by kernel_rfl
theorem W112_ok {v0 : AV} {H : Heap} {K : AV → Heap → Prop} (h : W112 v0 H K) : CallT Try.prog 112 [v0] H K :=
  CallT.of_wp (D := D112) tab_ok mixed Try.func112 (c := bodyOf Try.f112) (by kernel_rfl) rfl (by kernel_rfl) (rs := #[.tmp 2]) rfl (by decide +kernel) (by kernel_rfl) (W112_wp v0 H K) h
theorem L112_0_rule {K : AV → Heap → Prop} {v0 v3 v4 : AV} {H : Heap} {σ : Type} (s0 : σ) (f3 : σ → AV) (f4 : σ → AV) (TH : σ → Heap) (pre : σ → Prop) (μ : σ → Nat)
    (h0 : pre s0 ∧ AV.wk v3 (f3 s0) ∧ AV.wk v4 (f4 s0) ∧ Heap.le (TH s0) H)
    (round : ∀ s, pre s → B112_0 K (fun w3 w4 H' => ∃ s', pre s' ∧ μ s' < μ s ∧ AV.wk w3 (f3 s') ∧ AV.wk w4 (f4 s') ∧ Heap.le (TH s') H') v0 (f3 s) (f4 s) (TH s)) :
    L112_0 K v0 v3 v4 H := by
  unfold L112_0
  exact LoopV.mk s0 (fun s => [f3 s, f4 s]) TH pre μ (fun _ => rfl) (Eq.mp (by kernel_rfl) h0) (fun s hs => Eq.mp (by kernel_rfl) (round s hs))
end Go.Proofs.Ytolffbcnbcjeaaa
namespace Go.Proofs.Ytolffbcnbcjeaaa
open Go Go.Sep
attribute [local irreducible] CallT
theorem i64_id {n : Int} (h0 : -9223372036854775808 ≤ n) (h1 : n ≤ 9223372036854775807) : IntKind.i64.wrap n = n := wrap64_id h0 h1
theorem wk_int {k : IntKind} {a b : Int} : AV.wk (.p (.int k a)) (.p (.int k b)) = (a = b) := by
  apply propext; constructor
  · intro h; cases h; rfl
  · rintro rfl; exact .refl _
theorem take_all_succ {α : Type} {p : α → Bool} {xs : List α} {i : Nat} (h : i < xs.length) : (xs.take (i + 1)).all p = ((xs.take i).all p && p xs[i]) := by
  rw [List.take_succ_eq_append_getElem h, List.all_append]; simp
theorem getD_lt {α : Type} {xs : List α} {i : Nat} {d : α} (h : i < xs.length) : xs.getD i d = xs[i] := by simp [List.getD, h]
theorem getD_all {α : Type} {p : α → Prop} {l : List α} {d : α} (h : ∀ b ∈ l, p b) {i : Nat} (hi : i < l.length) : p (l.getD i d) := by
  simp only [List.getD, List.getElem?_eq_getElem hi, Option.getD_some]; exact h _ (List.getElem_mem hi)
theorem range_all_succ {p : Nat → Bool} {n : Nat} : (List.range (n + 1)).all p = ((List.range n).all p && p n) := by
  rw [List.range_succ, List.all_append]; simp
theorem range_all_false {p : Nat → Bool} {n i : Nat} (hi : i < n) (h : p i = false) : (List.range n).all p = false := by
  rw [List.all_eq_false]; exact ⟨i, List.mem_range.2 hi, by simp [h]⟩
theorem Wk.own_le {q sz : Nat} {es : List (List PV)} {H H' : Heap} (hpos : 0 < sz) (hs : Sized sz es) (hq : H q = none) (hle : Heap.le (H.set q (cells es)) H') : Wk (own q sz es) H' (.p (.sl es)) H := by
  have h1 : H' q = some (cells es) := hle q _ (Heap.set_same _ _ _)
  refine .trans (.own hpos hs h1) (.forget (Heap.le_del (fun x b hx => hle x b ?_) hq))
  rw [Heap.set_other (fun e => by rw [e, hq] at hx; cases hx)]; exact hx
theorem CallT.fin {P : Program} {f : Nat} {args : List AV} {H : Heap} {K : AV → Heap → Prop} (h : CallT P f args H (wkK K)) : CallT P f args H K :=
  h.wk fun v H1 ⟨v', H2, hw, hk⟩ => ⟨v', H2, hw, hk⟩
theorem szI (xs : List Int) : Sized 1 (xs.map eI) := sized_map (f := eI) (fun _ => rfl) xs
theorem cells_I (xs : List Int) : cells (xs.map eI) = xs.map fun n => I n := by
  induction xs with
  | nil => rfl
  | cons x xs ih => simp only [cells, List.map_cons, List.flatten_cons, List.map_append] at ih ⊢; rw [ih]; rfl
abbrev eL (l : List Int) : List PV := [.sl (l.map eI)]
abbrev Ls (cs : List (List Int)) : AV := .p (.sl (cs.map eL))
theorem fin_own {q sz : Nat} {es : List (List PV)} {H H' : Heap} {K : AV → Heap → Prop} (hpos : 0 < sz) (hs : Sized sz es) (hq : H q = none) (hle : Heap.le (H.set q (cells es)) H') (h : K (.p (.sl es)) H) : wkK K (own q sz es) H' :=
  ⟨_, _, Wk.own_le hpos hs hq hle, h⟩
theorem fin_le {v : AV} {H H' : Heap} {K : AV → Heap → Prop} (hle : Heap.le H H') (h : K v H) : wkK K v H' := ⟨_, _, .forget hle, h⟩
def PuAt (P : Program) (f : Nat) (args : List AV) (H : Heap) (v : AV) : Prop := ∀ K : AV → Heap → Prop, K v H → CallT P f args H K
theorem Pu.at {P : Program} {f : Nat} {args : List AV} {v : AV} (h : Pu P f args v) (H : Heap) : PuAt P f args H v := fun K hk => h.use hk
theorem PuAt.use {P : Program} {f : Nat} {args : List AV} {v : AV} {H : Heap} (h : PuAt P f args H v) {K : AV → Heap → Prop} (k : K v H) : CallT P f args H K := h K k
def enumP : Nat → List PV → List (Nat × AV)
  | _, [] => []
  | k, v :: vs => (k, .p v) :: enumP (k + 1) vs
theorem fill_enum : ∀ (vs : List PV) (k : Nat) (a : List AV) (b : List AV), a.length = k → vs.length ≤ b.length →
    fillV (fun i => some (i * 1, 1)) (a ++ b) (enumP k vs) = some (a ++ vs.map .p ++ b.drop vs.length)
  | [], k, a, b, h1, h2 => by simp [enumP, fillV]
  | v :: vs, k, a, b, h1, h2 => by
    match b, h2 with
    | x :: b, h2 =>
      have hb : vs.length ≤ b.length := by simpa using h2
      have ih := fill_enum vs (k + 1) (a ++ [.p v]) b (by simp [h1]) hb
      simp only [enumP, fillV, AV.cells, List.length_cons, List.length_nil, Nat.zero_add, Nat.mul_one]
      rw [if_pos ⟨trivial, by simp [h1]⟩]
      have hs : splice (a ++ x :: b) k [AV.p v] = (a ++ [AV.p v]) ++ b := by
        subst h1
        simp [splice, List.append_assoc, List.drop_append]
      rw [hs]
      simp only [Nat.mul_one] at ih
      rw [ih]
      simp
theorem lit_gen {tab : Tab} {t e : Nat} {d ed : TD} {H : Heap} {K : AV → Heap → Prop} (h1 : tab t = some d) (h2 : d.k = .slice e) (h3 : tab e = some ed) (h4 : ed.size = 1 ∧ ed.zero.length = 1) (vs : List PV)
    (hsm : vs.length ≤ 1000)
    (h : K (.p (.sl (vs.map fun v => [v]))) H) : buildSliceV tab t vs.length (enumP 0 vs) H (wkK K) := by
  obtain ⟨z, hz⟩ : ∃ z, ed.zero = [z] := by
    match ed.zero, h4.2 with
    | [z], _ => exact ⟨z, rfl⟩
  simp only [buildSliceV, h1, h2, h3, h4.1]
  refine ⟨by omega, ?_⟩
  have hzl : (zerosA vs.length ed.zero).length = vs.length := by rw [zerosA_len, hz]; simp
  have := fill_enum vs 0 [] (zerosA vs.length ed.zero) rfl (by omega)
  rw [List.nil_append, List.nil_append, List.drop_of_length_le (by omega), List.append_nil] at this
  rw [this]
  intro r hr
  have hf : ∀ vs : List PV, (vs.map fun v => [v]).flatten = vs := by
    intro vs
    induction vs with
    | nil => rfl
    | cons v vs ih => simp only [List.map_cons, List.flatten_cons, ih, List.singleton_append]
  refine ⟨_, _, Wk.trans (Wk.frz (r := r) (sz := 1) (es := vs.map fun v => [v]) (v := .sl r 1 0 vs.length) (v' := .p (.sl (vs.map fun v => [v]))) (by omega) ?_ ?_ ?_) (.forget ?_), h⟩
  · rw [Heap.set_same, hf vs]
  · intro e he; obtain ⟨v, _, rfl⟩ := List.mem_map.1 he; rfl
  · have : FrzR r 1 (vs.map fun v => [v]) (.sl r 1 0 (vs.map fun v => [v]).length) (.p (.sl (vs.map fun v => [v]))) := .here
    rwa [List.length_map] at this
  · rw [Heap.del_set hr]; exact Heap.le_refl _
theorem lit3 {tab : Tab} {t e : Nat} {d ed : TD} {a b c : PV} {H : Heap} {K : AV → Heap → Prop} (h1 : tab t = some d) (h2 : d.k = .slice e) (h3 : tab e = some ed) (h4 : ed.size = 1 ∧ ed.zero.length = 1)
    (h : K (.p (.sl [[a], [b], [c]])) H) : buildSliceV tab t 3 [(0, .p a), (1, .p b), (2, .p c)] H (wkK K) := lit_gen h1 h2 h3 h4 [a, b, c] (by simp) h
end Go.Proofs.Ytolffbcnbcjeaaa
namespace Go.Proofs.Ytolffbcnbcjeaaa
open Go Go.Sep
attribute [local irreducible] CallT
theorem l1In_spec (a lo hi : Int) : Pu Try.prog 55 [I a, I lo, I hi] (B (decide (lo ≤ a) && decide (a ≤ hi))) := by
  refine Pu.of fun H => ?_
  refine W55_ok ?_; simp (maxSteps := 1000000) (disch := first | assumption | (apply ν6; assumption)) only [W55, vz, vu, vv, eqS, eF_, ↓c1_, ↓c2_, tabs, reduceCtorEq, ι5, ↓reduceIte, ν1, ν2, ν3, ν4, ν5, ι1, ι2, ι3, ι4]
  exact ⟨fun h => by simp [h], fun h => by simp [h]⟩
end Go.Proofs.Ytolffbcnbcjeaaa
namespace Go.Proofs.Ytolffbcnbcjeaaa
open Go Go.Sep
def rowZ {α : Type} (e : α → List PV) (zero : List AV) (xs : List α) (i : Nat) : List AV := cells ((xs.take i).map e) ++ zerosA (xs.length - i) zero
theorem rowZ_zero {α : Type} {e : α → List PV} {zero : List AV} {xs : List α} : rowZ e zero xs 0 = zerosA xs.length zero := by simp [rowZ, cells]
theorem rowZ_end {α : Type} {e : α → List PV} {zero : List AV} {xs : List α} : rowZ e zero xs xs.length = cells (xs.map e) := by
  simp [rowZ, zerosA]
theorem cells_map_len {α : Type} {e : α → List PV} {sz : Nat} (h : ∀ a, (e a).length = sz) (xs : List α) : (cells (xs.map e)).length = xs.length * sz := by
  rw [cells_len (sized_map h xs), List.length_map]
theorem rowZ_len {α : Type} {e : α → List PV} {zero : List AV} {xs : List α} {i sz : Nat} (h : ∀ a, (e a).length = sz) (hz : zero.length = sz) (hi : i ≤ xs.length) : (rowZ e zero xs i).length = xs.length * sz := by
  rw [rowZ, List.length_append, cells_map_len h, zerosA_len, hz, List.length_take, Nat.min_eq_left hi, ← Nat.add_mul]
  congr 1; omega
theorem zerosA_succ (n : Nat) (z : List AV) : zerosA (n + 1) z = z ++ zerosA n z := by simp [zerosA, List.replicate_succ]
theorem rowZ_put {α : Type} [Inhabited α] {e : α → List PV} {zero : List AV} {xs : List α} {i sz : Nat} (h : ∀ a, (e a).length = sz) (hz : zero.length = sz) (hi : i < xs.length) {off : Nat} (ho : off = i * sz) {n : Nat} (hn : n = sz) :
    List.take off (rowZ e zero xs i) ++ (e (xs.getD i default)).map .p ++ List.drop (off + n) (rowZ e zero xs i) = rowZ e zero xs (i + 1) := by
  subst ho; subst hn
  have hl : (cells ((xs.take i).map e)).length = i * n := by rw [cells_map_len h, List.length_take, Nat.min_eq_left (Nat.le_of_lt hi)]
  have e1 : List.take (i * n) (rowZ e zero xs i) = cells ((xs.take i).map e) := by
    rw [rowZ, List.take_append_of_le_length (by omega), List.take_of_length_le (by omega)]
  have e2 : List.drop (i * n + n) (rowZ e zero xs i) = zerosA (xs.length - (i + 1)) zero := by
    rw [rowZ, List.drop_append, List.drop_of_length_le (by omega), List.nil_append, hl, Nat.add_sub_cancel_left]
    obtain ⟨m, hm⟩ : ∃ m, xs.length - i = m + 1 := ⟨xs.length - i - 1, by omega⟩
    rw [hm, zerosA_succ, List.drop_append_of_le_length (by omega), List.drop_of_length_le (by omega), List.nil_append]
    congr 1; omega
  rw [e1, e2, rowZ]
  congr 1
  rw [List.take_succ_eq_append_getElem hi, List.map_append, cells_app]
  congr 1
  simp [cells, List.getD, hi]
end Go.Proofs.Ytolffbcnbcjeaaa
namespace Go.Pt
structure Nd where
  op : Int
  n : Int
deriving Inhabited, DecidableEq
structure Ch where
  var : Int
  by_ : List Nd
deriving Inhabited, DecidableEq
structure Cm where
  when_ : List Nd
  chs : List Ch
deriving Inhabited, DecidableEq
structure Pg where
  wide : Int
  vars : Int
  start : List Nd
  cmds : List Cm
deriving Inhabited, DecidableEq
def inB (n lo hi : Int) : Bool := decide (lo ≤ n) && decide (n ≤ hi)
def own (op : Int) : Int :=
  if op = 1 ∨ op = 2 ∨ op = 13 ∨ (3 ≤ op ∧ op ≤ 12) then 1
  else if op = 20 ∨ op = 19 ∨ (14 ≤ op ∧ op ≤ 16) ∨ op = 17 ∨ op = 18 then 2 else 0
def many (op : Int) : Nat :=
  if op = 13 ∨ op = 19 then 1 else if (3 ≤ op ∧ op ≤ 12) ∨ (14 ≤ op ∧ op ≤ 16) ∨ op = 17 ∨ op = 18 then 2 else 0
def part (op : Int) : Int :=
  if op = 13 ∨ (3 ≤ op ∧ op ≤ 12) ∨ (14 ≤ op ∧ op ≤ 16) then 1 else 2
def leafOk (wide vars : Int) (x : Nd) : Bool :=
  if x.op = 1 then inB wide 1 64 && decide (x.n < 2 ^ wide.toNat)
  else if x.op = 2 then decide (x.n < vars)
  else if x.op = 20 then decide (x.n ≤ 1)
  else decide (x.n = 0)
def step (w v : Int) (p : List Int) (x : Nd) : Option (List Int) :=
  if own x.op = 0 ∨ leafOk w v x = false ∨ p.length < many x.op then none
  else if (p.drop (p.length - many x.op)).any (fun k => decide (k ≠ part x.op)) then none
  else some (p.take (p.length - many x.op) ++ [own x.op])
def run (w v : Int) : List Int → List Nd → Option (List Int)
  | p, [] => some p
  | p, x :: xs => (step w v p x).bind fun p' => run w v p' xs
def frame (w v : Int) (t : List Nd) : Bool := inB w 1 64 && inB v 1 4 && (decide (1 ≤ t.length) && decide (t.length ≤ 48))
def kind (w v : Int) (t : List Nd) : Int :=
  if frame w v t then (match run w v [] t with
    | some [k] => k
    | _ => 0) else 0
theorem take_succ_snoc {α : Type} [Inhabited α] {xs : List α} {i : Nat} (h : i < xs.length) : xs.take (i + 1) = xs.take i ++ [xs.getD i default] := by
  rw [List.take_succ_eq_append_getElem h]; simp [List.getD, h]
end Go.Pt
namespace Go.Proofs.Ytolffbcnbcjeaaa
open Go Go.Sep Go.Pt
attribute [local irreducible] CallT
abbrev eN (x : Nd) : List PV := [.int .i64 x.op, .int .u64 x.n]
abbrev Ns (xs : List Nd) : AV := .p (.sl (xs.map eN))
abbrev eCh (c : Ch) : List PV := [.int .i64 c.var, .sl (c.by_.map eN)]
abbrev eCm (c : Cm) : List PV := [.sl (c.when_.map eN), .sl (c.chs.map eCh)]
abbrev Cms (cs : List Cm) : AV := .p (.sl (cs.map eCm))
abbrev aPg (p : Pg) : AV := .agg [I p.wide, I p.vars, Ns p.start, Cms p.cmds]
abbrev aS (of : List Int) : AV := .agg [Is of]
def ok (n : Nat) : Prop := n ≤ 9223372036854775807
def psum {α : Type} (f : α → Nat) (xs : List α) (i : Nat) : Nat := ((xs.take i).map f).sum
theorem psum_succ {α : Type} [Inhabited α] {f : α → Nat} {xs : List α} {i : Nat} (h : i < xs.length) : psum f xs (i + 1) = psum f xs i + f (xs.getD i default) := by
  rw [psum, take_succ_snoc h, List.map_append, List.sum_append]; simp [psum]
theorem psum_le {α : Type} {f : α → Nat} {xs : List α} (i : Nat) : psum f xs i ≤ psum f xs xs.length := by
  rw [psum, psum, List.take_length]
  conv => rhs; rw [← List.take_append_drop i xs]
  rw [List.map_append, List.sum_append]; omega
def szR (left : Int) (n : Nat) : Int := if (n : Int) ≤ left then left - n else -1
theorem szR_neg {left : Int} {n : Nat} (h : left < n) : szR left n = -1 := by rw [szR, if_neg (by omega)]
theorem szR_pos {left : Int} {n : Nat} (h : (n : Int) ≤ left) : szR left n = left - n := by rw [szR, if_pos h]
theorem szIntS_spec (t : List Int) (left : Int) (h0 : 0 ≤ left) (h1 : left ≤ 1048576) (hl : ok t.length) : Pu Try.prog 20 [Is t, I left] (I (szR left t.length)) := by
  refine Pu.of fun H => ?_
  unfold ok at hl
  have e : IntKind.i64.wrap (left - t.length) = left - t.length := i64_id (by omega) (by omega)
  refine W20_ok ?_; simp (maxSteps := 1000000) (disch := first | assumption | (apply ν6; assumption)) only [W20, vz, vu, vv, eqS, eF_, ↓c1_, ↓c2_, tabs, reduceCtorEq, ι5, ↓reduceIte, ν1, ν2, ν3, ν4, ν5, ι1, ι2, ι3, ι4, e]
  refine ⟨fun h => by rw [szR_neg (by omega)], fun h => by rw [szR_pos (by omega)]⟩
end Go.Proofs.Ytolffbcnbcjeaaa
namespace Go.Proofs.Ytolffbcnbcjeaaa
open Go Go.Sep Go.Pt
attribute [local irreducible] CallT
theorem psum_mem {α : Type} {f : α → Nat} {xs : List α} {x : α} (h : x ∈ xs) : f x ≤ psum f xs xs.length := by
  rw [psum, List.take_length]
  induction xs with
  | nil => cases h
  | cons y ys ih =>
    simp only [List.map_cons, List.sum_cons]
    rcases List.mem_cons.1 h with rfl | h
    · omega
    · have := ih h; omega
theorem toIntS_spec (xs : List Int) (hl : xs.length ≤ 1048576) : Pu Try.prog 26 [Is xs] (Is xs) := by
  refine ⟨fun H => CallT.fin ?_⟩
  refine W26_ok ?_; simp (maxSteps := 1000000) (disch := first | assumption | (apply ν6; assumption)) only [W26, vz, vu, vv, eqS, eF_, ↓c1_, ↓c2_, tabs, reduceCtorEq, ι5, ↓reduceIte, ν1, ν2, ν3, ν4, ν5, ι1, ι2, ι3, ι4, makeSliceV]
  refine ⟨by omega, by omega, by omega, by omega, fun q hq => ?_⟩
  have z0 : rowZ eI [I 0] xs 0 = zerosA xs.length [I 0] := rowZ_zero
  rw [← z0]
  refine L26_0_rule (0 : Nat) (fun i => I i) (fun i => H.set q (rowZ eI [I 0] xs i)) (fun i => i ≤ xs.length) (fun i => xs.length - i) ⟨by omega, .refl _, Heap.le_refl _⟩ ?_
  intro i hi
  have hrl := rowZ_len (e := eI) (zero := [I 0]) (xs := xs) (i := i) (sz := 1) (fun _ => rfl) rfl hi
  (try simp (maxSteps := 1000000) (disch := first | assumption | (apply ν6; assumption)) only [vz, vu, vv, eqS, eF_, ↓c1_, ↓c2_, tabs, reduceCtorEq, ι5, ↓reduceIte, ν1, ν2, ν3, ν4, ν5, ι1, ι2, ι3, ι4, B26_0])
  refine ⟨fun h => ⟨by omega, h, ?_⟩, fun h => ?_⟩
  · have hlt : i < xs.length := by omega
    have hput := rowZ_put (e := eI) (zero := [I 0]) (xs := xs) (i := i) (sz := 1) (fun _ => rfl) rfl hlt rfl rfl
    (try simp (maxSteps := 1000000) (disch := first | assumption | (apply ν6; assumption)) only [vz, vu, vv, eqS, eF_, ↓c1_, ↓c2_, tabs, reduceCtorEq, ι5, ↓reduceIte, ν1, ν2, ν3, ν4, ν5, ι1, ι2, ι3, ι4])
    refine ⟨by omega, h, by omega, i + 1, by omega, by omega, ?_, ?_⟩
    · rw [wk_int, i64_id (by omega) (by omega)]; simp
    · rw [← hput]; exact Heap.le_refl _
  · have : i = xs.length := by omega
    subst this
    have := fin_own (sz := 1) (es := xs.map eI) (q := q) (H := H) (H' := H.set q (rowZ eI [I 0] xs xs.length)) (K := fun r H' => r = Is xs ∧ H' = H) (by omega) (sized_map (f := eI) (fun _ => rfl) xs) hq (by rw [rowZ_end]; exact Heap.le_refl _) ⟨rfl, rfl⟩
    simpa only [Go.Sep.own, List.length_map] using this
theorem eqIntS_spec (xs : List Int) (hl : xs.length ≤ 1048576) : Pu Try.prog 32 [Is xs, Is xs] (B true) := by
  refine Pu.of fun H => ?_
  refine W32_ok ?_; simp (maxSteps := 1000000) (disch := first | assumption | (apply ν6; assumption)) only [W32, vz, vu, vv, eqS, eF_, ↓c1_, ↓c2_, tabs, reduceCtorEq, ι5, ↓reduceIte, ν1, ν2, ν3, ν4, ν5, ι1, ι2, ι3, ι4]
  refine L32_0_rule (0 : Nat) (fun i => I i) (fun _ => H) (fun i => i ≤ xs.length) (fun i => xs.length - i) ⟨by omega, .refl _, Heap.le_refl _⟩ ?_
  intro i hi
  (try simp (maxSteps := 1000000) (disch := first | assumption | (apply ν6; assumption)) only [vz, vu, vv, eqS, eF_, ↓c1_, ↓c2_, tabs, reduceCtorEq, ι5, ↓reduceIte, ν1, ν2, ν3, ν4, ν5, ι1, ι2, ι3, ι4, B32_0])
  intro h
  have hlt : i < xs.length := by omega
  refine ⟨by omega, h, by omega, h, ?_⟩
  (try simp (maxSteps := 1000000) (disch := first | assumption | (apply ν6; assumption)) only [vz, vu, vv, eqS, eF_, ↓c1_, ↓c2_, tabs, reduceCtorEq, ι5, ↓reduceIte, ν1, ν2, ν3, ν4, ν5, ι1, ι2, ι3, ι4])
  refine ⟨i + 1, by omega, by omega, ?_⟩
  rw [wk_int, i64_id (by omega) (by omega)]; simp
end Go.Proofs.Ytolffbcnbcjeaaa
namespace Go.Pt
structure Ed where
  src : Int
  lt : Int
  dst : Int
deriving Inhabited
structure Au where
  states : Int
  first : List Int
  edges : List Ed
  goals : List (List Int)
deriving Inhabited
def riseAt (l : List Int) (n : Int) (i : Nat) : Bool := (decide (0 ≤ l.getD i default) && decide (l.getD i default < n)) && (decide (i = 0) || decide (l.getD (i - 1) default < l.getD i default))
def rising (l : List Int) (n : Int) : Bool := (List.range l.length).all (riseAt l n)
def edLt (a b : Ed) : Bool := if a.src = b.src then (if a.lt = b.lt then decide (a.dst < b.dst) else decide (a.lt < b.lt)) else decide (a.src < b.src)
def edIn (n : Int) (e : Ed) : Bool := (decide (0 ≤ e.src) && decide (e.src < n)) && ((decide (0 ≤ e.dst) && decide (e.dst < n)) && (decide (0 ≤ e.lt) && decide (e.lt < 8)))
def edAt (n : Int) (es : List Ed) (i : Nat) : Bool := edIn n (es.getD i default) && (decide (i = 0) || edLt (es.getD (i - 1) default) (es.getD i default))
def edsOk (n : Int) (es : List Ed) : Bool := (List.range es.length).all (edAt n es)
def goodA (a : Au) : Bool := (decide (1 ≤ a.states) && decide (a.states ≤ 96)) && (rising a.first a.states && (decide (a.edges.length ≤ 2400) && ((decide (a.goals.length ≤ 6) && a.goals.all (fun g => rising g a.states)) && edsOk a.states a.edges)))
end Go.Pt
namespace Go.Proofs.Ytolffbcnbcjeaaa
open Go Go.Sep Go.Pt
attribute [local irreducible] CallT
abbrev eE (x : Ed) : List PV := [.int .i64 x.src, .int .i64 x.lt, .int .i64 x.dst]
abbrev aE (x : Ed) : AV := .agg [I x.src, I x.lt, I x.dst]
abbrev Es (xs : List Ed) : AV := .p (.sl (xs.map eE))
abbrev aAu (a : Au) : AV := .agg [I a.states, Is a.first, Es a.edges, Ls a.goals]
def okLs (cs : List (List Int)) : Prop := ok cs.length ∧ ∀ c ∈ cs, ok c.length
def okAu (a : Au) : Prop := ok a.first.length ∧ ok a.edges.length ∧ okLs a.goals
def totL (l : List Int) : Nat := l.length
def totLs (cs : List (List Int)) : Nat := cs.length + psum totL cs cs.length
def totAu (a : Au) : Nat := a.first.length + a.edges.length + totLs a.goals
def smLs (cs : List (List Int)) : Prop := cs.length ≤ 1048576 ∧ ∀ c ∈ cs, c.length ≤ 1048576
def smAu (a : Au) : Prop := a.first.length ≤ 1048576 ∧ a.edges.length ≤ 1048576 ∧ smLs a.goals
theorem smAu_of {a : Au} (h : (totAu a : Int) ≤ 1048576) : smAu a := by
  unfold totAu totLs at h
  refine ⟨by omega, by omega, by omega, fun c hc => ?_⟩
  have := psum_mem (f := totL) hc
  unfold totL at *
  omega
theorem szEdgeS_spec (t : List Ed) (left : Int) (h0 : 0 ≤ left) (h1 : left ≤ 1048576) (hl : ok t.length) : Pu Try.prog 21 [Es t, I left] (I (szR left t.length)) := by
  refine Pu.of fun H => ?_
  unfold ok at hl
  have e : IntKind.i64.wrap (left - t.length) = left - t.length := i64_id (by omega) (by omega)
  refine W21_ok ?_; simp (maxSteps := 1000000) (disch := first | assumption | (apply ν6; assumption)) only [W21, vz, vu, vv, eqS, eF_, ↓c1_, ↓c2_, tabs, reduceCtorEq, ι5, ↓reduceIte, ν1, ν2, ν3, ν4, ν5, ι1, ι2, ι3, ι4, e]
  refine ⟨fun h => by rw [szR_neg (by omega)], fun h => by rw [szR_pos (by omega)]⟩
theorem szIntSS_spec (cs : List (List Int)) (left : Int) (h0 : 0 ≤ left) (h1 : left ≤ 1048576) (hl : okLs cs) : Pu Try.prog 22 [Ls cs, I left] (I (szR left (totLs cs))) := by
  refine Pu.of fun H => ?_
  have hl1 := hl.1
  unfold ok at hl1
  have e : IntKind.i64.wrap (left - cs.length) = left - cs.length := i64_id (by omega) (by omega)
  refine W22_ok ?_; simp (maxSteps := 1000000) (disch := first | assumption | (apply ν6; assumption)) only [W22, vz, vu, vv, eqS, eF_, ↓c1_, ↓c2_, tabs, reduceCtorEq, ι5, ↓reduceIte, ν1, ν2, ν3, ν4, ν5, ι1, ι2, ι3, ι4, e]
  refine ⟨fun h => by rw [szR_neg (by unfold totLs; omega)], fun h => ?_⟩
  refine L22_0_rule (0 : Nat) (fun i => I (left - cs.length - psum totL cs i)) (fun i => I i) (fun _ => H) (fun i => i ≤ cs.length ∧ (cs.length : Int) + psum totL cs i ≤ left) (fun i => cs.length - i) ⟨⟨by omega, by simp [psum]; omega⟩, ?_, .refl _, Heap.le_refl _⟩ ?_
  · rw [wk_int]; simp [psum]
  rintro i ⟨hi, hs⟩
  (try simp (maxSteps := 1000000) (disch := first | assumption | (apply ν6; assumption)) only [vz, vu, vv, eqS, eF_, ↓c1_, ↓c2_, tabs, reduceCtorEq, ι5, ↓reduceIte, ν1, ν2, ν3, ν4, ν5, ι1, ι2, ι3, ι4, B22_0])
  refine ⟨fun h2 => ⟨by omega, h2, ?_⟩, fun h2 => ?_⟩
  · have hlt : i < cs.length := by omega
    have hm : cs.getD i default ∈ cs := getD_all (p := fun x => x ∈ cs) (fun _ h => h) hlt
    refine Pu.use (szIntS_spec (cs.getD i default) _ (by omega) (by omega) (hl.2 _ hm)) ?_
    have hsucc := psum_succ (f := totL) hlt
    have hle := psum_le (f := totL) (xs := cs) (i + 1)
    have et : totL (cs.getD i default) = (cs.getD i default).length := rfl
    rw [et] at hsucc
    (try simp (maxSteps := 1000000) (disch := first | assumption | (apply ν6; assumption)) only [vz, vu, vv, eqS, eF_, ↓c1_, ↓c2_, tabs, reduceCtorEq, ι5, ↓reduceIte, ν1, ν2, ν3, ν4, ν5, ι1, ι2, ι3, ι4])
    refine ⟨fun h3 => ?_, fun h3 => ⟨i + 1, ⟨by omega, ?_⟩, by omega, ?_, ?_⟩⟩
    · rw [szR_neg]
      unfold szR at h3
      unfold totLs
      split at h3 <;> omega
    · unfold szR at h3
      split at h3 <;> omega
    · rw [wk_int]
      unfold szR at h3 ⊢
      split at h3
      · rename_i h4; rw [if_pos h4]; omega
      · omega
    · rw [wk_int, i64_id (by omega) (by omega)]; simp
  · have : i = cs.length := by omega
    subst this
    rw [szR_pos (by unfold totLs; omega)]
    unfold totLs
    exact congrArg (fun n : Int => I n) (by omega)
theorem szAuto_spec (a : Au) (left : Int) (h0 : 0 ≤ left) (h1 : left ≤ 1048576) (hl : okAu a) : Pu Try.prog 6 [aAu a, I left] (I (szR left (totAu a))) := by
  refine Pu.of fun H => ?_
  refine W6_ok ?_; simp (maxSteps := 1000000) (disch := first | assumption | (apply ν6; assumption)) only [W6, vz, vu, vv, eqS, eF_, ↓c1_, ↓c2_, tabs, reduceCtorEq, ι5, ↓reduceIte, ν1, ν2, ν3, ν4, ν5, ι1, ι2, ι3, ι4]
  intro r hr
  refine Pu.use (szIntS_spec a.first left h0 h1 hl.1) ?_
  (try simp (maxSteps := 1000000) (disch := first | assumption | (apply ν6; assumption)) only [vz, vu, vv, eqS, eF_, ↓c1_, ↓c2_, tabs, reduceCtorEq, ι5, ↓reduceIte, ν1, ν2, ν3, ν4, ν5, ι1, ι2, ι3, ι4])
  refine ⟨fun h => ⟨?_, Heap.le_set hr⟩, fun h => ?_⟩
  · unfold szR at h
    rw [szR_neg]
    unfold totAu
    split at h <;> omega
  have e1 : szR left a.first.length = left - a.first.length := by
    unfold szR at h ⊢
    split at h
    · rename_i h2; rw [if_pos h2]
    · omega
  rw [e1] at h ⊢
  refine Pu.use (szEdgeS_spec a.edges _ (by omega) (by omega) hl.2.1) ?_
  (try simp (maxSteps := 1000000) (disch := first | assumption | (apply ν6; assumption)) only [vz, vu, vv, eqS, eF_, ↓c1_, ↓c2_, tabs, reduceCtorEq, ι5, ↓reduceIte, ν1, ν2, ν3, ν4, ν5, ι1, ι2, ι3, ι4])
  refine ⟨fun h3 => ⟨?_, Heap.le_set hr⟩, fun h3 => ?_⟩
  · unfold szR at h3
    rw [szR_neg]
    unfold totAu
    split at h3 <;> omega
  have e2 : szR (left - a.first.length) a.edges.length = left - a.first.length - a.edges.length := by
    unfold szR at h3 ⊢
    split at h3
    · rename_i h2; rw [if_pos h2]
    · omega
  rw [e2] at h3 ⊢
  refine Pu.use (szIntSS_spec a.goals _ (by omega) (by omega) hl.2.2) ?_
  (try simp (maxSteps := 1000000) (disch := first | assumption | (apply ν6; assumption)) only [vz, vu, vv, eqS, eF_, ↓c1_, ↓c2_, tabs, reduceCtorEq, ι5, ↓reduceIte, ν1, ν2, ν3, ν4, ν5, ι1, ι2, ι3, ι4])
  refine ⟨fun h4 => ⟨?_, Heap.le_set hr⟩, fun h4 => ⟨?_, Heap.le_set hr⟩⟩
  · unfold szR at h4
    rw [szR_neg]
    unfold totAu
    split at h4 <;> omega
  · unfold szR at h4 ⊢
    unfold totAu
    split at h4
    · rename_i h2; rw [if_pos h2, if_pos (by omega)]
      exact congrArg (fun n : Int => I n) (by omega)
    · omega
theorem toEdge_spec (c : Ed) : Pu Try.prog 64 [aE c] (aE c) := by
  refine Pu.of fun H => ?_
  refine W64_ok ?_; simp (maxSteps := 1000000) (disch := first | assumption | (apply ν6; assumption)) only [W64, vz, vu, vv, eqS, eF_, ↓c1_, ↓c2_, tabs, reduceCtorEq, ι5, ↓reduceIte, ν1, ν2, ν3, ν4, ν5, ι1, ι2, ι3, ι4]
  intro r hr r2 n1 h2 r3 n2 n3 h3
  (try simp (maxSteps := 1000000) (disch := first | assumption | (apply ν6; assumption)) only [vz, vu, vv, eqS, eF_, ↓c1_, ↓c2_, tabs, reduceCtorEq, ι5, ↓reduceIte, ν1, ν2, ν3, ν4, ν5, ι1, ι2, ι3, ι4])
  (repeat first | exact Heap.le_refl _ | refine Heap.le_setN ?_ (by assumption))
theorem toEdgeS_spec (xs : List Ed) (hl : xs.length ≤ 1048576) : Pu Try.prog 27 [Es xs] (Es xs) := by
  refine ⟨fun H => CallT.fin ?_⟩
  refine W27_ok ?_; simp (maxSteps := 1000000) (disch := first | assumption | (apply ν6; assumption)) only [W27, vz, vu, vv, eqS, eF_, ↓c1_, ↓c2_, tabs, reduceCtorEq, ι5, ↓reduceIte, ν1, ν2, ν3, ν4, ν5, ι1, ι2, ι3, ι4, makeSliceV]
  refine ⟨by omega, by omega, by omega, by omega, fun q hq => ?_⟩
  have z0 : rowZ eE [I 0, I 0, I 0] xs 0 = zerosA xs.length [I 0, I 0, I 0] := rowZ_zero
  rw [← z0]
  refine L27_0_rule (0 : Nat) (fun i => I i) (fun i => H.set q (rowZ eE [I 0, I 0, I 0] xs i)) (fun i => i ≤ xs.length) (fun i => xs.length - i) ⟨by omega, .refl _, Heap.le_refl _⟩ ?_
  intro i hi
  have hrl := rowZ_len (e := eE) (zero := [I 0, I 0, I 0]) (xs := xs) (i := i) (sz := 3) (fun _ => rfl) rfl hi
  (try simp (maxSteps := 1000000) (disch := first | assumption | (apply ν6; assumption)) only [vz, vu, vv, eqS, eF_, ↓c1_, ↓c2_, tabs, reduceCtorEq, ι5, ↓reduceIte, ν1, ν2, ν3, ν4, ν5, ι1, ι2, ι3, ι4, B27_0])
  refine ⟨fun h => ⟨by omega, h, ?_⟩, fun h => ?_⟩
  · have hlt : i < xs.length := by omega
    have hput := rowZ_put (e := eE) (zero := [I 0, I 0, I 0]) (xs := xs) (i := i) (sz := 3) (fun _ => rfl) rfl hlt rfl rfl
    refine Pu.use (toEdge_spec (xs.getD i default)) ?_
    (try simp (maxSteps := 1000000) (disch := first | assumption | (apply ν6; assumption)) only [vz, vu, vv, eqS, eF_, ↓c1_, ↓c2_, tabs, reduceCtorEq, ι5, ↓reduceIte, ν1, ν2, ν3, ν4, ν5, ι1, ι2, ι3, ι4])
    refine ⟨by omega, h, by omega, i + 1, by omega, by omega, ?_, ?_⟩
    · rw [wk_int, i64_id (by omega) (by omega)]; simp
    · rw [← hput]; exact Heap.le_refl _
  · have : i = xs.length := by omega
    subst this
    have := fin_own (sz := 3) (es := xs.map eE) (q := q) (H := H) (H' := H.set q (rowZ eE [I 0, I 0, I 0] xs xs.length)) (K := fun r H' => r = Es xs ∧ H' = H) (by omega) (sized_map (f := eE) (fun _ => rfl) xs) hq (by rw [rowZ_end]; exact Heap.le_refl _) ⟨rfl, rfl⟩
    simpa only [Go.Sep.own, List.length_map] using this
theorem toIntSS_spec (xs : List (List Int)) (hs : smLs xs) : Pu Try.prog 28 [Ls xs] (Ls xs) := by
  have hl := hs.1
  refine ⟨fun H => CallT.fin ?_⟩
  refine W28_ok ?_; simp (maxSteps := 1000000) (disch := first | assumption | (apply ν6; assumption)) only [W28, vz, vu, vv, eqS, eF_, ↓c1_, ↓c2_, tabs, reduceCtorEq, ι5, ↓reduceIte, ν1, ν2, ν3, ν4, ν5, ι1, ι2, ι3, ι4, makeSliceV]
  refine ⟨by omega, by omega, by omega, by omega, fun q hq => ?_⟩
  have z0 : rowZ eL [.p .nil] xs 0 = zerosA xs.length [.p .nil] := rowZ_zero
  rw [← z0]
  refine L28_0_rule (0 : Nat) (fun i => I i) (fun i => H.set q (rowZ eL [.p .nil] xs i)) (fun i => i ≤ xs.length) (fun i => xs.length - i) ⟨by omega, .refl _, Heap.le_refl _⟩ ?_
  intro i hi
  have hrl := rowZ_len (e := eL) (zero := [.p .nil]) (xs := xs) (i := i) (sz := 1) (fun _ => rfl) rfl hi
  (try simp (maxSteps := 1000000) (disch := first | assumption | (apply ν6; assumption)) only [vz, vu, vv, eqS, eF_, ↓c1_, ↓c2_, tabs, reduceCtorEq, ι5, ↓reduceIte, ν1, ν2, ν3, ν4, ν5, ι1, ι2, ι3, ι4, B28_0])
  refine ⟨fun h => ⟨by omega, h, ?_⟩, fun h => ?_⟩
  · have hlt : i < xs.length := by omega
    have hput := rowZ_put (e := eL) (zero := [.p .nil]) (xs := xs) (i := i) (sz := 1) (fun _ => rfl) rfl hlt rfl rfl
    have hm : xs.getD i default ∈ xs := getD_all (p := fun x => x ∈ xs) (fun _ h => h) hlt
    refine Pu.use (toIntS_spec (xs.getD i default) (hs.2 _ hm)) ?_
    (try simp (maxSteps := 1000000) (disch := first | assumption | (apply ν6; assumption)) only [vz, vu, vv, eqS, eF_, ↓c1_, ↓c2_, tabs, reduceCtorEq, ι5, ↓reduceIte, ν1, ν2, ν3, ν4, ν5, ι1, ι2, ι3, ι4])
    refine ⟨by omega, h, by omega, i + 1, by omega, by omega, ?_, ?_⟩
    · rw [wk_int, i64_id (by omega) (by omega)]; simp
    · rw [← hput]; exact Heap.le_refl _
  · have : i = xs.length := by omega
    subst this
    have := fin_own (sz := 1) (es := xs.map eL) (q := q) (H := H) (H' := H.set q (rowZ eL [.p .nil] xs xs.length)) (K := fun r H' => r = Ls xs ∧ H' = H) (by omega) (sized_map (f := eL) (fun _ => rfl) xs) hq (by rw [rowZ_end]; exact Heap.le_refl _) ⟨rfl, rfl⟩
    simpa only [Go.Sep.own, List.length_map] using this
theorem toAuto_spec (c : Au) (h : smAu c) : Pu Try.prog 8 [aAu c] (aAu c) := by
  refine Pu.of fun H => ?_
  refine W8_ok ?_; simp (maxSteps := 1000000) (disch := first | assumption | (apply ν6; assumption)) only [W8, vz, vu, vv, eqS, eF_, ↓c1_, ↓c2_, tabs, reduceCtorEq, ι5, ↓reduceIte, ν1, ν2, ν3, ν4, ν5, ι1, ι2, ι3, ι4]
  intro r hr r2 n1 h2 r3 n2 n3 h3
  (try simp (maxSteps := 1000000) (disch := first | assumption | (apply ν6; assumption)) only [vz, vu, vv, eqS, eF_, ↓c1_, ↓c2_, tabs, reduceCtorEq, ι5, ↓reduceIte, ν1, ν2, ν3, ν4, ν5, ι1, ι2, ι3, ι4])
  refine Pu.use (toIntS_spec c.first h.1) ?_
  (try simp (maxSteps := 1000000) (disch := first | assumption | (apply ν6; assumption)) only [vz, vu, vv, eqS, eF_, ↓c1_, ↓c2_, tabs, reduceCtorEq, ι5, ↓reduceIte, ν1, ν2, ν3, ν4, ν5, ι1, ι2, ι3, ι4])
  refine Pu.use (toEdgeS_spec c.edges h.2.1) ?_
  (try simp (maxSteps := 1000000) (disch := first | assumption | (apply ν6; assumption)) only [vz, vu, vv, eqS, eF_, ↓c1_, ↓c2_, tabs, reduceCtorEq, ι5, ↓reduceIte, ν1, ν2, ν3, ν4, ν5, ι1, ι2, ι3, ι4])
  refine Pu.use (toIntSS_spec c.goals h.2.2) ?_
  (try simp (maxSteps := 1000000) (disch := first | assumption | (apply ν6; assumption)) only [vz, vu, vv, eqS, eF_, ↓c1_, ↓c2_, tabs, reduceCtorEq, ι5, ↓reduceIte, ν1, ν2, ν3, ν4, ν5, ι1, ι2, ι3, ι4])
  (repeat first | exact Heap.le_refl _ | refine Heap.le_setN ?_ (by assumption))
theorem eqEdge_spec (c : Ed) : Pu Try.prog 71 [aE c, aE c] (B true) := by
  refine Pu.of fun H => ?_
  refine W71_ok ?_; simp (maxSteps := 1000000) (disch := first | assumption | (apply ν6; assumption)) only [W71, vz, vu, vv, eqS, eF_, ↓c1_, ↓c2_, tabs, reduceCtorEq, ι5, ↓reduceIte, ν1, ν2, ν3, ν4, ν5, ι1, ι2, ι3, ι4]
  intro r hr r2 n1 h2
  (try simp (maxSteps := 1000000) (disch := first | assumption | (apply ν6; assumption)) only [vz, vu, vv, eqS, eF_, ↓c1_, ↓c2_, tabs, reduceCtorEq, ι5, ↓reduceIte, ν1, ν2, ν3, ν4, ν5, ι1, ι2, ι3, ι4])
  (repeat first | exact Heap.le_refl _ | refine Heap.le_setN ?_ (by assumption))
theorem eqEdgeS_spec (xs : List Ed) (hl : xs.length ≤ 1048576) : Pu Try.prog 33 [Es xs, Es xs] (B true) := by
  refine Pu.of fun H => ?_
  refine W33_ok ?_; simp (maxSteps := 1000000) (disch := first | assumption | (apply ν6; assumption)) only [W33, vz, vu, vv, eqS, eF_, ↓c1_, ↓c2_, tabs, reduceCtorEq, ι5, ↓reduceIte, ν1, ν2, ν3, ν4, ν5, ι1, ι2, ι3, ι4]
  refine L33_0_rule (0 : Nat) (fun i => I i) (fun _ => H) (fun i => i ≤ xs.length) (fun i => xs.length - i) ⟨by omega, .refl _, Heap.le_refl _⟩ ?_
  intro i hi
  (try simp (maxSteps := 1000000) (disch := first | assumption | (apply ν6; assumption)) only [vz, vu, vv, eqS, eF_, ↓c1_, ↓c2_, tabs, reduceCtorEq, ι5, ↓reduceIte, ν1, ν2, ν3, ν4, ν5, ι1, ι2, ι3, ι4, B33_0])
  intro h
  have hlt : i < xs.length := by omega
  refine ⟨by omega, h, by omega, h, ?_⟩
  refine Pu.use (eqEdge_spec (xs.getD i default)) ?_
  (try simp (maxSteps := 1000000) (disch := first | assumption | (apply ν6; assumption)) only [vz, vu, vv, eqS, eF_, ↓c1_, ↓c2_, tabs, reduceCtorEq, ι5, ↓reduceIte, ν1, ν2, ν3, ν4, ν5, ι1, ι2, ι3, ι4])
  refine ⟨i + 1, by omega, by omega, ?_⟩
  rw [wk_int, i64_id (by omega) (by omega)]; simp
theorem eqIntSS_spec (xs : List (List Int)) (hs : smLs xs) : Pu Try.prog 34 [Ls xs, Ls xs] (B true) := by
  have hl := hs.1
  refine Pu.of fun H => ?_
  refine W34_ok ?_; simp (maxSteps := 1000000) (disch := first | assumption | (apply ν6; assumption)) only [W34, vz, vu, vv, eqS, eF_, ↓c1_, ↓c2_, tabs, reduceCtorEq, ι5, ↓reduceIte, ν1, ν2, ν3, ν4, ν5, ι1, ι2, ι3, ι4]
  refine L34_0_rule (0 : Nat) (fun i => I i) (fun _ => H) (fun i => i ≤ xs.length) (fun i => xs.length - i) ⟨by omega, .refl _, Heap.le_refl _⟩ ?_
  intro i hi
  (try simp (maxSteps := 1000000) (disch := first | assumption | (apply ν6; assumption)) only [vz, vu, vv, eqS, eF_, ↓c1_, ↓c2_, tabs, reduceCtorEq, ι5, ↓reduceIte, ν1, ν2, ν3, ν4, ν5, ι1, ι2, ι3, ι4, B34_0])
  intro h
  have hlt : i < xs.length := by omega
  have hm : xs.getD i default ∈ xs := getD_all (p := fun x => x ∈ xs) (fun _ h => h) hlt
  refine ⟨by omega, h, by omega, h, ?_⟩
  refine Pu.use (eqIntS_spec (xs.getD i default) (hs.2 _ hm)) ?_
  (try simp (maxSteps := 1000000) (disch := first | assumption | (apply ν6; assumption)) only [vz, vu, vv, eqS, eF_, ↓c1_, ↓c2_, tabs, reduceCtorEq, ι5, ↓reduceIte, ν1, ν2, ν3, ν4, ν5, ι1, ι2, ι3, ι4])
  refine ⟨i + 1, by omega, by omega, ?_⟩
  rw [wk_int, i64_id (by omega) (by omega)]; simp
theorem eqAuto_spec (c : Au) (h : smAu c) : Pu Try.prog 10 [aAu c, aAu c] (B true) := by
  refine Pu.of fun H => ?_
  refine W10_ok ?_; simp (maxSteps := 1000000) (disch := first | assumption | (apply ν6; assumption)) only [W10, vz, vu, vv, eqS, eF_, ↓c1_, ↓c2_, tabs, reduceCtorEq, ι5, ↓reduceIte, ν1, ν2, ν3, ν4, ν5, ι1, ι2, ι3, ι4]
  intro r hr r2 n1 h2
  (try simp (maxSteps := 1000000) (disch := first | assumption | (apply ν6; assumption)) only [vz, vu, vv, eqS, eF_, ↓c1_, ↓c2_, tabs, reduceCtorEq, ι5, ↓reduceIte, ν1, ν2, ν3, ν4, ν5, ι1, ι2, ι3, ι4])
  refine Pu.use (eqIntS_spec c.first h.1) ?_
  (try simp (maxSteps := 1000000) (disch := first | assumption | (apply ν6; assumption)) only [vz, vu, vv, eqS, eF_, ↓c1_, ↓c2_, tabs, reduceCtorEq, ι5, ↓reduceIte, ν1, ν2, ν3, ν4, ν5, ι1, ι2, ι3, ι4])
  refine Pu.use (eqEdgeS_spec c.edges h.2.1) ?_
  (try simp (maxSteps := 1000000) (disch := first | assumption | (apply ν6; assumption)) only [vz, vu, vv, eqS, eF_, ↓c1_, ↓c2_, tabs, reduceCtorEq, ι5, ↓reduceIte, ν1, ν2, ν3, ν4, ν5, ι1, ι2, ι3, ι4])
  refine Pu.use (eqIntSS_spec c.goals h.2.2) ?_
  (try simp (maxSteps := 1000000) (disch := first | assumption | (apply ν6; assumption)) only [vz, vu, vv, eqS, eF_, ↓c1_, ↓c2_, tabs, reduceCtorEq, ι5, ↓reduceIte, ν1, ν2, ν3, ν4, ν5, ι1, ι2, ι3, ι4])
  (repeat first | exact Heap.le_refl _ | refine Heap.le_setN ?_ (by assumption))
end Go.Proofs.Ytolffbcnbcjeaaa
namespace Go.Proofs.Ytolffbcnbcjeaaa
open Go Go.Sep Go.Pt Go.RowKit
theorem typed_i64 {x : List PV} (h : Typed Try.prog 3 x) : ∃ n : Int, x = [.int .i64 n] := by
  obtain ⟨n, _, rfl⟩ := typed_int (k := .i64) (by kernel_rfl) h
  exact ⟨n, rfl⟩
theorem typed_intl {x : List PV} (h : Typed Try.prog 22 x) : ∃ t : List Int, ok t.length ∧ x = [.sl (t.map eI)] := by
  obtain ⟨es, rfl, hl, he⟩ := typed_slice (e := 3) (by kernel_rfl) h
  obtain ⟨t, h1, rfl, h3⟩ := rows_of (Q := fun _ => True) (e := eI) es fun y hy => by
    obtain ⟨n, rfl⟩ := typed_i64 (he y hy)
    exact ⟨n, trivial, rfl⟩
  exact ⟨t, by unfold ok; omega, rfl⟩
theorem typed_intll {x : List PV} (h : Typed Try.prog 24 x) : ∃ t : List (List Int), okLs t ∧ x = [.sl (t.map eL)] := by
  obtain ⟨es, rfl, hl, he⟩ := typed_slice (e := 22) (by kernel_rfl) h
  obtain ⟨t, h1, rfl, h3⟩ := rows_of (Q := fun l : List Int => ok l.length) (e := eL) es fun y hy => by
    obtain ⟨l, hl, rfl⟩ := typed_intl (he y hy)
    exact ⟨l, hl, rfl⟩
  exact ⟨t, ⟨by unfold ok; omega, h1⟩, rfl⟩
theorem typed_edge {x : List PV} (h : Typed Try.prog 81 x) : ∃ a : Ed, x = eE a := by
  have h := typed_fields (ts := [3, 3, 3]) (by kernel_rfl) h
  obtain ⟨a, b, rfl, h1, h⟩ := typedAll_cons h
  obtain ⟨b, c, rfl, h2, h⟩ := typedAll_cons h
  obtain ⟨c, d, rfl, h3, h⟩ := typedAll_cons h
  cases typedAll_nil h
  obtain ⟨n, rfl⟩ := typed_i64 h1
  obtain ⟨m, rfl⟩ := typed_i64 h2
  obtain ⟨k, rfl⟩ := typed_i64 h3
  exact ⟨⟨n, m, k⟩, rfl⟩
theorem typed_edges {x : List PV} (h : Typed Try.prog 23 x) : ∃ t : List Ed, ok t.length ∧ x = [.sl (t.map eE)] := by
  obtain ⟨es, rfl, hl, he⟩ := typed_slice (e := 81) (by kernel_rfl) h
  obtain ⟨t, h1, rfl, h3⟩ := rows_of (Q := fun _ => True) (e := eE) es fun y hy => by
    obtain ⟨a, rfl⟩ := typed_edge (he y hy)
    exact ⟨a, trivial, rfl⟩
  exact ⟨t, by unfold ok; omega, rfl⟩
theorem arg_auto {v : AV} (h : ArgT Try.prog 26 v) : ∃ a : Au, okAu a ∧ v = aAu a := by
  obtain ⟨pvs, g, rfl⟩ := arg_struct (ts := [3, 22, 23, 24]) (by kernel_rfl) h
  clear h
  have h := g
  obtain ⟨a, b, rfl, h1, h⟩ := typedAll_cons h
  obtain ⟨b, c, rfl, h2, h⟩ := typedAll_cons h
  obtain ⟨c, d, rfl, h3, h⟩ := typedAll_cons h
  obtain ⟨d, e, rfl, h4, h⟩ := typedAll_cons h
  cases typedAll_nil h
  obtain ⟨n, rfl⟩ := typed_i64 h1
  obtain ⟨f, hf, rfl⟩ := typed_intl h2
  obtain ⟨es, he, rfl⟩ := typed_edges h3
  obtain ⟨gs, hg, rfl⟩ := typed_intll h4
  exact ⟨⟨n, f, es, gs⟩, ⟨hf, he, hg⟩, rfl⟩
end Go.Proofs.Ytolffbcnbcjeaaa
namespace Go.Sep
open Go Go.RowKit
abbrev Lay (α : Type) := α → List AV → Heap → List Nat → Prop
def LPl {α : Type} (e : α → List PV) : Lay α := fun a cs _ D => cs = (e a).map .p ∧ D = []
def LL {α : Type} (L : Lay α) : List α → List AV → Heap → List Nat → Prop
  | [], cs, _, D => cs = [] ∧ D = []
  | a :: az, cs, G, D => ∃ c1 c2 D1 D2, cs = c1 ++ c2 ∧ D = D1 ++ D2 ∧ L a c1 G D1 ∧ LL L az c2 G D2
def LRow {α : Type} (L : Lay α) (sz : Nat) : List α → AV → Heap → List Nat → Prop := fun xs x G D => ∃ q cs D', x = .sl q sz 0 xs.length ∧ G q = some cs ∧ LL L xs cs G D' ∧ D = q :: D'
def Lay.Local {α : Type} (L : Lay α) : Prop := ∀ a cs G G' D, L a cs G D → (∀ y ∈ D, ∀ b, G y = some b → G' y = some b) → L a cs G' D
def Lay.Size {α : Type} (L : Lay α) (sz : Nat) : Prop := ∀ a cs G D, L a cs G D → cs.length = sz
theorem LPl.local {α : Type} (e : α → List PV) : Lay.Local (LPl e) := fun a cs G G' D h _ => h
theorem LPl.size {α : Type} {e : α → List PV} {sz : Nat} (h : ∀ a, (e a).length = sz) : Lay.Size (LPl e) sz := fun a cs G D hl => by rw [hl.1, List.length_map, h]
theorem LL.local {α : Type} {L : Lay α} (hL : L.Local) : ∀ {az : List α} {cs : List AV} {G G' : Heap} {D : List Nat}, LL L az cs G D → (∀ y ∈ D, ∀ b, G y = some b → G' y = some b) → LL L az cs G' D
  | [], cs, G, G', D, h, _ => h
  | a :: az, cs, G, G', D, ⟨c1, c2, D1, D2, e1, e2, h1, h2⟩, hf => by
    subst e2
    exact ⟨c1, c2, D1, D2, e1, rfl, hL _ _ _ _ _ h1 (fun y hy => hf y (List.mem_append_left _ hy)), LL.local hL h2 (fun y hy => hf y (List.mem_append_right _ hy))⟩
theorem LL.size {α : Type} {L : Lay α} {sz : Nat} (hL : L.Size sz) : ∀ {az : List α} {cs : List AV} {G : Heap} {D : List Nat}, LL L az cs G D → cs.length = az.length * sz
  | [], cs, G, D, h => by rw [h.1]; simp
  | a :: az, cs, G, D, ⟨c1, c2, D1, D2, e1, e2, h1, h2⟩ => by
    rw [e1, List.length_append, hL _ _ _ _ h1, LL.size hL h2, List.length_cons, Nat.add_mul, Nat.one_mul]; omega
theorem LRow.local {α : Type} {L : Lay α} {sz : Nat} (hL : L.Local) {xs : List α} {x : AV} {G G' : Heap} {D : List Nat} (h : LRow L sz xs x G D) (hf : ∀ y ∈ D, ∀ b, G y = some b → G' y = some b) : LRow L sz xs x G' D := by
  obtain ⟨q, cs, D', e1, e2, e3, e4⟩ := h
  subst e4
  exact ⟨q, cs, D', e1, hf q (by simp) _ e2, LL.local hL e3 (fun y hy => hf y (by simp [hy])), rfl⟩
def Lay.Has {α : Type} (L : Lay α) : Prop := ∀ a cs G D, L a cs G D → ∀ y ∈ D, G y ≠ none
theorem LPl.has {α : Type} (e : α → List PV) : Lay.Has (LPl e) := fun a cs G D h y hy => by rw [h.2] at hy; cases hy
theorem LL.has {α : Type} {L : Lay α} (hL : L.Has) : ∀ {az : List α} {cs : List AV} {G : Heap} {D : List Nat}, LL L az cs G D → ∀ y ∈ D, G y ≠ none
  | [], cs, G, D, h => fun y hy => by rw [h.2] at hy; cases hy
  | a :: az, cs, G, D, ⟨c1, c2, D1, D2, e1, e2, h1, h2⟩ => fun y hy => by
    rw [e2] at hy
    rcases List.mem_append.1 hy with hy | hy
    · exact hL _ _ _ _ h1 y hy
    · exact LL.has hL h2 y hy
theorem LRow.has {α : Type} {L : Lay α} {sz : Nat} (hL : L.Has) {xs : List α} {x : AV} {G : Heap} {D : List Nat} (h : LRow L sz xs x G D) : ∀ y ∈ D, G y ≠ none := by
  obtain ⟨q, cs, D', e1, e2, e3, e4⟩ := h
  intro y hy
  rw [e4] at hy
  rcases List.mem_cons.1 hy with rfl | hy
  · rw [e2]; simp
  · exact LL.has hL e3 y hy
theorem LL.plain {α : Type} {e : α → List PV} {G : Heap} : ∀ (xs : List α), LL (LPl e) xs (cells (xs.map e)) G []
  | [] => ⟨rfl, rfl⟩
  | x :: xs => ⟨(e x).map .p, cells (xs.map e), [], [], by simp [cells], rfl, ⟨rfl, rfl⟩, LL.plain xs⟩
theorem splice_at {pre c c' post : List AV} {off n : Nat} (ho : off = pre.length) (hn : n = c'.length) (hc : c.length = c'.length) : List.take off (pre ++ (c ++ post)) ++ c' ++ List.drop (off + n) (pre ++ (c ++ post)) = pre ++ (c' ++ post) := by
  subst ho; subst hn
  rw [List.take_left', List.append_assoc]
  · congr 2
    rw [List.drop_append, ← hc]
    simp
  · rfl
theorem LL.snoc {α : Type} {L : Lay α} {a : α} {c2 : List AV} {G : Heap} {D2 : List Nat} (h2 : L a c2 G D2) : ∀ {az : List α} {c1 : List AV} {D1 : List Nat}, LL L az c1 G D1 → LL L (az ++ [a]) (c1 ++ c2) G (D1 ++ D2)
  | [], c1, D1, h => by
    obtain ⟨rfl, rfl⟩ := h
    exact ⟨c2, [], D2, [], by simp, by simp, h2, rfl, rfl⟩
  | b :: az, c1, D1, ⟨d1, d2, E1, E2, e1, e2, h1, h3⟩ => by
    subst e1; subst e2
    exact ⟨d1, d2 ++ c2, E1, E2 ++ D2, by simp, by simp, h1, LL.snoc h2 h3⟩
theorem LL.split {α : Type} [Inhabited α] {L : Lay α} {sz : Nat} (hL : L.Size sz) : ∀ {az : List α} {cs : List AV} {G : Heap} {D : List Nat} {i : Nat}, LL L az cs G D → i < az.length →
    ∃ c1 c c2 D1 Di D2, cs = c1 ++ (c ++ c2) ∧ D = D1 ++ (Di ++ D2) ∧ c1.length = i * sz ∧ L (az.getD i default) c G Di ∧ LL L (az.take i) c1 G D1 ∧ LL L (az.drop (i + 1)) c2 G D2
  | a :: az, cs, G, D, 0, ⟨c1, c2, D1, D2, e1, e2, h1, h2⟩, _ => ⟨[], c1, c2, [], D1, D2, by simpa using e1, by simpa using e2, by simp, by simpa using h1, ⟨rfl, rfl⟩, by simpa using h2⟩
  | a :: az, cs, G, D, i + 1, ⟨c1, c2, D1, D2, e1, e2, h1, h2⟩, hi => by
    obtain ⟨d1, d, d2, E1, Ei, E2, f1, f2, f3, f4, f5, f6⟩ := LL.split hL h2 (i := i) (by simpa using hi)
    subst e1; subst e2; subst f1; subst f2
    refine ⟨c1 ++ d1, d, d2, D1 ++ E1, Ei, E2, by simp, by simp, ?_, by simpa using f4, ⟨c1, d1, D1, E1, rfl, rfl, h1, f5⟩, by simpa using f6⟩
    rw [List.length_append, hL _ _ _ _ h1, f3, Nat.add_mul, Nat.one_mul]; omega
theorem LL.join {α : Type} {L : Lay α} : ∀ {az bs : List α} {c1 c2 : List AV} {G : Heap} {D1 D2 : List Nat}, LL L az c1 G D1 → LL L bs c2 G D2 → LL L (az ++ bs) (c1 ++ c2) G (D1 ++ D2)
  | [], bs, c1, c2, G, D1, D2, h1, h2 => by
    obtain ⟨rfl, rfl⟩ := h1
    simpa using h2
  | a :: az, bs, c1, c2, G, D1, D2, ⟨d1, d2, E1, E2, e1, e2, h1, h3⟩, h2 => by
    subst e1; subst e2
    exact ⟨d1, d2 ++ c2, E1, E2 ++ D2, by simp, by simp, h1, LL.join h3 h2⟩
def Lay.Frz {α : Type} (L : Lay α) (e : α → List PV) : Prop := ∀ (a : α) (cs : List AV) (G : Heap) (D : List Nat) (v : AV) (s : Nat) (pre post : List AV), L a cs G D → D.Nodup → s ∉ D → G s = some (pre ++ (cs ++ post)) →
  ∃ G', Wk v G v G' ∧ G' s = some (pre ++ ((e a).map .p ++ post)) ∧ ∀ y, y ≠ s → y ∉ D → G' y = G y
theorem LPl.frz {α : Type} (e : α → List PV) : (LPl e).Frz e := by
  rintro a cs G D v s pre post ⟨rfl, rfl⟩ _ _ hs
  exact ⟨G, .refl _ _, hs, fun _ _ _ => rfl⟩
theorem LL.frz {α : Type} {L : Lay α} {e : α → List PV} (hl : L.Local) (hf : L.Frz e) : ∀ (az : List α) (cs : List AV) (G : Heap) (D : List Nat) (v : AV) (s : Nat) (pre post : List AV), LL L az cs G D → D.Nodup → s ∉ D → G s = some (pre ++ (cs ++ post)) →
    ∃ G', Wk v G v G' ∧ G' s = some (pre ++ ((az.map e).flatten.map .p ++ post)) ∧ ∀ y, y ≠ s → y ∉ D → G' y = G y
  | [], cs, G, D, v, s, pre, post, h, hD, hs, hG => by
    obtain ⟨rfl, rfl⟩ := h
    exact ⟨G, .refl _ _, by simpa using hG, fun _ _ _ => rfl⟩
  | a :: az, cs, G, D, v, s, pre, post, ⟨c1, c2, D1, D2, e1, e2, h1, h2⟩, hD, hs, hG => by
    subst e1; subst e2
    rw [List.nodup_append] at hD
    rw [List.mem_append, not_or] at hs
    obtain ⟨G1, w1, k1, f1⟩ := hf a c1 G D1 v s pre (c2 ++ post) h1 hD.1 hs.1 (by rw [hG]; simp)
    have h2' : LL L az c2 G1 D2 := LL.local hl h2 fun y hy b hb => by rw [f1 y (fun e => hs.2 (e ▸ hy)) (fun hy1 => hD.2.2 y hy1 y hy rfl)]; exact hb
    obtain ⟨G2, w2, k2, f2⟩ := LL.frz hl hf az c2 G1 D2 v s (pre ++ (e a).map .p) post h2' hD.2.1 hs.2 (by rw [k1]; simp)
    refine ⟨G2, .trans w1 w2, by rw [k2]; simp, fun y hy hyD => ?_⟩
    rw [List.mem_append, not_or] at hyD
    rw [f2 y hy hyD.2, f1 y hy hyD.1]
theorem FrzL.refl' {r sz : Nat} {es : List (List PV)} : ∀ vs, FrzL r sz es vs vs
  | [] => .nil
  | v :: vs => .cons (.same v) (FrzL.refl' vs)
theorem FrzL.at {r sz : Nat} {es : List (List PV)} {x x' : AV} (h : FrzR r sz es x x') (post : List AV) : ∀ pre, FrzL r sz es (pre ++ ([x] ++ post)) (pre ++ ([x'] ++ post))
  | [] => .cons h (FrzL.refl' post)
  | v :: pre => .cons (.same v) (FrzL.at h post pre)
theorem LRow.frzIn {α : Type} {L : Lay α} {e : α → List PV} {sz : Nat} (hpos : 0 < sz) (he : ∀ a, (e a).length = sz) (hl : L.Local) (hf : L.Frz e) {xs : List α} {x : AV} {G : Heap} {D : List Nat} {v : AV} {s : Nat} {pre post : List AV} (h : LRow L sz xs x G D) (hD : D.Nodup) (hs : s ∉ D) (hG : G s = some (pre ++ ([x] ++ post))) :
    ∃ G', Wk v G v G' ∧ G' s = some (pre ++ ([.p (.sl (xs.map e))] ++ post)) ∧ ∀ y, y ≠ s → y ∉ D → G' y = G y := by
  obtain ⟨q, cs, D', rfl, hq, hll, rfl⟩ := h
  rw [List.nodup_cons] at hD
  rw [List.mem_cons, not_or] at hs
  obtain ⟨G1, w1, k1, f1⟩ := LL.frz hl hf xs cs G D' v q [] [] hll hD.2 hD.1 (by simpa using hq)
  have hG1 : G1 s = some (pre ++ ([.sl q sz 0 xs.length] ++ post)) := by rw [f1 s hs.1 hs.2]; exact hG
  have k1' : G1 q = some ((xs.map e).flatten.map .p) := by simpa using k1
  have hr : FrzR q sz (xs.map e) (.sl q sz 0 xs.length) (.p (.sl (xs.map e))) := by
    have : FrzR q sz (xs.map e) (.sl q sz 0 (xs.map e).length) (.p (.sl (xs.map e))) := .here
    rwa [List.length_map] at this
  refine ⟨(G1.del q).set s (pre ++ ([.p (.sl (xs.map e))] ++ post)), .trans w1 (Wk.frzAt hpos k1' (sized_map he xs) hG1 hs.1 (FrzL.at hr post pre) (.same v) (by simp)), Heap.set_same _ _ _, fun y hy hyD => ?_⟩
  rw [List.mem_cons, not_or] at hyD
  rw [Heap.set_other hy, Heap.del_other hyD.1, f1 y hyD.1 hyD.2]
theorem LRow.frzV {α : Type} {L : Lay α} {e : α → List PV} {sz : Nat} (hpos : 0 < sz) (he : ∀ a, (e a).length = sz) (hl : L.Local) (hf : L.Frz e) {xs : List α} {x : AV} {G : Heap} {D : List Nat} {v v' : AV} (h : LRow L sz xs x G D) (hD : D.Nodup)
    (hv : ∀ q, x = .sl q sz 0 xs.length → FrzR q sz (xs.map e) x (.p (.sl (xs.map e))) → FrzR q sz (xs.map e) v v') :
    ∃ G', Wk v G v' G' ∧ ∀ y, y ∉ D → G' y = G y := by
  obtain ⟨q, cs, D', rfl, hq, hll, rfl⟩ := h
  rw [List.nodup_cons] at hD
  obtain ⟨G1, w1, k1, f1⟩ := LL.frz hl hf xs cs G D' v q [] [] hll hD.2 hD.1 (by simpa using hq)
  have k1' : G1 q = some ((xs.map e).flatten.map .p) := by simpa using k1
  have hr : FrzR q sz (xs.map e) (.sl q sz 0 xs.length) (.p (.sl (xs.map e))) := by
    have : FrzR q sz (xs.map e) (.sl q sz 0 (xs.map e).length) (.p (.sl (xs.map e))) := .here
    rwa [List.length_map] at this
  refine ⟨G1.del q, .trans w1 (Wk.frz hpos k1' (sized_map he xs) (hv q rfl hr)), fun y hyD => ?_⟩
  rw [List.mem_cons, not_or] at hyD
  rw [Heap.del_other hyD.1, f1 y hyD.1 hyD.2]
def Lay.Gd {α : Type} (L : Lay α) : Prop := ∀ a cs G D, L a cs G D → (∀ c ∈ cs, GdC c) ∧ ∀ y ∈ D, ∀ bs, G y = some bs → ∀ c ∈ bs, GdC c
def Lay.Sh {α : Type} (L : Lay α) : Prop := ∀ a cs G D n G0, (∀ q, n ≤ q → G0 q = none) → L a cs G D → L a (cs.map (shC n)) (Heap.or G0 (shH n G)) (D.map (· + n))
theorem LPl.gd {α : Type} {e : α → List PV} (h : ∀ a, ∀ x ∈ e a, Plain (.p x)) : Lay.Gd (LPl e) := by
  rintro a cs G D ⟨rfl, rfl⟩
  refine ⟨fun c hc => ?_, fun y hy => by cases hy⟩
  obtain ⟨x, hx, rfl⟩ := List.mem_map.1 hc
  exact .p (h a x hx)
theorem LPl.sh {α : Type} (e : α → List PV) : Lay.Sh (LPl e) := by
  rintro a cs G D n G0 _ ⟨rfl, rfl⟩
  exact ⟨by rw [List.map_map]; rfl, rfl⟩
theorem LL.gd {α : Type} {L : Lay α} (hL : L.Gd) : ∀ {az : List α} {cs : List AV} {G : Heap} {D : List Nat}, LL L az cs G D → (∀ c ∈ cs, GdC c) ∧ ∀ y ∈ D, ∀ bs, G y = some bs → ∀ c ∈ bs, GdC c
  | [], _, _, _, ⟨e1, e2⟩ => by subst e1; subst e2; exact ⟨(fun c hc => by cases hc), (fun y hy => by cases hy)⟩
  | a :: az, _, _, _, ⟨c1, c2, D1, D2, e1, e2, h1, h2⟩ => by
    subst e1; subst e2
    obtain ⟨a1, a2⟩ := hL _ _ _ _ h1
    obtain ⟨b1, b2⟩ := LL.gd hL h2
    refine ⟨fun c hc => ?_, fun y hy => ?_⟩
    · rcases List.mem_append.1 hc with hc | hc
      · exact a1 c hc
      · exact b1 c hc
    · rcases List.mem_append.1 hy with hy | hy
      · exact a2 y hy
      · exact b2 y hy
theorem LL.sh {α : Type} {L : Lay α} (hL : L.Sh) {n : Nat} {G0 : Heap} (h0 : ∀ q, n ≤ q → G0 q = none) : ∀ {az : List α} {cs : List AV} {G : Heap} {D : List Nat}, LL L az cs G D → LL L az (cs.map (shC n)) (Heap.or G0 (shH n G)) (D.map (· + n))
  | [], _, _, _, ⟨e1, e2⟩ => by subst e1; subst e2; exact ⟨rfl, rfl⟩
  | a :: az, _, _, _, ⟨c1, c2, D1, D2, e1, e2, h1, h2⟩ => by
    subst e1; subst e2
    exact ⟨_, _, _, _, List.map_append, List.map_append, hL _ _ _ _ n G0 h0 h1, LL.sh hL h0 h2⟩
theorem or_sh {G0 G : Heap} {n q : Nat} (h0 : ∀ q, n ≤ q → G0 q = none) : (Heap.or G0 (shH n G)) (q + n) = (G q).map (List.map (shC n)) := by
  simp only [Heap.or, shH, h0 (q + n) (by omega), show n ≤ q + n by omega, if_true, Nat.add_sub_cancel]
theorem LRow.gd {α : Type} {L : Lay α} {sz : Nat} (hL : L.Gd) {xs : List α} {x : AV} {G : Heap} {D : List Nat} (h : LRow L sz xs x G D) : GdC x ∧ ∀ y ∈ D, ∀ bs, G y = some bs → ∀ c ∈ bs, GdC c := by
  obtain ⟨q, cs, D', rfl, hq, hll, rfl⟩ := h
  obtain ⟨h1, h2⟩ := LL.gd hL hll
  refine ⟨.inl ⟨_, _, _, _, rfl⟩, fun y hy bs hb => ?_⟩
  rcases List.mem_cons.1 hy with rfl | hy
  · rw [hq] at hb; cases hb; exact h1
  · exact h2 y hy bs hb
theorem LRow.sh {α : Type} {L : Lay α} {sz : Nat} (hL : L.Sh) {n : Nat} {G0 : Heap} (h0 : ∀ q, n ≤ q → G0 q = none) {xs : List α} {x : AV} {G : Heap} {D : List Nat} (h : LRow L sz xs x G D) : LRow L sz xs (shC n x) (Heap.or G0 (shH n G)) (D.map (· + n)) := by
  obtain ⟨q, cs, D', rfl, hq, hll, rfl⟩ := h
  exact ⟨q + n, cs.map (shC n), D'.map (· + n), rfl, by rw [or_sh h0, hq]; rfl, LL.sh hL h0 hll, rfl⟩
def only (D : List Nat) (G : Heap) : Heap := fun y => if y ∈ D then G y else none
theorem only_le (D : List Nat) (G : Heap) : Heap.le (only D G) G := fun y b hb => by
  unfold only at hb; split at hb
  · exact hb
  · cases hb
theorem only_in {D : List Nat} {G : Heap} {y : Nat} (h : y ∈ D) : only D G y = G y := if_pos h
theorem only_out {D : List Nat} {G : Heap} {y : Nat} (h : y ∉ D) : only D G y = none := if_neg h
end Go.Sep
namespace Go.Proofs.Ytolffbcnbcjeaaa
open Go Go.Sep Go.Pt
attribute [local irreducible] CallT
abbrev LN : List Nd → AV → Heap → List Nat → Prop := LRow (LPl eN) 2
abbrev LI : List Int → AV → Heap → List Nat → Prop := LRow (LPl eI) 1
def LCh : Lay Ch := fun c cs G D => ∃ x, cs = [I c.var, x] ∧ LN c.by_ x G D
def LCm : Lay Cm := fun c cs G D => ∃ x y D1 D2, cs = [x, y] ∧ D = D1 ++ D2 ∧ LN c.when_ x G D1 ∧ LRow LCh 2 c.chs y G D2
theorem LCh.local : Lay.Local LCh := by
  rintro c cs G G' D ⟨x, e, h⟩ hf
  exact ⟨x, e, LRow.local (LPl.local eN) h hf⟩
theorem LCh.size : Lay.Size LCh 2 := by
  rintro c cs G D ⟨x, rfl, h⟩; rfl
theorem LCh.has : Lay.Has LCh := by
  rintro c cs G D ⟨x, e, h⟩
  exact LRow.has (LPl.has eN) h
theorem LCh.frz : Lay.Frz LCh eCh := by
  rintro c cs G D v s pre post ⟨x, rfl, h⟩ hD hs hG
  obtain ⟨G', w, k, f⟩ := LRow.frzIn (e := eN) (sz := 2) (pre := pre ++ [I c.var]) (post := post) (v := v) (by omega) (fun _ => rfl) (LPl.local eN) (LPl.frz eN) h hD hs (by rw [hG]; simp)
  exact ⟨G', w, by rw [k]; simp, f⟩
theorem LCm.local : Lay.Local LCm := by
  rintro c cs G G' D ⟨x, y, D1, D2, e, rfl, h1, h2⟩ hf
  exact ⟨x, y, D1, D2, e, rfl, LRow.local (LPl.local eN) h1 (fun z hz => hf z (List.mem_append_left _ hz)), LRow.local LCh.local h2 (fun z hz => hf z (List.mem_append_right _ hz))⟩
theorem LCm.size : Lay.Size LCm 2 := by
  rintro c cs G D ⟨x, y, D1, D2, rfl, e, h1, h2⟩; rfl
theorem LCm.has : Lay.Has LCm := by
  rintro c cs G D ⟨x, y, D1, D2, e, rfl, h1, h2⟩ z hz
  rcases List.mem_append.1 hz with hz | hz
  · exact LRow.has (LPl.has eN) h1 z hz
  · exact LRow.has LCh.has h2 z hz
theorem LCm.frz : Lay.Frz LCm eCm := by
  rintro c cs G D v s pre post ⟨x, y, D1, D2, rfl, rfl, h1, h2⟩ hD hs hG
  rw [List.nodup_append] at hD
  rw [List.mem_append, not_or] at hs
  obtain ⟨G1, w1, k1, f1⟩ := LRow.frzIn (e := eN) (sz := 2) (pre := pre) (post := y :: post) (v := v) (by omega) (fun _ => rfl) (LPl.local eN) (LPl.frz eN) h1 hD.1 hs.1 (by rw [hG]; simp)
  have h2' : LRow LCh 2 c.chs y G1 D2 := LRow.local LCh.local h2 fun z hz b hb => by rw [f1 z (fun e => hs.2 (e ▸ hz)) (fun hz1 => hD.2.2 z hz1 z hz rfl)]; exact hb
  obtain ⟨G2, w2, k2, f2⟩ := LRow.frzIn (e := eCh) (sz := 2) (pre := pre ++ [Ns c.when_]) (post := post) (v := v) (by omega) (fun _ => rfl) LCh.local LCh.frz h2' hD.2.1 hs.2 (by rw [k1]; simp)
  refine ⟨G2, .trans w1 w2, by rw [k2]; simp, fun z hz hzD => ?_⟩
  rw [List.mem_append, not_or] at hzD
  rw [f2 z hz hzD.2, f1 z hz hzD.1]
structure New (H G : Heap) (D : List Nat) : Prop where
  nd : D.Nodup
  fr : ∀ y ∈ D, H y = none
  le : Heap.le H G
theorem New.trans {H G G' : Heap} {D D' : List Nat} (n : New H G D) (m : New G G' D') (hh : ∀ y ∈ D, G y ≠ none) : New H G' (D ++ D') := by
  refine ⟨List.nodup_append.2 ⟨n.nd, m.nd, fun a ha b hb e => hh a ha (by rw [e]; exact m.fr b hb)⟩, fun y hy => ?_, Heap.le_trans n.le m.le⟩
  rcases List.mem_append.1 hy with hy | hy
  · exact n.fr y hy
  · cases hh : H y with
    | none => rfl
    | some b => rw [← m.fr y hy, n.le y b hh]
theorem New.base {H H' G : Heap} {D : List Nat} (n : New H' G D) (hle : Heap.le H H') : New H G D :=
  ⟨n.nd, fun y hy => by
    cases hh : H y with
    | none => rfl
    | some b => rw [← n.fr y hy, hle y b hh], Heap.le_trans hle n.le⟩
theorem New.put {H G : Heap} {D : List Nat} (n : New H G D) {q : Nat} (hq : H q = none) (b : List AV) : New H (G.set q b) D := ⟨n.nd, n.fr, Heap.le_setN n.le hq⟩
theorem toIntS_live (xs : List Int) (hl : xs.length ≤ 1048576) {H : Heap} {K : AV → Heap → Prop} (h : ∀ x G D, LI xs x G D → New H G D → K x G) : CallT Try.prog 26 [Is xs] H K := by
  refine W26_ok ?_; simp (maxSteps := 1000000) (disch := first | assumption | (apply ν6; assumption)) only [W26, vz, vu, vv, eqS, eF_, ↓c1_, ↓c2_, tabs, reduceCtorEq, ι5, ↓reduceIte, ν1, ν2, ν3, ν4, ν5, ι1, ι2, ι3, ι4, makeSliceV]
  refine ⟨by omega, by omega, by omega, by omega, fun q hq => ?_⟩
  have z0 : rowZ eI [I 0] xs 0 = zerosA xs.length [I 0] := rowZ_zero
  rw [← z0]
  refine L26_0_rule (0 : Nat) (fun i => I i) (fun i => H.set q (rowZ eI [I 0] xs i)) (fun i => i ≤ xs.length) (fun i => xs.length - i) ⟨by omega, .refl _, Heap.le_refl _⟩ ?_
  intro i hi
  have hrl := rowZ_len (e := eI) (zero := [I 0]) (xs := xs) (i := i) (sz := 1) (fun _ => rfl) rfl hi
  (try simp (maxSteps := 1000000) (disch := first | assumption | (apply ν6; assumption)) only [vz, vu, vv, eqS, eF_, ↓c1_, ↓c2_, tabs, reduceCtorEq, ι5, ↓reduceIte, ν1, ν2, ν3, ν4, ν5, ι1, ι2, ι3, ι4, B26_0])
  refine ⟨fun h => ⟨by omega, h, ?_⟩, fun h5 => ?_⟩
  · have hlt : i < xs.length := by omega
    have hput := rowZ_put (e := eI) (zero := [I 0]) (xs := xs) (i := i) (sz := 1) (fun _ => rfl) rfl hlt rfl rfl
    (try simp (maxSteps := 1000000) (disch := first | assumption | (apply ν6; assumption)) only [vz, vu, vv, eqS, eF_, ↓c1_, ↓c2_, tabs, reduceCtorEq, ι5, ↓reduceIte, ν1, ν2, ν3, ν4, ν5, ι1, ι2, ι3, ι4])
    refine ⟨by omega, h, by omega, i + 1, by omega, by omega, ?_, ?_⟩
    · rw [wk_int, i64_id (by omega) (by omega)]; simp
    · rw [← hput]; exact Heap.le_refl _
  · have : i = xs.length := by omega
    subst this
    refine h _ _ [q] ⟨q, _, [], rfl, Heap.set_same _ _ _, ?_, rfl⟩ ⟨by simp, by simpa using hq, Heap.le_set hq⟩
    rw [rowZ_end]; exact LL.plain xs
theorem LRow.sl {α : Type} {L : Lay α} {sz : Nat} {xs : List α} {x : AV} {G : Heap} {D : List Nat} (h : LRow L sz xs x G D) : ∃ q, x = .sl q sz 0 xs.length := by
  obtain ⟨q, cs, D', e1, e2, e3, e4⟩ := h; exact ⟨q, e1⟩
theorem ne_mem {D : List Nat} {y z : Nat} (hy : y ∈ D) (hz : z ∉ D) : y ≠ z := fun e => hz (e ▸ hy)
theorem ne_of_new {H G : Heap} {D : List Nat} (n : New H G D) {y : Nat} {b : List AV} (h : H y = some b) : y ∉ D := fun hy => by rw [n.fr y hy] at h; cases h
end Go.Proofs.Ytolffbcnbcjeaaa
