/- Texts laid together: Lr0 Tab W0 W1 W2. -/
import Derived.Test.YtohkciilfkhomaaGreatPO2
import Derived.Test.YtohkciilfkhomaaGreatProg
import Derived.KernelRfl
set_option linter.unusedVariables false
set_option linter.unusedSimpArgs false
open Go.Sep.AV renaming any → Q_
open Nat renaming reduceAdd→Y1,reduceLeDiff→Y2,reduceLT→Y3,reduceMul→Y4,reduceSub→Y5
open Int renaming reduceToNat→X1,reduceSub→X2,reduceAdd→X3,reduceNeg→X4
open Array renaming toList→X5
open Ne renaming symm→Y6
open List renaming forall_mem_cons→Y7
namespace Go.Sep
open Go Go.RowKit
theorem args_cons {P:Program} {t:TypeId} {ts:List TypeId} {avs:List AV} (h:ArgsT P (t::ts) avs):∃v vs,avs=v::vs∧ArgT P t v∧ArgsT P ts vs:=by
 cases h with
 | cons h r=>exact ⟨_,_,rfl,h,r⟩
theorem args_nil {P:Program} {avs:List AV} (h:ArgsT P [] avs):avs=[]:=by cases h;rfl
end Go.Sep
namespace Go.Proofs.YtohkciilfkhomaaGreat
open Go Go.Sep
def td1:TD:=⟨.func,1,8,[.nilfn]⟩
def td2:TD:=⟨.int .i64,1,8,[(.p (.int .i64 0))]⟩
def td3:TD:=⟨.int .i64,1,8,[(.p (.int .i64 0))]⟩
def td4:TD:=⟨.bool,1,1,[(.p (.bool false))]⟩
def td5:TD:=⟨.int .u8,1,1,[(.p (.int .u8 0))]⟩
def td22:TD:=⟨.slice 5,1,24,[(.p .nil)]⟩
def td24:TD:=⟨.slice 3,1,24,[(.p .nil)]⟩
def td25:TD:=⟨.slice 66,1,24,[(.p .nil)]⟩
def td26:TD:=⟨.slice 24,1,24,[(.p .nil)]⟩
def td28:TD:=⟨.struct [(0,3),(1,24),(2,25),(3,26)],4,80,[(.p (.int .i64 0)),(.p .nil),(.p .nil),(.p .nil)]⟩
def td31:TD:=⟨.struct [(0,24),(1,24)],2,48,[(.p .nil),(.p .nil)]⟩
def td49:TD:=⟨.struct [(0,26)],1,24,[(.p .nil)]⟩
def td66:TD:=⟨.struct [(0,3),(1,3),(2,3)],3,24,[(.p (.int .i64 0)),(.p (.int .i64 0)),(.p (.int .i64 0))]⟩
def td69:TD:=⟨.int .u64,1,8,[(.p (.int .u64 0))]⟩
def td71:TD:=⟨.struct [(0,22),(1,3),(2,69)],3,40,[(.p .nil),(.p (.int .i64 0)),(.p (.int .u64 0))]⟩
def td87:TD:=⟨.slice 4,1,24,[(.p .nil)]⟩
def td109:TD:=⟨.int .u64,1,8,[(.p (.int .u64 0))]⟩
def td118:TD:=⟨.struct [(0,26),(1,24),(2,24),(3,24),(4,24),(5,3)],6,128,[(.p .nil),(.p .nil),(.p .nil),(.p .nil),(.p .nil),(.p (.int .i64 0))]⟩
def td124:TD:=⟨.struct [(0,26),(1,87),(2,24)],3,72,[(.p .nil),(.p .nil),(.p .nil)]⟩
def tabL:List (Nat×TD):=[(1,td1),(2,td2),(3,td3),(4,td4),(5,td5),(22,td22),(24,td24),(25,td25),(26,td26),(28,td28),(31,td31),(49,td49),(66,td66),(69,td69),(71,td71),(87,td87),(109,td109),(118,td118),(124,td124)]
def tab:Tab:=fun t=>(tabL.find? (fun p=>p.1==t)).map (·.2)
theorem tab_1:tab 1=some ⟨.func,1,8,[.nilfn]⟩:=rfl
theorem tab_2:tab 2=some ⟨.int .i64,1,8,[(.p (.int .i64 0))]⟩:=rfl
theorem a_u:tab 3=some ⟨.int .i64,1,8,[(.p (.int .i64 0))]⟩:=rfl
theorem tab_4:tab 4=some ⟨.bool,1,1,[(.p (.bool false))]⟩:=rfl
theorem tab_5:tab 5=some ⟨.int .u8,1,1,[(.p (.int .u8 0))]⟩:=rfl
theorem tab_22:tab 22=some ⟨.slice 5,1,24,[(.p .nil)]⟩:=rfl
theorem a_g:tab 24=some ⟨.slice 3,1,24,[(.p .nil)]⟩:=rfl
theorem d_z:tab 25=some ⟨.slice 66,1,24,[(.p .nil)]⟩:=rfl
theorem c_x:tab 26=some ⟨.slice 24,1,24,[(.p .nil)]⟩:=rfl
theorem tab_28:tab 28=some ⟨.struct [(0,3),(1,24),(2,25),(3,26)],4,80,[(.p (.int .i64 0)),(.p .nil),(.p .nil),(.p .nil)]⟩:=rfl
theorem tab_31:tab 31=some ⟨.struct [(0,24),(1,24)],2,48,[(.p .nil),(.p .nil)]⟩:=rfl
theorem tab_49:tab 49=some ⟨.struct [(0,26)],1,24,[(.p .nil)]⟩:=rfl
theorem e_3:tab 66=some ⟨.struct [(0,3),(1,3),(2,3)],3,24,[(.p (.int .i64 0)),(.p (.int .i64 0)),(.p (.int .i64 0))]⟩:=rfl
theorem tab_69:tab 69=some ⟨.int .u64,1,8,[(.p (.int .u64 0))]⟩:=rfl
theorem tab_71:tab 71=some ⟨.struct [(0,22),(1,3),(2,69)],3,40,[(.p .nil),(.p (.int .i64 0)),(.p (.int .u64 0))]⟩:=rfl
theorem tab_87:tab 87=some ⟨.slice 4,1,24,[(.p .nil)]⟩:=rfl
theorem tab_109:tab 109=some ⟨.int .u64,1,8,[(.p (.int .u64 0))]⟩:=rfl
theorem tab_118:tab 118=some ⟨.struct [(0,26),(1,24),(2,24),(3,24),(4,24),(5,3)],6,128,[(.p .nil),(.p .nil),(.p .nil),(.p .nil),(.p .nil),(.p (.int .i64 0))]⟩:=rfl
theorem tab_124:tab 124=some ⟨.struct [(0,26),(1,87),(2,24)],3,72,[(.p .nil),(.p .nil),(.p .nil)]⟩:=rfl
set_option maxRecDepth 100000 in
theorem tabs:tab 1=some ⟨.func,1,8,[.nilfn]⟩∧tab 2=some ⟨.int .i64,1,8,[(.p (.int .i64 0))]⟩∧tab 3=some ⟨.int .i64,1,8,[(.p (.int .i64 0))]⟩∧tab 4=some ⟨.bool,1,1,[(.p (.bool false))]⟩∧tab 5=some ⟨.int .u8,1,1,[(.p (.int .u8 0))]⟩∧tab 22=some ⟨.slice 5,1,24,[(.p .nil)]⟩∧tab 24=some ⟨.slice 3,1,24,[(.p .nil)]⟩∧tab 25=some ⟨.slice 66,1,24,[(.p .nil)]⟩∧tab 26=some ⟨.slice 24,1,24,[(.p .nil)]⟩∧tab 28=some ⟨.struct [(0,3),(1,24),(2,25),(3,26)],4,80,[(.p (.int .i64 0)),(.p .nil),(.p .nil),(.p .nil)]⟩∧tab 31=some ⟨.struct [(0,24),(1,24)],2,48,[(.p .nil),(.p .nil)]⟩∧tab 49=some ⟨.struct [(0,26)],1,24,[(.p .nil)]⟩∧tab 66=some ⟨.struct [(0,3),(1,3),(2,3)],3,24,[(.p (.int .i64 0)),(.p (.int .i64 0)),(.p (.int .i64 0))]⟩∧tab 69=some ⟨.int .u64,1,8,[(.p (.int .u64 0))]⟩∧tab 71=some ⟨.struct [(0,22),(1,3),(2,69)],3,40,[(.p .nil),(.p (.int .i64 0)),(.p (.int .u64 0))]⟩∧tab 87=some ⟨.slice 4,1,24,[(.p .nil)]⟩∧tab 109=some ⟨.int .u64,1,8,[(.p (.int .u64 0))]⟩∧tab 118=some ⟨.struct [(0,26),(1,24),(2,24),(3,24),(4,24),(5,3)],6,128,[(.p .nil),(.p .nil),(.p .nil),(.p .nil),(.p .nil),(.p (.int .i64 0))]⟩∧tab 124=some ⟨.struct [(0,26),(1,87),(2,24)],3,72,[(.p .nil),(.p .nil),(.p .nil)]⟩:=⟨tab_1,tab_2,a_u,tab_4,tab_5,tab_22,a_g,d_z,c_x,tab_28,tab_31,tab_49,e_3,tab_69,tab_71,tab_87,tab_109,tab_118,tab_124⟩
theorem info1:(Tryz.prog.info? 1).map (fun i=>(i.zero,i.size,i.bytes))=some (some .nilFunc,1,8):=by kernel_rfl
theorem td1_ok:TD.Ok Tryz.prog 1 td1:=TD.Ok.of ⟨_,_,_,Tryz.underlying1⟩ info1 rfl rfl (by decide) (fun _=>rfl)
theorem info2:(Tryz.prog.info? 2).map (fun i=>(i.zero,i.size,i.bytes))=some (some (.int .i64 0),1,8):=by kernel_rfl
theorem td2_ok:TD.Ok Tryz.prog 2 td2:=TD.Ok.of Tryz.underlying2 info2 rfl rfl (by decide) (fun _=>rfl)
theorem info3:(Tryz.prog.info? 3).map (fun i=>(i.zero,i.size,i.bytes))=some (some (.int .i64 0),1,8):=by kernel_rfl
theorem td3_ok:TD.Ok Tryz.prog 3 td3:=TD.Ok.of Tryz.underlying3 info3 rfl rfl (by decide) (fun _=>rfl)
theorem info4:(Tryz.prog.info? 4).map (fun i=>(i.zero,i.size,i.bytes))=some (some (.bool false),1,1):=by kernel_rfl
theorem td4_ok:TD.Ok Tryz.prog 4 td4:=TD.Ok.of Tryz.underlying4 info4 rfl rfl (by decide) (fun _=>rfl)
theorem info5:(Tryz.prog.info? 5).map (fun i=>(i.zero,i.size,i.bytes))=some (some (.int .u8 0),1,1):=by kernel_rfl
theorem td5_ok:TD.Ok Tryz.prog 5 td5:=TD.Ok.of Tryz.underlying5 info5 rfl rfl (by decide) (fun _=>rfl)
theorem info22:(Tryz.prog.info? 22).map (fun i=>(i.zero,i.size,i.bytes))=some (some (.slice none 0 0),1,24):=by kernel_rfl
theorem td22_ok:TD.Ok Tryz.prog 22 td22:=TD.Ok.of Tryz.underlying22 info22 rfl rfl (by decide) (fun _=>rfl)
theorem info24:(Tryz.prog.info? 24).map (fun i=>(i.zero,i.size,i.bytes))=some (some (.slice none 0 0),1,24):=by kernel_rfl
theorem td24_ok:TD.Ok Tryz.prog 24 td24:=TD.Ok.of Tryz.underlying24 info24 rfl rfl (by decide) (fun _=>rfl)
theorem info25:(Tryz.prog.info? 25).map (fun i=>(i.zero,i.size,i.bytes))=some (some (.slice none 0 0),1,24):=by kernel_rfl
theorem td25_ok:TD.Ok Tryz.prog 25 td25:=TD.Ok.of Tryz.underlying25 info25 rfl rfl (by decide) (fun _=>rfl)
theorem info26:(Tryz.prog.info? 26).map (fun i=>(i.zero,i.size,i.bytes))=some (some (.slice none 0 0),1,24):=by kernel_rfl
theorem td26_ok:TD.Ok Tryz.prog 26 td26:=TD.Ok.of Tryz.underlying26 info26 rfl rfl (by decide) (fun _=>rfl)
theorem info28:(Tryz.prog.info? 28).map (fun i=>(i.zero,i.size,i.bytes))=some (some (.agg #[(.int .i64 0),(.slice none 0 0),(.slice none 0 0),(.slice none 0 0)]),4,80):=by kernel_rfl
theorem td28_ok:TD.Ok Tryz.prog 28 td28:=TD.Ok.of ⟨_,Tryz.underlying28,rfl,Tryz.stoodInHeld28,Tryz.eqGuardType28,by decide⟩ info28 rfl rfl (by decide) (fun h=>by cases h)
theorem info31:(Tryz.prog.info? 31).map (fun i=>(i.zero,i.size,i.bytes))=some (some (.agg #[(.slice none 0 0),(.slice none 0 0)]),2,48):=by kernel_rfl
theorem td31_ok:TD.Ok Tryz.prog 31 td31:=TD.Ok.of ⟨_,Tryz.underlying31,rfl,Tryz.stoodInHeld31,Tryz.eqGuardType31,by decide⟩ info31 rfl rfl (by decide) (fun h=>by cases h)
theorem info49:(Tryz.prog.info? 49).map (fun i=>(i.zero,i.size,i.bytes))=some (some (.agg #[(.slice none 0 0)]),1,24):=by kernel_rfl
theorem td49_ok:TD.Ok Tryz.prog 49 td49:=TD.Ok.of ⟨_,Tryz.underlying49,rfl,Tryz.stoodInHeld49,Tryz.eqGuardType49,by decide⟩ info49 rfl rfl (by decide) (fun h=>by cases h)
theorem info66:(Tryz.prog.info? 66).map (fun i=>(i.zero,i.size,i.bytes))=some (some (.agg #[(.int .i64 0),(.int .i64 0),(.int .i64 0)]),3,24):=by kernel_rfl
theorem td66_ok:TD.Ok Tryz.prog 66 td66:=TD.Ok.of ⟨_,Tryz.underlying66,rfl,Tryz.stoodInHeld66,Tryz.eqGuardType66,by decide⟩ info66 rfl rfl (by decide) (fun h=>by cases h)
theorem info69:(Tryz.prog.info? 69).map (fun i=>(i.zero,i.size,i.bytes))=some (some (.int .u64 0),1,8):=by kernel_rfl
theorem td69_ok:TD.Ok Tryz.prog 69 td69:=TD.Ok.of Tryz.underlying69 info69 rfl rfl (by decide) (fun _=>rfl)
theorem info71:(Tryz.prog.info? 71).map (fun i=>(i.zero,i.size,i.bytes))=some (some (.agg #[(.slice none 0 0),(.int .i64 0),(.int .u64 0)]),3,40):=by kernel_rfl
theorem td71_ok:TD.Ok Tryz.prog 71 td71:=TD.Ok.of ⟨_,Tryz.underlying71,rfl,Tryz.stoodInHeld71,Tryz.eqGuardType71,by decide⟩ info71 rfl rfl (by decide) (fun h=>by cases h)
theorem info87:(Tryz.prog.info? 87).map (fun i=>(i.zero,i.size,i.bytes))=some (some (.slice none 0 0),1,24):=by kernel_rfl
theorem td87_ok:TD.Ok Tryz.prog 87 td87:=TD.Ok.of Tryz.underlying87 info87 rfl rfl (by decide) (fun _=>rfl)
theorem info109:(Tryz.prog.info? 109).map (fun i=>(i.zero,i.size,i.bytes))=some (some (.int .u64 0),1,8):=by kernel_rfl
theorem td109_ok:TD.Ok Tryz.prog 109 td109:=TD.Ok.of Tryz.underlying109 info109 rfl rfl (by decide) (fun _=>rfl)
theorem info118:(Tryz.prog.info? 118).map (fun i=>(i.zero,i.size,i.bytes))=some (some (.agg #[(.slice none 0 0),(.slice none 0 0),(.slice none 0 0),(.slice none 0 0),(.slice none 0 0),(.int .i64 0)]),6,128):=by kernel_rfl
theorem td118_ok:TD.Ok Tryz.prog 118 td118:=TD.Ok.of ⟨_,Tryz.underlying118,rfl,Tryz.stoodInHeld118,Tryz.eqGuardType118,by decide⟩ info118 rfl rfl (by decide) (fun h=>by cases h)
theorem info124:(Tryz.prog.info? 124).map (fun i=>(i.zero,i.size,i.bytes))=some (some (.agg #[(.slice none 0 0),(.slice none 0 0),(.slice none 0 0)]),3,72):=by kernel_rfl
theorem td124_ok:TD.Ok Tryz.prog 124 td124:=TD.Ok.of ⟨_,Tryz.underlying124,rfl,Tryz.stoodInHeld124,Tryz.eqGuardType124,by decide⟩ info124 rfl rfl (by decide) (fun h=>by cases h)
set_option maxRecDepth 100000 in
theorem tabL_ok:∀p∈tabL,TD.Ok Tryz.prog p.1 p.2:=
 (Y7.2 ⟨td1_ok,(Y7.2 ⟨td2_ok,(Y7.2 ⟨td3_ok,(Y7.2 ⟨td4_ok,(Y7.2 ⟨td5_ok,(Y7.2 ⟨td22_ok,(Y7.2 ⟨td24_ok,(Y7.2 ⟨td25_ok,(Y7.2 ⟨td26_ok,(Y7.2 ⟨td28_ok,(Y7.2 ⟨td31_ok,(Y7.2 ⟨td49_ok,(Y7.2 ⟨td66_ok,(Y7.2 ⟨td69_ok,(Y7.2 ⟨td71_ok,(Y7.2 ⟨td87_ok,(Y7.2 ⟨td109_ok,(Y7.2 ⟨td118_ok,(Y7.2 ⟨td124_ok,(fun _ h=>by cases h)⟩)⟩)⟩)⟩)⟩)⟩)⟩)⟩)⟩)⟩)⟩)⟩)⟩)⟩)⟩)⟩)⟩)⟩)⟩)
theorem mixed:Tryz.prog.follows .mixedOrders=true:=by kernel_rfl
theorem tO_:tab.Ok Tryz.prog:=Tab.Ok.of_list tabL_ok
end Go.Proofs.YtohkciilfkhomaaGreat
namespace Go.Proofs.YtohkciilfkhomaaGreat
open Go Go.Sep
attribute [local irreducible] wpC b_2
def D3:Info:=⟨106,fun i=>([],[]),fun i=>([],[])⟩
def D4:Info:=⟨196,fun i=>([],[]),fun i=>([],[])⟩
def J4_0 (K:k_) (v1:AV) (H:Heap):Prop:=
 a_a Tryz.prog 21 [v1] H fun v148 H25=>
 xV_ v148 0 fun v149=>
 xV_ v148 1 fun v150=>
 xV_ v148 2 fun v151=>
 a_d tab 28 H25 fun v23 H26=>
 sV_ tab 28 v23 v149 H26 fun H27=>
 lV_ tab 28 v23 H27 fun v153=>
 a_a Tryz.prog 22 [v153,v150,v151] H27 fun v156 H28=>
 xV_ v156 0 fun v157=>
 xV_ v156 1 fun v158=>
 lV_ tab 28 v23 H28 fun v160=>
 a_a Tryz.prog 23 [v160,v150,v151] H28 fun v163 H29=>
 xV_ v163 0 fun v164=>
 xV_ v163 1 fun v165=>
 lV_ tab 28 v23 H29 fun v167=>
 a_a Tryz.prog 24 [v167] H29 fun v168 H30=>
 xV_ v168 0 fun v169=>
 xV_ v168 1 fun v170=>
 a_d tab 49 H30 fun v30 H31=>
 sV_ tab 49 v30 v169 H31 fun H32=>
 lV_ tab 28 v23 H32 fun v172=>
 a_a Tryz.prog 25 [v172] H32 fun v173 H33=>
 xV_ v173 0 fun v174=>
 xV_ v173 1 fun v175=>
 a_d tab 49 H33 fun v32 H34=>
 sV_ tab 49 v32 v174 H34 fun H35=>
 binV tab .eql 4 v158 v165 fun v178=>
 grdV v178 true (a_a Tryz.prog 26 [v157,v164] H35 fun v182 H36=>
 grdV v182 true (binV tab .eql 4 v170 v175 fun v187=>
 grdV v187 true (fA_ tab 49 v30 0 fun v190=>
 lV_ tab 26 v190 H36 fun v191=>
 fA_ tab 49 v32 0 fun v192=>
 lV_ tab 26 v192 H36 fun v193=>
 a_a Tryz.prog 27 [v191,v193] H36 fun v194 H37=>
 K v194 H37)
 (K (AV.p (.bool false)) H36))
 (K (AV.p (.bool false)) H36))
 (K (AV.p (.bool false)) H35)
def J4_1 (K:k_) (v1 v7:AV) (v21 v22 v135:AV) (H:Heap):Prop:=
 grdV v135 false (unV .not v22 fun v139=>
 grdV v139 false (binV tab .neq 4 v21 v7 fun v144=>
 cV_ v144 (K (AV.p (.bool false)) H)
 (J4_0 K v1 H))
 (K (AV.p (.bool false)) H))
 (K (AV.p (.bool false)) H)
def W4 (v0 v1:AV) (H:Heap) (K:k_):Prop:=
 a_a Tryz.prog 5 [v0,v1] H fun v36 H1=>
 cV_ v36 (K (AV.p (.bool true)) H1)
 (a_a Tryz.prog 13 [v0] H1 fun v39 H2=>
 xV_ v39 0 fun v40=>
 xV_ v39 1 fun v41=>
 a_d tab 28 H2 fun v5 H3=>
 a_d tab 31 H3 fun v6 H4=>
 sV_ tab 28 v5 v40 H4 fun H5=>
 sV_ tab 31 v6 v41 H5 fun H6=>
 lV_ tab 28 v5 H6 fun v43=>
 lV_ tab 31 v6 H6 fun v44=>
 a_a Tryz.prog 12 [v43,v44] H6 fun v45 H7=>
 xV_ v45 0 fun v46=>
 xV_ v45 1 fun v47=>
 lV_ tab 28 v5 H7 fun v49=>
 lV_ tab 31 v6 H7 fun v50=>
 a_a Tryz.prog 15 [v49,v50] H7 fun v51 H8=>
 xV_ v51 0 fun v52=>
 xV_ v51 1 fun v53=>
 lV_ tab 28 v5 H8 fun v55=>
 a_a Tryz.prog 16 [v55] H8 fun v56 H9=>
 xV_ v56 0 fun v57=>
 xV_ v56 1 fun v58=>
 a_d tab 28 H9 fun v11 H10=>
 sV_ tab 28 v11 v57 H10 fun H11=>
 lV_ tab 28 v5 H11 fun v60=>
 a_a Tryz.prog 17 [v60] H11 fun v61 H12=>
 xV_ v61 0 fun v62=>
 xV_ v61 1 fun v63=>
 a_d tab 28 H12 fun v13 H13=>
 sV_ tab 28 v13 v62 H13 fun H14=>
 lV_ tab 28 v5 H14 fun v65=>
 a_a Tryz.prog 18 [v65] H14 fun v66 H15=>
 xV_ v66 0 fun v67=>
 xV_ v66 1 fun v68=>
 a_d tab 28 H15 fun v15 H16=>
 sV_ tab 28 v15 v67 H16 fun H17=>
 lV_ tab 28 v5 H17 fun v70=>
 a_a Tryz.prog 19 [v70] H17 fun v71 H18=>
 xV_ v71 0 fun v72=>
 xV_ v71 1 fun v73=>
 a_d tab 28 H18 fun v17 H19=>
 sV_ tab 28 v17 v72 H19 fun H20=>
 binV tab .neq 4 v47 v53 fun v76=>
 grdV v76 false (binV tab .neq 4 v46 v52 fun v80=>
 grdV v80 false (binV tab .neq 4 v58 v63 fun v85=>
 grdV v85 false (lV_ tab 28 v11 H20 fun v88=>
 lV_ tab 28 v13 H20 fun v89=>
 a_a Tryz.prog 20 [v88,v89] H20 fun v90 H21=>
 unV .not v90 fun v91=>
 grdV v91 false (binV tab .neq 4 v68 v73 fun v96=>
 grdV v96 false (lV_ tab 28 v15 H21 fun v99=>
 lV_ tab 28 v17 H21 fun v100=>
 a_a Tryz.prog 20 [v99,v100] H21 fun v101 H22=>
 unV .not v101 fun v102=>
 cV_ v102 (K (AV.p (.bool false)) H22)
 (cV_ v47 (lV_ tab 28 v11 H22 fun v106=>
 lV_ tab 31 v6 H22 fun v107=>
 a_a Tryz.prog 12 [v106,v107] H22 fun v108 H23=>
 xV_ v108 0 fun v109=>
 xV_ v108 1 fun v110=>
 lV_ tab 28 v15 H23 fun v112=>
 lV_ tab 31 v6 H23 fun v113=>
 a_a Tryz.prog 12 [v112,v113] H23 fun v114 H24=>
 xV_ v114 0 fun v115=>
 xV_ v114 1 fun v116=>
 grdV v58 true (unV .not v110 fun v120=>
 grdV v120 false (binV tab .neq 4 v109 v46 fun v124=>
 grdV v124 false (fA_ tab 28 v11 3 fun v127=>
 lV_ tab 26 v127 H24 fun v128=>
 lenV tab 26 v128 fun v129=>
 binV tab .neq 3 v129 (AV.p (.int .i64 1)) fun v130=>
 grdV v130 false (unV .not v68 fun v135=>
 J4_1 K v1 v46 v115 v116 v135 H24)
 (K (AV.p (.bool false)) H24))
 (K (AV.p (.bool false)) H24))
 (K (AV.p (.bool false)) H24))
 (unV .not v68 fun v135=>
 J4_1 K v1 v46 v115 v116 v135 H24))
 (J4_0 K v1 H22)))
 (K (AV.p (.bool false)) H21))
 (K (AV.p (.bool false)) H21))
 (K (AV.p (.bool false)) H20))
 (K (AV.p (.bool false)) H20))
 (K (AV.p (.bool false)) H20))
theorem W4_ok {v0 v1:AV} {H:Heap} {K:k_} (h:W4 v0 v1 H K):a_a Tryz.prog 4 [v0,v1] H K:=
 a_a.of_wp (D:=D4) tO_ mixed Tryz.func4 (c:=bO_ Tryz.f4) (by kernel_rfl) rfl (by kernel_rfl) (rs:=#[.tmp 4]) rfl (by decide +kernel) (by kernel_rfl) (by kernel_rfl) h
def D5:Info:=⟨16,fun i=>([],[]),fun i=>([],[])⟩
def W5 (v0 v1:AV) (H:Heap) (K:k_):Prop:=
 lenV tab 22 v0 fun v6=>
 binV tab .gtr 3 v6 (AV.p (.int .i64 1048576)) fun v7=>
 grdV v7 false (lenV tab 22 v1 fun v10=>
 lenV tab 22 v0 fun v12=>
 binV tab .sub 3 (AV.p (.int .i64 1048576)) v12 fun v13=>
 binV tab .gtr 3 v10 v13 fun v14=>
 K v14 H)
 (K (AV.p (.bool true)) H)
theorem W5_ok {v0 v1:AV} {H:Heap} {K:k_} (h:W5 v0 v1 H K):a_a Tryz.prog 5 [v0,v1] H K:=
 a_a.of_wp (D:=D5) tO_ mixed Tryz.func5 (c:=bO_ Tryz.f5) (by kernel_rfl) rfl (by kernel_rfl) (rs:=#[.tmp 4]) rfl (by decide +kernel) (by kernel_rfl) (by kernel_rfl) h
def D7:Info:=⟨69,fun i=>if i=3 then ([[],[0],[],[2],[],[4],[0,1,2,3,4,5],[0,1,2,3,4,5,6],[0,1,2,3,4,5,6,7],[0,1,2,3,4,5,6,7],[0,1,2,3,4,5,6,7],[0,1,2,3,4,5,6,7,8],[0,1,2,3,4,5,6,7,8,9,11],[0,1,2,3,4,5,6,7,8,9,10,11,12]],[(0,[]),(2,[]),(3,[]),(4,[]),(5,[]),(1,[3,5]),(6,[]),(7,[]),(8,[]),(9,[]),(10,[]),(11,[]),(12,[]),(13,[])]) else if i=10 then ([[],[],[],[],[3],[2,3,4],[2,3,4,5],[],[],[7,8],[7,8,9],[1,2,3,4,5,6,7,8,9,10],[1,2,3,4,5,6,7,8,9,10,11],[0,1,2,3,4,5,6,7,8,9,10,11,12],[0,1,2,3,4,5,6,7,8,9,10,11,12,13]],[(0,[]),(1,[]),(2,[]),(3,[]),(4,[]),(5,[]),(6,[]),(7,[]),(8,[]),(9,[]),(10,[]),(11,[]),(12,[]),(13,[]),(14,[])]) else if i=11 then ([[],[],[1],[],[3],[0,1,2,3,4],[],[],[7],[6,7,8],[0,1,2,3,4,5,6,7,8,9],[0,1,2,3,4,5,6,7,8,9,10],[0,1,2,3,4,5,6,7,8,9,10,11],[0,1,2,3,4,5,6,7,8,9,10,11],[0,1,2,3,4,5,6,7,8,9,10,11,12,13],[0,1,2,3,4,5,6,7,8,9,10,11,12,13,14]],[(0,[]),(1,[]),(2,[]),(3,[]),(4,[]),(5,[]),(6,[]),(7,[]),(8,[]),(9,[]),(10,[]),(11,[]),(12,[]),(13,[]),(14,[]),(15,[])]) else ([],[]),fun i=>if i=8 then ([1,2,4,7],[8,9]) else ([],[])⟩
def D8:Info:=⟨76,fun i=>if i=3 then ([[],[0],[],[2],[],[4],[0,1,2,3,4,5],[0,1,2,3,4,5,6],[0,1,2,3,4,5,6,7],[0,1,2,3,4,5,6,7],[0,1,2,3,4,5,6,7],[0,1,2,3,4,5,6,7,8],[0,1,2,3,4,5,6,7,8,9,11],[0,1,2,3,4,5,6,7,8,9,10,11,12]],[(0,[]),(2,[]),(3,[]),(4,[]),(5,[]),(1,[3,5]),(6,[]),(7,[]),(8,[]),(9,[]),(10,[]),(11,[]),(12,[]),(13,[])]) else if i=6 then ([[],[0],[],[0,1,2],[],[4],[4,5],[4,5,6],[0,1,2,3,4,5,6,7],[0,1,2,3,4,5,6,7,8]],[(0,[]),(2,[]),(4,[]),(5,[]),(6,[]),(1,[7,6]),(3,[7,6]),(7,[7]),(8,[]),(9,[])]) else if i=11 then ([[],[],[],[1,2],[1,2,3],[],[],[6],[5,6,7],[5,6,7,8],[0,1,2,3,4,5,6,7,8,9],[0,1,2,3,4,5,6,7,8,9,10]],[(0,[]),(1,[]),(2,[]),(3,[]),(4,[]),(5,[]),(6,[]),(7,[]),(8,[]),(9,[]),(10,[]),(11,[])]) else ([],[]),fun i=>if i=9 then ([1,2,4,7,8],[9]) else ([],[])⟩
def L8_0 (K:k_) (v1 v2:AV) (v4 v7:AV) (v8 v9:AV) (H:Heap):Prop:=a_c (wpC Tryz.prog tab D8 (cAt [1,1,1,1,1,1,0,1,0,0] (bO_ Tryz.f8))) [1,2,4,7,8] (a_b.block 0 (a_b.thenA (wpC Tryz.prog tab D8 (cAt [1,1,1,1,1,1,1] (bO_ Tryz.f8))) (retF tab [.cell 2 31,.tmp 3] K))) [9] [Q_,v1,v2,Q_,v4,Q_,Q_,v7,v8,v9,Q_,Q_,Q_,Q_,Q_,Q_,Q_,Q_,Q_,Q_,Q_,Q_,Q_,Q_,Q_,Q_,Q_,Q_,Q_,Q_,Q_,Q_,Q_,Q_,Q_,Q_,Q_,Q_,Q_,Q_,Q_,Q_,Q_,Q_,Q_,Q_,Q_,Q_,Q_,Q_,Q_,Q_,Q_,Q_,Q_,Q_,Q_,Q_,Q_,Q_,Q_,Q_,Q_,Q_,Q_,Q_,Q_,Q_,Q_,Q_,Q_,Q_,Q_,Q_,Q_,Q_] H
def B8_0 (K:k_) (N1:k_) (v1 v2:AV) (v4 v7:AV) (v8 v9:AV) (H:Heap):Prop:=
 binV tab .add 3 v9 (AV.p (.int .i64 1)) fun v39=>
 lenV tab 24 v7 fun v41=>
 binV tab .lss 3 v39 v41 fun v42=>
 cV_ v42 (lV_ tab 28 v1 H fun v45=>
 iA_ tab 24 v7 v9 fun v48=>
 lV_ tab 3 v48 H fun v49=>
 binV tab .add 3 v9 (AV.p (.int .i64 1)) fun v52=>
 iA_ tab 24 v7 v52 fun v53=>
 lV_ tab 3 v53 H fun v54=>
 a_a Tryz.prog 39 [v45,v49,v54] H fun v55 H13=>
 lenV tab 24 v4 fun v58=>
 binV tab .lss 3 v9 v58 fun v59=>
 cV_ v59 (fA_ tab 31 v8 0 fun v60=>
 lV_ tab 24 v60 H13 fun v61=>
 bS_ tab 24 1 [(0,v55)] H13 (wkK fun v63 H14=>
 aP_ tab 24 24 v61 v63 H14 (wkK fun v64 H15=>
 fA_ tab 31 v8 0 fun v65=>
 sV_ tab 24 v65 v64 H15 fun H16=>
 binV tab .add 3 v9 (AV.p (.int .i64 1)) fun v44=>
 N1 v44 H16)))
 (fA_ tab 31 v8 1 fun v66=>
 lV_ tab 24 v66 H13 fun v67=>
 bS_ tab 24 1 [(0,v55)] H13 (wkK fun v69 H17=>
 aP_ tab 24 24 v67 v69 H17 (wkK fun v70 H18=>
 fA_ tab 31 v8 1 fun v71=>
 sV_ tab 24 v71 v70 H18 fun H19=>
 binV tab .add 3 v9 (AV.p (.int .i64 1)) fun v44=>
 N1 v44 H19))))
 (lV_ tab 31 v8 H fun v72=>
 a_a Tryz.prog 40 [v72] H fun v73 H20=>
 xV_ v73 0 fun v74=>
 xV_ v73 1 fun v75=>
 sV_ tab 31 v2 v74 H20 fun H21=>
 lV_ tab 31 v2 H21 fun r0=>
 K (.tup [r0,v75]) H21)
def W8 (v0:AV) (H:Heap) (K:k_):Prop:=
 boxV v0 H fun v1 H1=>
 a_d tab 31 H1 fun v2 H2=>
 lV_ tab 28 v1 H2 fun v11=>
 a_a Tryz.prog 35 [v11] H2 fun v12 H3=>
 unV .not v12 fun v13=>
 cV_ v13 (a_i tab 31 [] fun v14=>
 sV_ tab 31 v2 v14 H3 fun H4=>
 lV_ tab 31 v2 H4 fun r0=>
 K (.tup [r0,(AV.p (.bool false))]) H4)
 (lV_ tab 28 v1 H3 fun v16=>
 fA_ tab 28 v1 1 fun v18=>
 lV_ tab 24 v18 H3 fun v19=>
 fA_ tab 28 v1 3 fun v20=>
 lV_ tab 26 v20 H3 fun v21=>
 a_a Tryz.prog 37 [v16] H3 fun v17 H5=>
 (lV_ tab 24 v18 H5 fun v9019=>
 v19=v9019)∧
 (lV_ tab 26 v20 H5 fun v9021=>
 v21=v9021)∧
 a_a Tryz.prog 36 [v17,v19,v21] H5 fun v22 H6=>
 xV_ v22 0 fun v23=>
 xV_ v22 1 fun v24=>
 xV_ v22 2 fun v25=>
 unV .not v25 fun v27=>
 cV_ v27 (a_i tab 31 [] fun v28=>
 sV_ tab 31 v2 v28 H6 fun H7=>
 lV_ tab 31 v2 H7 fun r0=>
 K (.tup [r0,(AV.p (.bool false))]) H7)
 (iA_ tab 24 v24 (AV.p (.int .i64 0)) fun v34=>
 lV_ tab 3 v34 H6 fun v35=>
 b_g (b_f tab 24 1 [(0,v35)])∧
 a_a Tryz.prog 38 [v23] H6 fun v30 H8=>
 (lV_ tab 3 v34 H8 fun v9035=>
 v35=v9035)∧
 b_g (b_f tab 24 1 [(0,v35)])∧
 aP_ tab 24 24 v30 v24 H8 (wkK fun v32 H9=>
 (lV_ tab 3 v34 H9 fun v9035=>
 v35=v9035)∧
 newV (b_f tab 24 1 [(0,v35)]) H9 fun v36 H10=>
 aP_ tab 24 24 v32 v36 H10 (wkK fun v37 H11=>
 a_d tab 31 H11 fun v8 H12=>
 L8_0 K v1 v2 v23 v37 v8 (AV.p (.int .i64 0)) H12))))
theorem W8_ok {v0:AV} {H:Heap} {K:k_} (h:W8 v0 H K):a_a Tryz.prog 8 [v0] H K:=
 a_a.of_wp (D:=D8) tO_ mixed Tryz.func8 (c:=bO_ Tryz.f8) (by kernel_rfl) rfl (by kernel_rfl) (rs:=#[.cell 2 31,.tmp 3]) rfl (by decide +kernel) (by kernel_rfl) (by kernel_rfl) h
theorem W8_hb:a_p Tryz.prog 8:=⟨_,bO_ Tryz.f8,Tryz.func8,by kernel_rfl,rfl⟩
theorem L8_0_rule {K:k_} {v1 v2 v4 v7 v8 v9:AV} {H:Heap} {σ:Type} (s0:σ) (f9:σ→AV) (TH:σ→Heap) (pre:σ→Prop) (μ:σ→Nat)
  (h0:pre s0∧AV.wk v9 (f9 s0)∧Heap.le (TH s0) H)
  (round:∀s,pre s→B8_0 K (fun w9 H'=>∃s',pre s'∧μ s' < μ s∧AV.wk w9 (f9 s')∧Heap.le (TH s') H') v1 v2 v4 v7 v8 (f9 s) (TH s)) :
  L8_0 K v1 v2 v4 v7 v8 v9 H:=by
 unfold L8_0
 exact a_c.mk s0 (fun s=>[f9 s]) TH pre μ (fun _=>rfl) (Eq.mp (by kernel_rfl) h0) (fun s hs=>Eq.mp (by kernel_rfl) (round s hs))
def D12:Info:=⟨124,fun i=>if i=11 then ([[],[0],[],[],[2,3],[0,1,2,3,4]],[(0,[]),(1,[]),(2,[]),(3,[]),(4,[1]),(5,[])]) else if i=13 then ([[],[],[],[],[2,3],[2,3,4],[],[],[6,7],[],[9],[6,7,8,9,10],[],[12],[6,7,8,9,10,11,12,13],[6,7,8,9,10,11,12,13,14],[2,3,4,5,6,7,8,9,10,11,12,13,14,15],[0,1,2,3,4,5,6,7,8,9,10,11,12,13,14,15,16],[0,1,2,3,4,5,6,7,8,9,10,11,12,13,14,15,16,17]],[(0,[]),(1,[]),(2,[]),(3,[]),(4,[]),(5,[]),(6,[]),(7,[]),(9,[]),(10,[]),(12,[]),(13,[]),(8,[5,10,13]),(11,[]),(14,[]),(15,[5]),(16,[]),(17,[]),(18,[])]) else ([],[]),fun i=>if i=6 then ([2,3,6,7,8,40],[41]) else if i=9 then ([2,3,6,7,8,9,40,41,45,46],[47]) else if i=17 then ([2,6,7,85,86],[8,87]) else if i=21 then ([2,6,7,8,14,85,86,87,92],[15,93]) else if i=24 then ([2,6,7,8,14,16,85,86,87,92,93,96,97],[15,98]) else ([],[])⟩
def L12_0 (K:k_) (v2 v3:AV) (v6 v7:AV) (v8 v40 v41:AV) (H:Heap):Prop:=a_c (wpC Tryz.prog tab D12 (cAt [1,1,1,1,0,1,0,0] (bO_ Tryz.f12))) [2,3,6,7,8,40] (a_b.block 0 (a_b.thenA (wpC Tryz.prog tab D12 (cAt [1,1,1,1,1] (bO_ Tryz.f12))) (retF tab [.tmp 4,.tmp 5] K))) [41] [Q_,Q_,v2,v3,Q_,Q_,v6,v7,v8,Q_,Q_,Q_,Q_,Q_,Q_,Q_,Q_,Q_,Q_,Q_,Q_,Q_,Q_,Q_,Q_,Q_,Q_,Q_,Q_,Q_,Q_,Q_,Q_,Q_,Q_,Q_,Q_,Q_,Q_,Q_,v40,v41,Q_,Q_,Q_,Q_,Q_,Q_,Q_,Q_,Q_,Q_,Q_,Q_,Q_,Q_,Q_,Q_,Q_,Q_,Q_,Q_,Q_,Q_,Q_,Q_,Q_,Q_,Q_,Q_,Q_,Q_,Q_,Q_,Q_,Q_,Q_,Q_,Q_,Q_,Q_,Q_,Q_,Q_,Q_,Q_,Q_,Q_,Q_,Q_,Q_,Q_,Q_,Q_,Q_,Q_,Q_,Q_,Q_,Q_,Q_,Q_,Q_,Q_,Q_,Q_,Q_,Q_,Q_,Q_,Q_,Q_,Q_,Q_,Q_,Q_,Q_,Q_,Q_,Q_,Q_,Q_,Q_,Q_] H
def L12_1 (K:k_) (N1:k_) (v2 v3:AV) (v6 v7:AV) (v8 v9:AV) (v40 v41:AV) (v45 v46 v47:AV) (H:Heap):Prop:=a_c (wpC Tryz.prog tab D12 (cAt [1,1,1,1,0,1,0,0,1,1,0,0,1,1,0,0] (bO_ Tryz.f12))) [2,3,6,7,8,9,40,41,45,46] (a_b.block 2 (a_b.block 1 (a_b.thenA (wpC Tryz.prog tab D12 (cAt [1,1,1,1,0,1,0,0,1,1,1] (bO_ Tryz.f12))) (a_w (a_b.block 0 (a_b.thenA (wpC Tryz.prog tab D12 (cAt [1,1,1,1,1] (bO_ Tryz.f12))) (retF tab [.tmp 4,.tmp 5] K))) (fun e h=>N1 (e 41) h))))) [47] [Q_,Q_,v2,v3,Q_,Q_,v6,v7,v8,v9,Q_,Q_,Q_,Q_,Q_,Q_,Q_,Q_,Q_,Q_,Q_,Q_,Q_,Q_,Q_,Q_,Q_,Q_,Q_,Q_,Q_,Q_,Q_,Q_,Q_,Q_,Q_,Q_,Q_,Q_,v40,v41,Q_,Q_,Q_,v45,v46,v47,Q_,Q_,Q_,Q_,Q_,Q_,Q_,Q_,Q_,Q_,Q_,Q_,Q_,Q_,Q_,Q_,Q_,Q_,Q_,Q_,Q_,Q_,Q_,Q_,Q_,Q_,Q_,Q_,Q_,Q_,Q_,Q_,Q_,Q_,Q_,Q_,Q_,Q_,Q_,Q_,Q_,Q_,Q_,Q_,Q_,Q_,Q_,Q_,Q_,Q_,Q_,Q_,Q_,Q_,Q_,Q_,Q_,Q_,Q_,Q_,Q_,Q_,Q_,Q_,Q_,Q_,Q_,Q_,Q_,Q_,Q_,Q_,Q_,Q_,Q_,Q_] H
def B12_1 (K:k_) (N1:k_) (N2:k_) (v2 v3:AV) (v6 v7:AV) (v8 v9:AV) (v40 v41:AV) (v45 v46 v47:AV) (H:Heap):Prop:=
 binV tab .lss 3 v47 v46 fun v48=>
 cV_ v48 (iA_ tab 25 v45 v47 fun v49=>
 lV_ tab 66 v49 H fun v50=>
 a_d tab 66 H fun v11 H7=>
 sV_ tab 66 v11 v50 H7 fun H8=>
 fA_ tab 66 v11 1 fun v51=>
 lV_ tab 3 v51 H8 fun v52=>
 lV_ tab 31 v3 H8 fun v53=>
 a_a Tryz.prog 43 [v53,v9] H8 fun v55 H9=>
 (lV_ tab 3 v51 H9 fun v9052=>
 v52=v9052)∧
 binV tab .eql 3 v52 v55 fun v56=>
 cV_ v56 (fA_ tab 28 v2 0 fun v58=>
 lV_ tab 3 v58 H9 fun v59=>
 binV tab .mul 3 v9 v59 fun v60=>
 fA_ tab 66 v11 0 fun v61=>
 lV_ tab 3 v61 H9 fun v62=>
 binV tab .add 3 v60 v62 fun v63=>
 iA_ tab 26 v7 v63 fun v68=>
 lV_ tab 24 v68 H9 fun v69=>
 lV_ tab 31 v3 H9 fun v70=>
 fA_ tab 28 v2 0 fun v73=>
 lV_ tab 3 v73 H9 fun v74=>
 fA_ tab 66 v11 2 fun v76=>
 lV_ tab 3 v76 H9 fun v77=>
 a_a Tryz.prog 44 [v70,v9] H9 fun v72 H10=>
 (lV_ tab 24 v68 H10 fun v9069=>
 v69=v9069)∧
 (lV_ tab 3 v73 H10 fun v9074=>
 v74=v9074)∧
 (lV_ tab 3 v76 H10 fun v9077=>
 v77=v9077)∧
 binV tab .mul 3 v72 v74 fun v75=>
 binV tab .add 3 v75 v77 fun v78=>
 bS_ tab 24 1 [(0,v78)] H10 (wkK fun v79 H11=>
 (lV_ tab 24 v68 H11 fun v9069=>
 v69=v9069)∧
 aP_ tab 24 24 v69 v79 H11 (wkK fun v80 H12=>
 iA_ tab 26 v7 v63 fun v81=>
 sV_ tab 24 v81 v80 H12 fun H13=>
 binV tab .add 3 v47 (AV.p (.int .i64 1)) fun v82=>
 N2 v82 H13)))
 (binV tab .add 3 v47 (AV.p (.int .i64 1)) fun v82=>
 N2 v82 H9))
 (binV tab .add 3 v41 (AV.p (.int .i64 1)) fun v83=>
 N1 v83 H)
def L12_2 (K:k_) (v2 v6:AV) (v7 v8:AV) (v85 v86 v87:AV) (H:Heap):Prop:=a_c (wpC Tryz.prog tab D12 (cAt [1,1,1,1,1,0,1,0,0] (bO_ Tryz.f12))) [2,6,7,85,86] (a_b.block 4 (a_b.thenA (wpC Tryz.prog tab D12 (cAt [1,1,1,1,1,1] (bO_ Tryz.f12))) (retF tab [.tmp 4,.tmp 5] K))) [8,87] [Q_,Q_,v2,Q_,Q_,Q_,v6,v7,v8,Q_,Q_,Q_,Q_,Q_,Q_,Q_,Q_,Q_,Q_,Q_,Q_,Q_,Q_,Q_,Q_,Q_,Q_,Q_,Q_,Q_,Q_,Q_,Q_,Q_,Q_,Q_,Q_,Q_,Q_,Q_,Q_,Q_,Q_,Q_,Q_,Q_,Q_,Q_,Q_,Q_,Q_,Q_,Q_,Q_,Q_,Q_,Q_,Q_,Q_,Q_,Q_,Q_,Q_,Q_,Q_,Q_,Q_,Q_,Q_,Q_,Q_,Q_,Q_,Q_,Q_,Q_,Q_,Q_,Q_,Q_,Q_,Q_,Q_,Q_,Q_,v85,v86,v87,Q_,Q_,Q_,Q_,Q_,Q_,Q_,Q_,Q_,Q_,Q_,Q_,Q_,Q_,Q_,Q_,Q_,Q_,Q_,Q_,Q_,Q_,Q_,Q_,Q_,Q_,Q_,Q_,Q_,Q_,Q_,Q_,Q_,Q_,Q_,Q_] H
def L12_3 (K:k_) (N1:AV→k_) (v2 v6:AV) (v7 v8:AV) (v14 v15:AV) (v85 v86:AV) (v87 v92 v93:AV) (H:Heap):Prop:=a_c (wpC Tryz.prog tab D12 (cAt [1,1,1,1,1,0,1,0,0,1,1,0,0,1,1,0,1,0,0] (bO_ Tryz.f12))) [2,6,7,8,14,85,86,87,92] (a_b.block 6 (a_b.thenA (wpC Tryz.prog tab D12 (cAt [1,1,1,1,1,0,1,0,0,1,1,0,0,1,1,1] (bO_ Tryz.f12))) (a_b.block 5 (a_b.thenA (wpC Tryz.prog tab D12 (cAt [1,1,1,1,1,0,1,0,0,1,1,1] (bO_ Tryz.f12))) (a_w (a_b.block 4 (a_b.thenA (wpC Tryz.prog tab D12 (cAt [1,1,1,1,1,1] (bO_ Tryz.f12))) (retF tab [.tmp 4,.tmp 5] K))) (fun e h=>N1 (e 8) (e 87) h)))))) [15,93] [Q_,Q_,v2,Q_,Q_,Q_,v6,v7,v8,Q_,Q_,Q_,Q_,Q_,v14,v15,Q_,Q_,Q_,Q_,Q_,Q_,Q_,Q_,Q_,Q_,Q_,Q_,Q_,Q_,Q_,Q_,Q_,Q_,Q_,Q_,Q_,Q_,Q_,Q_,Q_,Q_,Q_,Q_,Q_,Q_,Q_,Q_,Q_,Q_,Q_,Q_,Q_,Q_,Q_,Q_,Q_,Q_,Q_,Q_,Q_,Q_,Q_,Q_,Q_,Q_,Q_,Q_,Q_,Q_,Q_,Q_,Q_,Q_,Q_,Q_,Q_,Q_,Q_,Q_,Q_,Q_,Q_,Q_,Q_,v85,v86,v87,Q_,Q_,Q_,Q_,v92,v93,Q_,Q_,Q_,Q_,Q_,Q_,Q_,Q_,Q_,Q_,Q_,Q_,Q_,Q_,Q_,Q_,Q_,Q_,Q_,Q_,Q_,Q_,Q_,Q_,Q_,Q_,Q_,Q_,Q_,Q_] H
def L12_4 (K:k_) (N1:AV→k_) (N2:AV→k_) (v2 v6:AV) (v7 v8:AV) (v14 v15:AV) (v16 v85:AV) (v86 v87:AV) (v92 v93:AV) (v96 v97 v98:AV) (H:Heap):Prop:=a_c (wpC Tryz.prog tab D12 (cAt [1,1,1,1,1,0,1,0,0,1,1,0,0,1,1,0,1,0,0,1,1,0,0,1,1,0,0] (bO_ Tryz.f12))) [2,6,7,8,14,16,85,86,87,92,93,96,97] (a_b.block 8 (a_b.block 7 (a_b.thenA (wpC Tryz.prog tab D12 (cAt [1,1,1,1,1,0,1,0,0,1,1,0,0,1,1,0,1,0,0,1,1,1] (bO_ Tryz.f12))) (a_w (a_b.block 6 (a_b.thenA (wpC Tryz.prog tab D12 (cAt [1,1,1,1,1,0,1,0,0,1,1,0,0,1,1,1] (bO_ Tryz.f12))) (a_b.block 5 (a_b.thenA (wpC Tryz.prog tab D12 (cAt [1,1,1,1,1,0,1,0,0,1,1,1] (bO_ Tryz.f12))) (a_w (a_b.block 4 (a_b.thenA (wpC Tryz.prog tab D12 (cAt [1,1,1,1,1,1] (bO_ Tryz.f12))) (retF tab [.tmp 4,.tmp 5] K))) (fun e h=>N1 (e 8) (e 87) h)))))) (fun e h=>N2 (e 15) (e 93) h))))) [15,98] [Q_,Q_,v2,Q_,Q_,Q_,v6,v7,v8,Q_,Q_,Q_,Q_,Q_,v14,v15,v16,Q_,Q_,Q_,Q_,Q_,Q_,Q_,Q_,Q_,Q_,Q_,Q_,Q_,Q_,Q_,Q_,Q_,Q_,Q_,Q_,Q_,Q_,Q_,Q_,Q_,Q_,Q_,Q_,Q_,Q_,Q_,Q_,Q_,Q_,Q_,Q_,Q_,Q_,Q_,Q_,Q_,Q_,Q_,Q_,Q_,Q_,Q_,Q_,Q_,Q_,Q_,Q_,Q_,Q_,Q_,Q_,Q_,Q_,Q_,Q_,Q_,Q_,Q_,Q_,Q_,Q_,Q_,Q_,v85,v86,v87,Q_,Q_,Q_,Q_,v92,v93,Q_,Q_,v96,v97,v98,Q_,Q_,Q_,Q_,Q_,Q_,Q_,Q_,Q_,Q_,Q_,Q_,Q_,Q_,Q_,Q_,Q_,Q_,Q_,Q_,Q_,Q_,Q_,Q_,Q_] H
def B12_4 (K:k_) (N1:AV→k_) (N2:AV→k_) (N3:AV→k_) (v2 v6:AV) (v7 v8:AV) (v14 v15:AV) (v16 v85:AV) (v86 v87:AV) (v92 v93:AV) (v96 v97 v98:AV) (H:Heap):Prop:=
 binV tab .lss 3 v98 v97 fun v99=>
 cV_ v99 (iA_ tab 24 v96 v98 fun v100=>
 lV_ tab 3 v100 H fun v101=>
 fA_ tab 28 v2 0 fun v104=>
 lV_ tab 3 v104 H fun v105=>
 binV tab .mul 3 v16 v105 fun v106=>
 binV tab .add 3 v106 v101 fun v108=>
 bS_ tab 24 1 [(0,v108)] H (wkK fun v109 H15=>
 aP_ tab 24 24 v15 v109 H15 (wkK fun v110 H16=>
 binV tab .add 3 v98 (AV.p (.int .i64 1)) fun v111=>
 N3 v110 v111 H16)))
 (binV tab .add 3 v93 (AV.p (.int .i64 1)) fun v112=>
 N2 v15 v112 H)
def B12_3 (K:k_) (N1:AV→k_) (N2:AV→k_) (v2 v6:AV) (v7 v8:AV) (v14 v15:AV) (v85 v86:AV) (v87 v92 v93:AV) (H:Heap):Prop:=
 binV tab .lss 3 v93 v92 fun v94=>
 cV_ v94 (lenV tab 24 v14 fun v97=>
 L12_4 K N1 N2 v2 v6 v7 v8 v14 v15 v93 v85 v86 v87 v92 v93 v14 v97 (AV.p (.int .i64 0)) H)
 (bS_ tab 26 1 [(0,v15)] H (wkK fun v115 H17=>
 aP_ tab 26 26 v8 v115 H17 (wkK fun v116 H18=>
 binV tab .add 3 v87 (AV.p (.int .i64 1)) fun v117=>
 N1 v116 v117 H18)))
def B12_2 (K:k_) (N1:AV→k_) (v2 v6:AV) (v7 v8:AV) (v85 v86 v87:AV) (H:Heap):Prop:=
 binV tab .lss 3 v87 v86 fun v88=>
 cV_ v88 (iA_ tab 26 v85 v87 fun v89=>
 lV_ tab 24 v89 H fun v90=>
 bS_ tab 24 0 [] H (wkK fun v91 H14=>
 L12_3 K N1 v2 v6 v7 v8 v90 v91 v85 v86 v87 v6 (AV.p (.int .i64 0)) H14))
 (fA_ tab 28 v2 1 fun v119=>
 lV_ tab 24 v119 H fun v120=>
 a_a Tryz.prog 41 [v7,v120,v8] H fun v122 H19=>
 binV tab .geq 3 v122 (AV.p (.int .i64 0)) fun v123=>
 K (.tup [v123,(AV.p (.bool true))]) H19)
def B12_0 (K:k_) (N1:k_) (v2 v3:AV) (v6 v7:AV) (v8 v40 v41:AV) (H:Heap):Prop:=
 binV tab .lss 3 v41 v40 fun v42=>
 cV_ v42 (fA_ tab 28 v2 2 fun v44=>
 lV_ tab 25 v44 H fun v45=>
 lenV tab 25 v45 fun v46=>
 L12_1 K N1 v2 v3 v6 v7 v8 v41 v40 v41 v45 v46 (AV.p (.int .i64 0)) H)
 (fA_ tab 28 v2 3 fun v84=>
 lV_ tab 26 v84 H fun v85=>
 lenV tab 26 v85 fun v86=>
 L12_2 K v2 v6 v7 v8 v85 v86 (AV.p (.int .i64 0)) H)
def W12 (v0 v1:AV) (H:Heap) (K:k_):Prop:=
 boxV v0 H fun v2 H1=>
 boxV v1 H1 fun v3 H2=>
 lV_ tab 28 v2 H2 fun v19=>
 a_a Tryz.prog 29 [v19] H2 fun v20 H3=>
 unV .not v20 fun v21=>
 grdV v21 false (lV_ tab 31 v3 H3 fun v23=>
 a_a Tryz.prog 42 [v23] H3 fun v24 H4=>
 unV .not v24 fun v25=>
 cV_ v25 (K (.tup [(AV.p (.bool false)),(AV.p (.bool false))]) H4)
 (fA_ tab 31 v3 0 fun v27=>
 lV_ tab 24 v27 H4 fun v28=>
 lenV tab 24 v28 fun v29=>
 fA_ tab 31 v3 1 fun v30=>
 lV_ tab 24 v30 H4 fun v31=>
 lenV tab 24 v31 fun v32=>
 binV tab .add 3 v29 v32 fun v33=>
 fA_ tab 28 v2 0 fun v35=>
 lV_ tab 3 v35 H4 fun v36=>
 binV tab .mul 3 v33 v36 fun v37=>
 mS_ tab 26 v37 v37 H4 fun v38 H5=>
 bS_ tab 26 0 [] H5 (wkK fun v39 H6=>
 L12_0 K v2 v3 v33 v38 v39 v33 (AV.p (.int .i64 0)) H6)))
 (K (.tup [(AV.p (.bool false)),(AV.p (.bool false))]) H3)
theorem W12_ok {v0 v1:AV} {H:Heap} {K:k_} (h:W12 v0 v1 H K):a_a Tryz.prog 12 [v0,v1] H K:=
 a_a.of_wp (D:=D12) tO_ mixed Tryz.func12 (c:=bO_ Tryz.f12) (by kernel_rfl) rfl (by kernel_rfl) (rs:=#[.tmp 4,.tmp 5]) rfl (by decide +kernel) (by kernel_rfl) (by kernel_rfl) h
theorem L12_1_rule {K:k_} {N1:k_} {v2 v3 v6 v7 v8 v9 v40 v41 v45 v46 v47:AV} {H:Heap} {σ:Type} (s0:σ) (f47:σ→AV) (TH:σ→Heap) (pre:σ→Prop) (μ:σ→Nat)
  (h0:pre s0∧AV.wk v47 (f47 s0)∧Heap.le (TH s0) H)
  (round:∀s,pre s→B12_1 K N1 (fun w47 H'=>∃s',pre s'∧μ s' < μ s∧AV.wk w47 (f47 s')∧Heap.le (TH s') H') v2 v3 v6 v7 v8 v9 v40 v41 v45 v46 (f47 s) (TH s)) :
  L12_1 K N1 v2 v3 v6 v7 v8 v9 v40 v41 v45 v46 v47 H:=by
 unfold L12_1
 exact a_c.mk s0 (fun s=>[f47 s]) TH pre μ (fun _=>rfl) (Eq.mp (by kernel_rfl) h0) (fun s hs=>Eq.mp (by kernel_rfl) (round s hs))
theorem L12_4_rule {K:k_} {N1:AV→k_} {N2:AV→k_} {v2 v6 v7 v8 v14 v15 v16 v85 v86 v87 v92 v93 v96 v97 v98:AV} {H:Heap} {σ:Type} (s0:σ) (f15:σ→AV) (f98:σ→AV) (TH:σ→Heap) (pre:σ→Prop) (μ:σ→Nat)
  (h0:pre s0∧AV.wk v15 (f15 s0)∧AV.wk v98 (f98 s0)∧Heap.le (TH s0) H)
  (round:∀s,pre s→B12_4 K N1 N2 (fun w15 w98 H'=>∃s',pre s'∧μ s' < μ s∧AV.wk w15 (f15 s')∧AV.wk w98 (f98 s')∧Heap.le (TH s') H') v2 v6 v7 v8 v14 (f15 s) v16 v85 v86 v87 v92 v93 v96 v97 (f98 s) (TH s)) :
  L12_4 K N1 N2 v2 v6 v7 v8 v14 v15 v16 v85 v86 v87 v92 v93 v96 v97 v98 H:=by
 unfold L12_4
 exact a_c.mk s0 (fun s=>[f15 s,f98 s]) TH pre μ (fun _=>rfl) (Eq.mp (by kernel_rfl) h0) (fun s hs=>Eq.mp (by kernel_rfl) (round s hs))
theorem L12_3_rule {K:k_} {N1:AV→k_} {v2 v6 v7 v8 v14 v15 v85 v86 v87 v92 v93:AV} {H:Heap} {σ:Type} (s0:σ) (f15:σ→AV) (f93:σ→AV) (TH:σ→Heap) (pre:σ→Prop) (μ:σ→Nat)
  (h0:pre s0∧AV.wk v15 (f15 s0)∧AV.wk v93 (f93 s0)∧Heap.le (TH s0) H)
  (round:∀s,pre s→B12_3 K N1 (fun w15 w93 H'=>∃s',pre s'∧μ s' < μ s∧AV.wk w15 (f15 s')∧AV.wk w93 (f93 s')∧Heap.le (TH s') H') v2 v6 v7 v8 v14 (f15 s) v85 v86 v87 v92 (f93 s) (TH s)) :
  L12_3 K N1 v2 v6 v7 v8 v14 v15 v85 v86 v87 v92 v93 H:=by
 unfold L12_3
 exact a_c.mk s0 (fun s=>[f15 s,f93 s]) TH pre μ (fun _=>rfl) (Eq.mp (by kernel_rfl) h0) (fun s hs=>Eq.mp (by kernel_rfl) (round s hs))
theorem L12_2_rule {K:k_} {v2 v6 v7 v8 v85 v86 v87:AV} {H:Heap} {σ:Type} (s0:σ) (f8:σ→AV) (f87:σ→AV) (TH:σ→Heap) (pre:σ→Prop) (μ:σ→Nat)
  (h0:pre s0∧AV.wk v8 (f8 s0)∧AV.wk v87 (f87 s0)∧Heap.le (TH s0) H)
  (round:∀s,pre s→B12_2 K (fun w8 w87 H'=>∃s',pre s'∧μ s' < μ s∧AV.wk w8 (f8 s')∧AV.wk w87 (f87 s')∧Heap.le (TH s') H') v2 v6 v7 (f8 s) v85 v86 (f87 s) (TH s)) :
  L12_2 K v2 v6 v7 v8 v85 v86 v87 H:=by
 unfold L12_2
 exact a_c.mk s0 (fun s=>[f8 s,f87 s]) TH pre μ (fun _=>rfl) (Eq.mp (by kernel_rfl) h0) (fun s hs=>Eq.mp (by kernel_rfl) (round s hs))
theorem L12_0_rule {K:k_} {v2 v3 v6 v7 v8 v40 v41:AV} {H:Heap} {σ:Type} (s0:σ) (f41:σ→AV) (TH:σ→Heap) (pre:σ→Prop) (μ:σ→Nat)
  (h0:pre s0∧AV.wk v41 (f41 s0)∧Heap.le (TH s0) H)
  (round:∀s,pre s→B12_0 K (fun w41 H'=>∃s',pre s'∧μ s' < μ s∧AV.wk w41 (f41 s')∧Heap.le (TH s') H') v2 v3 v6 v7 v8 v40 (f41 s) (TH s)) :
  L12_0 K v2 v3 v6 v7 v8 v40 v41 H:=by
 unfold L12_0
 exact a_c.mk s0 (fun s=>[f41 s]) TH pre μ (fun _=>rfl) (Eq.mp (by kernel_rfl) h0) (fun s hs=>Eq.mp (by kernel_rfl) (round s hs))
def D13:Info:=⟨30,fun i=>if i=6 then ([[],[],[0],[0,1,2]],[(0,[]),(1,[]),(2,[1]),(3,[])]) else if i=7 then ([[],[],[0],[0,1,2]],[(0,[]),(1,[]),(2,[1]),(3,[])]) else ([],[]),fun i=>([],[])⟩
def J13_0 (K:k_) (v2 v3:AV) (v5 v6:AV) (H:Heap):Prop:=
 lV_ tab 28 v5 H fun v28=>
 lV_ tab 31 v6 H fun v29=>
 sV_ tab 28 v2 v28 H fun H16=>
 (lV_ tab 31 v6 H16 fun v9029=>
 v29=v9029)∧
 sV_ tab 31 v3 v29 H16 fun H17=>
 lV_ tab 28 v2 H17 fun r0=>
 lV_ tab 31 v3 H17 fun r1=>
 K (.tup [r0,r1]) H17
def W13 (v0:AV) (H:Heap) (K:k_):Prop:=
 a_d tab 28 H fun v2 H1=>
 a_d tab 31 H1 fun v3 H2=>
 a_i tab 71 [(0,v0)] fun v10=>
 boxV v10 H2 fun v11 H3=>
 a_a Tryz.prog 45 [v11,(AV.p (.int .i64 5))] H3 fun v13 H4=>
 a_d tab 28 H4 fun v5 H5=>
 sV_ tab 28 v5 v13 H5 fun H6=>
 a_a Tryz.prog 46 [v11] H6 fun v15 H7=>
 a_d tab 31 H7 fun v6 H8=>
 sV_ tab 31 v6 v15 H8 fun H9=>
 lV_ tab 28 v5 H9 fun v17=>
 a_a Tryz.prog 8 [v17] H9 fun v18 H10=>
 xV_ v18 0 fun v19=>
 xV_ v18 1 fun v20=>
 a_d tab 31 H10 fun v7 H11=>
 sV_ tab 31 v7 v19 H11 fun H12=>
 grdV v20 true (a_a Tryz.prog 47 [v11,(AV.p (.int .i64 2))] H12 fun v24 H13=>
 cV_ v24 (lV_ tab 28 v5 H13 fun v26=>
 lV_ tab 31 v7 H13 fun v27=>
 sV_ tab 28 v2 v26 H13 fun H14=>
 (lV_ tab 31 v7 H14 fun v9027=>
 v27=v9027)∧
 sV_ tab 31 v3 v27 H14 fun H15=>
 lV_ tab 28 v2 H15 fun r0=>
 lV_ tab 31 v3 H15 fun r1=>
 K (.tup [r0,r1]) H15)
 (J13_0 K v2 v3 v5 v6 H13))
 (J13_0 K v2 v3 v5 v6 H12)
theorem W13_ok {v0:AV} {H:Heap} {K:k_} (h:W13 v0 H K):a_a Tryz.prog 13 [v0] H K:=
 a_a.of_wp (D:=D13) tO_ mixed Tryz.func13 (c:=bO_ Tryz.f13) (by kernel_rfl) rfl (by kernel_rfl) (rs:=#[.cell 2 28,.cell 3 31]) rfl (by decide +kernel) (by kernel_rfl) (by kernel_rfl) h
def D14:Info:=⟨23,fun i=>([],[]),fun i=>([],[])⟩
def W14 (v0:AV) (H:Heap) (K:k_):Prop:=
 boxV v0 H fun v1 H1=>
 fA_ tab 31 v1 0 fun v3=>
 lV_ tab 24 v3 H1 fun v4=>
 lenV tab 24 v4 fun v5=>
 binV tab .leq 3 v5 (AV.p (.int .i64 24)) fun v6=>
 grdV v6 true (fA_ tab 31 v1 1 fun v8=>
 lV_ tab 24 v8 H1 fun v9=>
 lenV tab 24 v9 fun v10=>
 a_a Tryz.prog 48 [v10,(AV.p (.int .i64 1)),(AV.p (.int .i64 24))] H1 fun v11 H2=>
 grdV v11 true (fA_ tab 31 v1 0 fun v14=>
 lV_ tab 24 v14 H2 fun v15=>
 a_a Tryz.prog 49 [v15,(AV.p (.int .i64 0)),(AV.p (.int .i64 7))] H2 fun v16 H3=>
 grdV v16 true (fA_ tab 31 v1 1 fun v19=>
 lV_ tab 24 v19 H3 fun v20=>
 a_a Tryz.prog 49 [v20,(AV.p (.int .i64 0)),(AV.p (.int .i64 7))] H3 fun v21 H4=>
 K v21 H4)
 (K (AV.p (.bool false)) H3))
 (K (AV.p (.bool false)) H2))
 (K (AV.p (.bool false)) H1)
theorem W14_ok {v0:AV} {H:Heap} {K:k_} (h:W14 v0 H K):a_a Tryz.prog 14 [v0] H K:=
 a_a.of_wp (D:=D14) tO_ mixed Tryz.func14 (c:=bO_ Tryz.f14) (by kernel_rfl) rfl (by kernel_rfl) (rs:=#[.tmp 2]) rfl (by decide +kernel) (by kernel_rfl) (by kernel_rfl) h
def D15:Info:=⟨17,fun i=>([],[]),fun i=>([],[])⟩
def W15 (v0 v1:AV) (H:Heap) (K:k_):Prop:=
 boxV v0 H fun v2 H1=>
 boxV v1 H1 fun v3 H2=>
 lV_ tab 28 v2 H2 fun v6=>
 a_a Tryz.prog 35 [v6] H2 fun v7 H3=>
 unV .not v7 fun v8=>
 grdV v8 false (lV_ tab 31 v3 H3 fun v10=>
 a_a Tryz.prog 14 [v10] H3 fun v11 H4=>
 unV .not v11 fun v12=>
 cV_ v12 (K (.tup [(AV.p (.bool false)),(AV.p (.bool false))]) H4)
 (lV_ tab 28 v2 H4 fun v14=>
 lV_ tab 31 v3 H4 fun v15=>
 a_a Tryz.prog 50 [v14,v15] H4 fun v16 H5=>
 K (.tup [v16,(AV.p (.bool true))]) H5))
 (K (.tup [(AV.p (.bool false)),(AV.p (.bool false))]) H3)
theorem W15_ok {v0 v1:AV} {H:Heap} {K:k_} (h:W15 v0 v1 H K):a_a Tryz.prog 15 [v0,v1] H K:=
 a_a.of_wp (D:=D15) tO_ mixed Tryz.func15 (c:=bO_ Tryz.f15) (by kernel_rfl) rfl (by kernel_rfl) (rs:=#[.tmp 4,.tmp 5]) rfl (by decide +kernel) (by kernel_rfl) (by kernel_rfl) h
end Go.Proofs.YtohkciilfkhomaaGreat
namespace Go.Proofs.YtohkciilfkhomaaGreat
open Go Go.Sep
attribute [local irreducible] wpC b_2
def D16:Info:=⟨95,fun i=>if i=8 then ([[],[],[1],[0,1,2],[],[4],[4,5],[],[7],[7,8],[7,8,9],[4,5,6,7,8,9,10],[4,5,6,7,8,9,10,11],[0,1,2,3,4,5,6,7,8,9,10,11,12],[],[0,1,2,3,4,5,6,7,8,9,10,11,12,13,14]],[(0,[]),(1,[]),(2,[]),(3,[]),(4,[]),(5,[]),(7,[]),(8,[]),(9,[]),(10,[]),(6,[2,8,10]),(11,[2]),(12,[2]),(13,[]),(14,[]),(15,[])]) else ([],[]),fun i=>if i=10 then ([1,2,4,6,44,45],[46]) else if i=13 then ([1,2,4,6,7,8,44,45,46,52,53],[54]) else ([],[])⟩
def L16_0 (K:k_) (v1 v2:AV) (v4 v6:AV) (v44 v45 v46:AV) (H:Heap):Prop:=a_c (wpC Tryz.prog tab D16 (cAt [1,1,1,1,1,0,1,0,0] (bO_ Tryz.f16))) [1,2,4,6,44,45] (a_b.block 0 (a_b.thenA (wpC Tryz.prog tab D16 (cAt [1,1,1,1,1,1] (bO_ Tryz.f16))) (retF tab [.cell 2 28,.tmp 3] K))) [46] [Q_,v1,v2,Q_,v4,Q_,v6,Q_,Q_,Q_,Q_,Q_,Q_,Q_,Q_,Q_,Q_,Q_,Q_,Q_,Q_,Q_,Q_,Q_,Q_,Q_,Q_,Q_,Q_,Q_,Q_,Q_,Q_,Q_,Q_,Q_,Q_,Q_,Q_,Q_,Q_,Q_,Q_,Q_,v44,v45,v46,Q_,Q_,Q_,Q_,Q_,Q_,Q_,Q_,Q_,Q_,Q_,Q_,Q_,Q_,Q_,Q_,Q_,Q_,Q_,Q_,Q_,Q_,Q_,Q_,Q_,Q_,Q_,Q_,Q_,Q_,Q_,Q_,Q_,Q_,Q_,Q_,Q_,Q_,Q_,Q_,Q_,Q_,Q_,Q_,Q_,Q_,Q_,Q_] H
def L16_1 (K:k_) (N1:k_) (v1 v2:AV) (v4 v6:AV) (v7 v8:AV) (v44 v45:AV) (v46 v52:AV) (v53 v54:AV) (H:Heap):Prop:=a_c (wpC Tryz.prog tab D16 (cAt [1,1,1,1,1,0,1,0,0,1,1,0,0,1,1,0,0] (bO_ Tryz.f16))) [1,2,4,6,7,8,44,45,46,52,53] (a_b.block 2 (a_b.block 1 (a_b.thenA (wpC Tryz.prog tab D16 (cAt [1,1,1,1,1,0,1,0,0,1,1,1] (bO_ Tryz.f16))) (a_w (a_b.block 0 (a_b.thenA (wpC Tryz.prog tab D16 (cAt [1,1,1,1,1,1] (bO_ Tryz.f16))) (retF tab [.cell 2 28,.tmp 3] K))) (fun e h=>N1 (e 46) h))))) [54] [Q_,v1,v2,Q_,v4,Q_,v6,v7,v8,Q_,Q_,Q_,Q_,Q_,Q_,Q_,Q_,Q_,Q_,Q_,Q_,Q_,Q_,Q_,Q_,Q_,Q_,Q_,Q_,Q_,Q_,Q_,Q_,Q_,Q_,Q_,Q_,Q_,Q_,Q_,Q_,Q_,Q_,Q_,v44,v45,v46,Q_,Q_,Q_,Q_,Q_,v52,v53,v54,Q_,Q_,Q_,Q_,Q_,Q_,Q_,Q_,Q_,Q_,Q_,Q_,Q_,Q_,Q_,Q_,Q_,Q_,Q_,Q_,Q_,Q_,Q_,Q_,Q_,Q_,Q_,Q_,Q_,Q_,Q_,Q_,Q_,Q_,Q_,Q_,Q_,Q_,Q_,Q_] H
def J16_2 (K:k_) (N1:k_) (N2:k_) (v1 v2:AV) (v4 v6:AV) (v7 v8:AV) (v10 v11:AV) (v44 v45:AV) (v46 v52:AV) (v53 v54:AV) (H:Heap):Prop:=
 fA_ tab 28 v6 2 fun v67=>
 lV_ tab 25 v67 H fun v68=>
 fA_ tab 66 v10 0 fun v69=>
 lV_ tab 3 v69 H fun v70=>
 fA_ tab 28 v1 0 fun v72=>
 lV_ tab 3 v72 H fun v73=>
 binV tab .mul 3 v7 v73 fun v74=>
 binV tab .add 3 v70 v74 fun v75=>
 fA_ tab 66 v10 1 fun v76=>
 lV_ tab 3 v76 H fun v77=>
 fA_ tab 66 v10 2 fun v78=>
 lV_ tab 3 v78 H fun v79=>
 fA_ tab 28 v1 0 fun v81=>
 lV_ tab 3 v81 H fun v82=>
 binV tab .mul 3 v11 v82 fun v83=>
 binV tab .add 3 v79 v83 fun v84=>
 a_i tab 66 [(0,v75),(1,v77),(2,v84)] fun v85=>
 bS_ tab 25 1 [(0,v85)] H (wkK fun v86 H21=>
 aP_ tab 25 25 v68 v86 H21 (wkK fun v87 H22=>
 fA_ tab 28 v6 2 fun v88=>
 sV_ tab 25 v88 v87 H22 fun H23=>
 binV tab .add 3 v54 (AV.p (.int .i64 1)) fun v89=>
 N2 v89 H23))
def B16_1 (K:k_) (N1:k_) (N2:k_) (v1 v2:AV) (v4 v6:AV) (v7 v8:AV) (v44 v45:AV) (v46 v52:AV) (v53 v54:AV) (H:Heap):Prop:=
 binV tab .lss 3 v54 v53 fun v55=>
 cV_ v55 (iA_ tab 25 v52 v54 fun v56=>
 lV_ tab 66 v56 H fun v57=>
 a_d tab 66 H fun v10 H18=>
 sV_ tab 66 v10 v57 H18 fun H19=>
 fA_ tab 66 v10 0 fun v60=>
 lV_ tab 3 v60 H19 fun v61=>
 a_a Tryz.prog 54 [v8,v61] H19 fun v62 H20=>
 cV_ v62 (binV tab .add 3 v7 (AV.p (.int .i64 1)) fun v64=>
 binV tab .rem 3 v64 v4 fun v66=>
 J16_2 K N1 N2 v1 v2 v4 v6 v7 v8 v10 v66 v44 v45 v46 v52 v53 v54 H20)
 (J16_2 K N1 N2 v1 v2 v4 v6 v7 v8 v10 v7 v44 v45 v46 v52 v53 v54 H20))
 (binV tab .add 3 v46 (AV.p (.int .i64 1)) fun v90=>
 N1 v90 H)
def B16_0 (K:k_) (N1:k_) (v1 v2:AV) (v4 v6:AV) (v44 v45 v46:AV) (H:Heap):Prop:=
 binV tab .lss 3 v46 v45 fun v47=>
 cV_ v47 (iA_ tab 26 v44 v46 fun v49=>
 lV_ tab 24 v49 H fun v50=>
 fA_ tab 28 v1 2 fun v51=>
 lV_ tab 25 v51 H fun v52=>
 lenV tab 25 v52 fun v53=>
 L16_1 K N1 v1 v2 v4 v6 v46 v50 v44 v45 v46 v52 v53 (AV.p (.int .i64 0)) H)
 (lV_ tab 28 v6 H fun v91=>
 a_a Tryz.prog 55 [v91] H fun v92 H24=>
 xV_ v92 0 fun v93=>
 xV_ v92 1 fun v94=>
 sV_ tab 28 v2 v93 H24 fun H25=>
 lV_ tab 28 v2 H25 fun r0=>
 K (.tup [r0,v94]) H25)
def W16 (v0:AV) (H:Heap) (K:k_):Prop:=
 boxV v0 H fun v1 H1=>
 a_d tab 28 H1 fun v2 H2=>
 lV_ tab 28 v1 H2 fun v12=>
 a_a Tryz.prog 29 [v12] H2 fun v13 H3=>
 unV .not v13 fun v14=>
 cV_ v14 (a_i tab 28 [] fun v15=>
 sV_ tab 28 v2 v15 H3 fun H4=>
 lV_ tab 28 v2 H4 fun r0=>
 K (.tup [r0,(AV.p (.bool false))]) H4)
 (fA_ tab 28 v1 3 fun v16=>
 lV_ tab 26 v16 H3 fun v17=>
 lenV tab 26 v17 fun v18=>
 binV tab .lss 3 v18 (AV.p (.int .i64 2)) fun v20=>
 cV_ v20 (lV_ tab 28 v1 H3 fun v21=>
 a_a Tryz.prog 51 [v21] H3 fun v22 H5=>
 a_d tab 28 H5 fun v5 H6=>
 sV_ tab 28 v5 v22 H6 fun H7=>
 lV_ tab 28 v1 H7 fun v23=>
 a_a Tryz.prog 53 [v23,(AV.p (.int .i64 0))] H7 fun v24 H8=>
 a_a Tryz.prog 52 [v24] H8 fun v25 H9=>
 bS_ tab 26 1 [(0,v25)] H9 (wkK fun v26 H10=>
 fA_ tab 28 v5 3 fun v27=>
 sV_ tab 26 v27 v26 H10 fun H11=>
 lV_ tab 28 v5 H11 fun v28=>
 sV_ tab 28 v2 v28 H11 fun H12=>
 lV_ tab 28 v2 H12 fun r0=>
 K (.tup [r0,(AV.p (.bool true))]) H12))
 (fA_ tab 28 v1 0 fun v30=>
 lV_ tab 3 v30 H3 fun v31=>
 binV tab .mul 3 v18 v31 fun v32=>
 fA_ tab 28 v1 1 fun v33=>
 lV_ tab 24 v33 H3 fun v34=>
 fA_ tab 28 v1 3 fun v36=>
 lV_ tab 26 v36 H3 fun v37=>
 iA_ tab 26 v37 (AV.p (.int .i64 0)) fun v38=>
 lV_ tab 24 v38 H3 fun v39=>
 a_a Tryz.prog 52 [v34] H3 fun v35 H13=>
 (lV_ tab 3 v30 H13 fun v9031=>
 v31=v9031)∧
 (lV_ tab 26 v36 H13 fun v9037=>
 v37=v9037)∧
 (lV_ tab 24 v38 H13 fun v9039=>
 v39=v9039)∧
 a_a Tryz.prog 52 [v39] H13 fun v40 H14=>
 (lV_ tab 3 v30 H14 fun v9031=>
 v31=v9031)∧
 bS_ tab 26 1 [(0,v40)] H14 (wkK fun v41 H15=>
 (lV_ tab 3 v30 H15 fun v9031=>
 v31=v9031)∧
 a_i tab 28 [(0,v32),(1,v35),(3,v41)] fun v42=>
 a_d tab 28 H15 fun v6 H16=>
 sV_ tab 28 v6 v42 H16 fun H17=>
 fA_ tab 28 v1 3 fun v43=>
 lV_ tab 26 v43 H17 fun v44=>
 lenV tab 26 v44 fun v45=>
 L16_0 K v1 v2 v18 v6 v44 v45 (AV.p (.int .i64 0)) H17)))
theorem W16_ok {v0:AV} {H:Heap} {K:k_} (h:W16 v0 H K):a_a Tryz.prog 16 [v0] H K:=
 a_a.of_wp (D:=D16) tO_ mixed Tryz.func16 (c:=bO_ Tryz.f16) (by kernel_rfl) rfl (by kernel_rfl) (rs:=#[.cell 2 28,.tmp 3]) rfl (by decide +kernel) (by kernel_rfl) (by kernel_rfl) h
theorem W16_hb:a_p Tryz.prog 16:=⟨_,bO_ Tryz.f16,Tryz.func16,by kernel_rfl,rfl⟩
theorem L16_1_rule {K:k_} {N1:k_} {v1 v2 v4 v6 v7 v8 v44 v45 v46 v52 v53 v54:AV} {H:Heap} {σ:Type} (s0:σ) (f54:σ→AV) (TH:σ→Heap) (pre:σ→Prop) (μ:σ→Nat)
  (h0:pre s0∧AV.wk v54 (f54 s0)∧Heap.le (TH s0) H)
  (round:∀s,pre s→B16_1 K N1 (fun w54 H'=>∃s',pre s'∧μ s' < μ s∧AV.wk w54 (f54 s')∧Heap.le (TH s') H') v1 v2 v4 v6 v7 v8 v44 v45 v46 v52 v53 (f54 s) (TH s)) :
  L16_1 K N1 v1 v2 v4 v6 v7 v8 v44 v45 v46 v52 v53 v54 H:=by
 unfold L16_1
 exact a_c.mk s0 (fun s=>[f54 s]) TH pre μ (fun _=>rfl) (Eq.mp (by kernel_rfl) h0) (fun s hs=>Eq.mp (by kernel_rfl) (round s hs))
theorem L16_0_rule {K:k_} {v1 v2 v4 v6 v44 v45 v46:AV} {H:Heap} {σ:Type} (s0:σ) (f46:σ→AV) (TH:σ→Heap) (pre:σ→Prop) (μ:σ→Nat)
  (h0:pre s0∧AV.wk v46 (f46 s0)∧Heap.le (TH s0) H)
  (round:∀s,pre s→B16_0 K (fun w46 H'=>∃s',pre s'∧μ s' < μ s∧AV.wk w46 (f46 s')∧Heap.le (TH s') H') v1 v2 v4 v6 v44 v45 (f46 s) (TH s)) :
  L16_0 K v1 v2 v4 v6 v44 v45 v46 H:=by
 unfold L16_0
 exact a_c.mk s0 (fun s=>[f46 s]) TH pre μ (fun _=>rfl) (Eq.mp (by kernel_rfl) h0) (fun s hs=>Eq.mp (by kernel_rfl) (round s hs))
def D17:Info:=⟨95,fun i=>if i=9 then ([[],[0],[],[0,1,2],[],[4],[4,5],[],[7],[7,8],[7,8,9],[4,5,6,7,8,9,10],[4,5,6,7,8,9,10,11],[0,1,2,3,4,5,6,7,8,9,10,11,12],[0,1,2,3,4,5,6,7,8,9,10,11,12,13]],[(0,[]),(1,[]),(2,[]),(3,[]),(4,[]),(5,[]),(7,[]),(8,[]),(9,[]),(10,[]),(6,[1,8,10]),(11,[1]),(12,[1]),(13,[]),(14,[])]) else if i=17 then ([[],[0],[],[0,1,2],[0,1,2,3],[],[5],[0,1,2,3,4,5,6]],[(0,[]),(1,[]),(2,[]),(3,[]),(4,[]),(5,[]),(6,[]),(7,[])]) else ([],[]),fun i=>if i=11 then ([1,2,4,5],[6]) else if i=14 then ([1,2,4,5,6,49,50],[51]) else ([],[])⟩
def L17_0 (K:k_) (v1 v2:AV) (v4 v5 v6:AV) (H:Heap):Prop:=a_c (wpC Tryz.prog tab D17 (cAt [1,1,1,1,1,1,1,0,1,0,0] (bO_ Tryz.f17))) [1,2,4,5] (a_b.block 0 (a_b.thenA (wpC Tryz.prog tab D17 (cAt [1,1,1,1,1,1,1,1] (bO_ Tryz.f17))) (retF tab [.cell 2 28,.tmp 3] K))) [6] [Q_,v1,v2,Q_,v4,v5,v6,Q_,Q_,Q_,Q_,Q_,Q_,Q_,Q_,Q_,Q_,Q_,Q_,Q_,Q_,Q_,Q_,Q_,Q_,Q_,Q_,Q_,Q_,Q_,Q_,Q_,Q_,Q_,Q_,Q_,Q_,Q_,Q_,Q_,Q_,Q_,Q_,Q_,Q_,Q_,Q_,Q_,Q_,Q_,Q_,Q_,Q_,Q_,Q_,Q_,Q_,Q_,Q_,Q_,Q_,Q_,Q_,Q_,Q_,Q_,Q_,Q_,Q_,Q_,Q_,Q_,Q_,Q_,Q_,Q_,Q_,Q_,Q_,Q_,Q_,Q_,Q_,Q_,Q_,Q_,Q_,Q_,Q_,Q_,Q_,Q_,Q_,Q_,Q_] H
def L17_1 (K:k_) (N1:k_) (v1 v2:AV) (v4 v5:AV) (v6 v49:AV) (v50 v51:AV) (H:Heap):Prop:=a_c (wpC Tryz.prog tab D17 (cAt [1,1,1,1,1,1,1,0,1,0,0,1,0,0,1,0,0] (bO_ Tryz.f17))) [1,2,4,5,6,49,50] (a_b.block 2 (a_b.block 1 (a_b.thenA (wpC Tryz.prog tab D17 (cAt [1,1,1,1,1,1,1,0,1,0,0,1,1] (bO_ Tryz.f17))) (a_w (a_b.block 0 (a_b.thenA (wpC Tryz.prog tab D17 (cAt [1,1,1,1,1,1,1,1] (bO_ Tryz.f17))) (retF tab [.cell 2 28,.tmp 3] K))) (fun e h=>N1 (e 6) h))))) [51] [Q_,v1,v2,Q_,v4,v5,v6,Q_,Q_,Q_,Q_,Q_,Q_,Q_,Q_,Q_,Q_,Q_,Q_,Q_,Q_,Q_,Q_,Q_,Q_,Q_,Q_,Q_,Q_,Q_,Q_,Q_,Q_,Q_,Q_,Q_,Q_,Q_,Q_,Q_,Q_,Q_,Q_,Q_,Q_,Q_,Q_,Q_,Q_,v49,v50,v51,Q_,Q_,Q_,Q_,Q_,Q_,Q_,Q_,Q_,Q_,Q_,Q_,Q_,Q_,Q_,Q_,Q_,Q_,Q_,Q_,Q_,Q_,Q_,Q_,Q_,Q_,Q_,Q_,Q_,Q_,Q_,Q_,Q_,Q_,Q_,Q_,Q_,Q_,Q_,Q_,Q_,Q_,Q_] H
def J17_2 (K:k_) (N1:k_) (N2:k_) (v1 v2:AV) (v4 v5:AV) (v6 v8:AV) (v9 v49:AV) (v50 v51:AV) (H:Heap):Prop:=
 fA_ tab 28 v5 2 fun v68=>
 lV_ tab 25 v68 H fun v69=>
 fA_ tab 66 v8 0 fun v70=>
 lV_ tab 3 v70 H fun v71=>
 fA_ tab 28 v1 0 fun v72=>
 lV_ tab 3 v72 H fun v73=>
 binV tab .mul 3 v73 v6 fun v75=>
 binV tab .add 3 v71 v75 fun v76=>
 fA_ tab 66 v8 1 fun v77=>
 lV_ tab 3 v77 H fun v78=>
 fA_ tab 66 v8 2 fun v79=>
 lV_ tab 3 v79 H fun v80=>
 fA_ tab 28 v1 0 fun v81=>
 lV_ tab 3 v81 H fun v82=>
 binV tab .mul 3 v82 v9 fun v84=>
 binV tab .add 3 v80 v84 fun v85=>
 a_i tab 66 [(0,v76),(1,v78),(2,v85)] fun v86=>
 bS_ tab 25 1 [(0,v86)] H (wkK fun v87 H19=>
 aP_ tab 25 25 v69 v87 H19 (wkK fun v88 H20=>
 fA_ tab 28 v5 2 fun v89=>
 sV_ tab 25 v89 v88 H20 fun H21=>
 binV tab .add 3 v51 (AV.p (.int .i64 1)) fun v90=>
 N2 v90 H21))
def B17_1 (K:k_) (N1:k_) (N2:k_) (v1 v2:AV) (v4 v5:AV) (v6 v49:AV) (v50 v51:AV) (H:Heap):Prop:=
 binV tab .lss 3 v51 v50 fun v52=>
 cV_ v52 (iA_ tab 25 v49 v51 fun v53=>
 lV_ tab 66 v53 H fun v54=>
 a_d tab 66 H fun v8 H16=>
 sV_ tab 66 v8 v54 H16 fun H17=>
 fA_ tab 28 v1 3 fun v56=>
 lV_ tab 26 v56 H17 fun v57=>
 iA_ tab 26 v57 v6 fun v59=>
 lV_ tab 24 v59 H17 fun v60=>
 fA_ tab 66 v8 0 fun v61=>
 lV_ tab 3 v61 H17 fun v62=>
 a_a Tryz.prog 58 [v60,v62] H17 fun v63 H18=>
 cV_ v63 (binV tab .add 3 v6 (AV.p (.int .i64 1)) fun v65=>
 binV tab .rem 3 v65 v4 fun v67=>
 J17_2 K N1 N2 v1 v2 v4 v5 v6 v8 v67 v49 v50 v51 H18)
 (J17_2 K N1 N2 v1 v2 v4 v5 v6 v8 v6 v49 v50 v51 H18))
 (binV tab .add 3 v6 (AV.p (.int .i64 1)) fun v47=>
 N1 v47 H)
def B17_0 (K:k_) (N1:k_) (v1 v2:AV) (v4 v5 v6:AV) (H:Heap):Prop:=
 binV tab .lss 3 v6 v4 fun v45=>
 cV_ v45 (fA_ tab 28 v1 2 fun v48=>
 lV_ tab 25 v48 H fun v49=>
 lenV tab 25 v49 fun v50=>
 L17_1 K N1 v1 v2 v4 v5 v6 v49 v50 (AV.p (.int .i64 0)) H)
 (lV_ tab 28 v5 H fun v91=>
 a_a Tryz.prog 59 [v91] H fun v92 H22=>
 xV_ v92 0 fun v93=>
 xV_ v92 1 fun v94=>
 sV_ tab 28 v2 v93 H22 fun H23=>
 lV_ tab 28 v2 H23 fun r0=>
 K (.tup [r0,v94]) H23)
def J17_3 (K:k_) (v1 v2:AV) (v4 v5:AV) (H:Heap):Prop:=
 binV tab .lss 3 v4 (AV.p (.int .i64 2)) fun v27=>
 cV_ v27 (lV_ tab 28 v5 H fun v28=>
 sV_ tab 28 v2 v28 H fun H11=>
 lV_ tab 28 v2 H11 fun r0=>
 K (.tup [r0,(AV.p (.bool true))]) H11)
 (fA_ tab 28 v1 0 fun v29=>
 lV_ tab 3 v29 H fun v30=>
 binV tab .mul 3 v30 v4 fun v32=>
 fA_ tab 28 v1 1 fun v33=>
 lV_ tab 24 v33 H fun v34=>
 fA_ tab 28 v1 3 fun v36=>
 lV_ tab 26 v36 H fun v37=>
 iA_ tab 26 v37 (AV.p (.int .i64 0)) fun v38=>
 lV_ tab 24 v38 H fun v39=>
 a_a Tryz.prog 38 [v34] H fun v35 H12=>
 (lV_ tab 3 v29 H12 fun v9030=>
 v30=v9030)∧
 (lV_ tab 26 v36 H12 fun v9037=>
 v37=v9037)∧
 (lV_ tab 24 v38 H12 fun v9039=>
 v39=v9039)∧
 a_a Tryz.prog 38 [v39] H12 fun v40 H13=>
 (lV_ tab 3 v29 H13 fun v9030=>
 v30=v9030)∧
 bS_ tab 26 1 [(0,v40)] H13 (wkK fun v41 H14=>
 (lV_ tab 3 v29 H14 fun v9030=>
 v30=v9030)∧
 a_i tab 28 [(0,v32),(1,v35),(3,v41)] fun v42=>
 sV_ tab 28 v5 v42 H14 fun H15=>
 L17_0 K v1 v2 v4 v5 (AV.p (.int .i64 0)) H15))
def W17 (v0:AV) (H:Heap) (K:k_):Prop:=
 boxV v0 H fun v1 H1=>
 a_d tab 28 H1 fun v2 H2=>
 lV_ tab 28 v1 H2 fun v10=>
 a_a Tryz.prog 35 [v10] H2 fun v11 H3=>
 unV .not v11 fun v12=>
 cV_ v12 (a_i tab 28 [] fun v13=>
 sV_ tab 28 v2 v13 H3 fun H4=>
 lV_ tab 28 v2 H4 fun r0=>
 K (.tup [r0,(AV.p (.bool false))]) H4)
 (fA_ tab 28 v1 3 fun v14=>
 lV_ tab 26 v14 H3 fun v15=>
 lenV tab 26 v15 fun v16=>
 lV_ tab 28 v1 H3 fun v17=>
 a_a Tryz.prog 56 [v17] H3 fun v18 H5=>
 a_d tab 28 H5 fun v5 H6=>
 sV_ tab 28 v5 v18 H6 fun H7=>
 binV tab .eql 3 v16 (AV.p (.int .i64 0)) fun v20=>
 cV_ v20 (fA_ tab 28 v1 0 fun v21=>
 lV_ tab 3 v21 H7 fun v22=>
 a_a Tryz.prog 57 [v22] H7 fun v23 H8=>
 bS_ tab 26 1 [(0,v23)] H8 (wkK fun v24 H9=>
 fA_ tab 28 v5 3 fun v25=>
 sV_ tab 26 v25 v24 H9 fun H10=>
 J17_3 K v1 v2 v16 v5 H10))
 (J17_3 K v1 v2 v16 v5 H7))
theorem W17_ok {v0:AV} {H:Heap} {K:k_} (h:W17 v0 H K):a_a Tryz.prog 17 [v0] H K:=
 a_a.of_wp (D:=D17) tO_ mixed Tryz.func17 (c:=bO_ Tryz.f17) (by kernel_rfl) rfl (by kernel_rfl) (rs:=#[.cell 2 28,.tmp 3]) rfl (by decide +kernel) (by kernel_rfl) (by kernel_rfl) h
theorem W17_hb:a_p Tryz.prog 17:=⟨_,bO_ Tryz.f17,Tryz.func17,by kernel_rfl,rfl⟩
theorem L17_1_rule {K:k_} {N1:k_} {v1 v2 v4 v5 v6 v49 v50 v51:AV} {H:Heap} {σ:Type} (s0:σ) (f51:σ→AV) (TH:σ→Heap) (pre:σ→Prop) (μ:σ→Nat)
  (h0:pre s0∧AV.wk v51 (f51 s0)∧Heap.le (TH s0) H)
  (round:∀s,pre s→B17_1 K N1 (fun w51 H'=>∃s',pre s'∧μ s' < μ s∧AV.wk w51 (f51 s')∧Heap.le (TH s') H') v1 v2 v4 v5 v6 v49 v50 (f51 s) (TH s)) :
  L17_1 K N1 v1 v2 v4 v5 v6 v49 v50 v51 H:=by
 unfold L17_1
 exact a_c.mk s0 (fun s=>[f51 s]) TH pre μ (fun _=>rfl) (Eq.mp (by kernel_rfl) h0) (fun s hs=>Eq.mp (by kernel_rfl) (round s hs))
theorem L17_0_rule {K:k_} {v1 v2 v4 v5 v6:AV} {H:Heap} {σ:Type} (s0:σ) (f6:σ→AV) (TH:σ→Heap) (pre:σ→Prop) (μ:σ→Nat)
  (h0:pre s0∧AV.wk v6 (f6 s0)∧Heap.le (TH s0) H)
  (round:∀s,pre s→B17_0 K (fun w6 H'=>∃s',pre s'∧μ s' < μ s∧AV.wk w6 (f6 s')∧Heap.le (TH s') H') v1 v2 v4 v5 (f6 s) (TH s)) :
  L17_0 K v1 v2 v4 v5 v6 H:=by
 unfold L17_0
 exact a_c.mk s0 (fun s=>[f6 s]) TH pre μ (fun _=>rfl) (Eq.mp (by kernel_rfl) h0) (fun s hs=>Eq.mp (by kernel_rfl) (round s hs))
def D18:Info:=⟨121,fun i=>if i=4 then ([[],[],[1],[0,1,2],[],[],[5],[0,1,2,3,4,5,6],[],[],[],[0,1,2,3,4,5,6,7,9,10],[0,1,2,3,4,5,6,7,9,10,11],[0,1,2,3,4,5,6,7,8,9,10,11,12]],[(0,[]),(1,[]),(2,[]),(5,[]),(6,[]),(8,[]),(3,[4,6]),(4,[4]),(7,[]),(9,[]),(10,[]),(11,[]),(12,[]),(13,[])]) else if i=19 then ([[],[0],[],[],[3],[2,3,4],[2,3,4,5],[],[7],[],[],[10],[9,10,11],[9,10,11,12],[2,3,4,5,6,7,8,9,10,11,12,13],[2,3,4,5,6,7,8,9,10,11,12,13,14],[0,1,2,3,4,5,6,7,8,9,10,11,12,13,14,15],[0,1,2,3,4,5,6,7,8,9,10,11,12,13,14,15,16],[0,1,2,3,4,5,6,7,8,9,10,11,12,13,14,15,16,17]],[(0,[]),(1,[]),(2,[]),(3,[]),(4,[]),(5,[]),(6,[]),(7,[]),(8,[]),(9,[]),(10,[]),(11,[]),(12,[]),(13,[]),(14,[]),(15,[1]),(16,[]),(17,[]),(18,[])]) else if i=24 then ([[],[0],[],[],[2,3],[2,3,4],[0,1,2,3,4,5],[0,1,2,3,4,5,6],[0,1,2,3,4,5,6,7]],[(0,[]),(1,[]),(2,[]),(3,[]),(4,[1]),(5,[1]),(6,[]),(7,[]),(8,[])]) else ([],[]),fun i=>if i=6 then ([1,2,5,6,7,33,34],[35]) else if i=16 then ([1,2,6,7,10,65,66],[67]) else if i=22 then ([2,7,10,105,106],[107]) else ([],[])⟩
def L18_0 (K:k_) (v1 v2:AV) (v5 v6:AV) (v7 v33:AV) (v34 v35:AV) (H:Heap):Prop:=a_c (wpC Tryz.prog tab D18 (cAt [1,1,1,1,0,1,0,0] (bO_ Tryz.f18))) [1,2,5,6,7,33,34] (a_b.block 0 (a_b.thenA (wpC Tryz.prog tab D18 (cAt [1,1,1,1,1] (bO_ Tryz.f18))) (retF tab [.cell 2 28,.tmp 3] K))) [35] [Q_,v1,v2,Q_,Q_,v5,v6,v7,Q_,Q_,Q_,Q_,Q_,Q_,Q_,Q_,Q_,Q_,Q_,Q_,Q_,Q_,Q_,Q_,Q_,Q_,Q_,Q_,Q_,Q_,Q_,Q_,Q_,v33,v34,v35,Q_,Q_,Q_,Q_,Q_,Q_,Q_,Q_,Q_,Q_,Q_,Q_,Q_,Q_,Q_,Q_,Q_,Q_,Q_,Q_,Q_,Q_,Q_,Q_,Q_,Q_,Q_,Q_,Q_,Q_,Q_,Q_,Q_,Q_,Q_,Q_,Q_,Q_,Q_,Q_,Q_,Q_,Q_,Q_,Q_,Q_,Q_,Q_,Q_,Q_,Q_,Q_,Q_,Q_,Q_,Q_,Q_,Q_,Q_,Q_,Q_,Q_,Q_,Q_,Q_,Q_,Q_,Q_,Q_,Q_,Q_,Q_,Q_,Q_,Q_,Q_,Q_,Q_,Q_,Q_,Q_,Q_,Q_,Q_,Q_] H
def L18_1 (K:k_) (v1 v2:AV) (v6 v7:AV) (v10 v65:AV) (v66 v67:AV) (H:Heap):Prop:=a_c (wpC Tryz.prog tab D18 (cAt [1,1,1,1,1,1,1,1,0,1,0,0] (bO_ Tryz.f18))) [1,2,6,7,10,65,66] (a_b.block 2 (a_b.thenA (wpC Tryz.prog tab D18 (cAt [1,1,1,1,1,1,1,1,1] (bO_ Tryz.f18))) (retF tab [.cell 2 28,.tmp 3] K))) [67] [Q_,v1,v2,Q_,Q_,Q_,v6,v7,Q_,Q_,v10,Q_,Q_,Q_,Q_,Q_,Q_,Q_,Q_,Q_,Q_,Q_,Q_,Q_,Q_,Q_,Q_,Q_,Q_,Q_,Q_,Q_,Q_,Q_,Q_,Q_,Q_,Q_,Q_,Q_,Q_,Q_,Q_,Q_,Q_,Q_,Q_,Q_,Q_,Q_,Q_,Q_,Q_,Q_,Q_,Q_,Q_,Q_,Q_,Q_,Q_,Q_,Q_,Q_,Q_,v65,v66,v67,Q_,Q_,Q_,Q_,Q_,Q_,Q_,Q_,Q_,Q_,Q_,Q_,Q_,Q_,Q_,Q_,Q_,Q_,Q_,Q_,Q_,Q_,Q_,Q_,Q_,Q_,Q_,Q_,Q_,Q_,Q_,Q_,Q_,Q_,Q_,Q_,Q_,Q_,Q_,Q_,Q_,Q_,Q_,Q_,Q_,Q_,Q_,Q_,Q_,Q_,Q_,Q_,Q_] H
def L18_2 (K:k_) (v2 v7:AV) (v10 v105:AV) (v106 v107:AV) (H:Heap):Prop:=a_c (wpC Tryz.prog tab D18 (cAt [1,1,1,1,1,1,1,1,1,0,1,0,0] (bO_ Tryz.f18))) [2,7,10,105,106] (a_b.block 4 (a_b.thenA (wpC Tryz.prog tab D18 (cAt [1,1,1,1,1,1,1,1,1,1] (bO_ Tryz.f18))) (retF tab [.cell 2 28,.tmp 3] K))) [107] [Q_,Q_,v2,Q_,Q_,Q_,Q_,v7,Q_,Q_,v10,Q_,Q_,Q_,Q_,Q_,Q_,Q_,Q_,Q_,Q_,Q_,Q_,Q_,Q_,Q_,Q_,Q_,Q_,Q_,Q_,Q_,Q_,Q_,Q_,Q_,Q_,Q_,Q_,Q_,Q_,Q_,Q_,Q_,Q_,Q_,Q_,Q_,Q_,Q_,Q_,Q_,Q_,Q_,Q_,Q_,Q_,Q_,Q_,Q_,Q_,Q_,Q_,Q_,Q_,Q_,Q_,Q_,Q_,Q_,Q_,Q_,Q_,Q_,Q_,Q_,Q_,Q_,Q_,Q_,Q_,Q_,Q_,Q_,Q_,Q_,Q_,Q_,Q_,Q_,Q_,Q_,Q_,Q_,Q_,Q_,Q_,Q_,Q_,Q_,Q_,Q_,Q_,Q_,Q_,v105,v106,v107,Q_,Q_,Q_,Q_,Q_,Q_,Q_,Q_,Q_,Q_,Q_,Q_,Q_] H
def B18_2 (K:k_) (N1:k_) (v2 v7:AV) (v10 v105:AV) (v106 v107:AV) (H:Heap):Prop:=
 binV tab .lss 3 v107 v106 fun v108=>
 cV_ v108 (iA_ tab 26 v105 v107 fun v109=>
 lV_ tab 24 v109 H fun v110=>
 fA_ tab 28 v7 3 fun v111=>
 lV_ tab 26 v111 H fun v112=>
 f_w Tryz.prog v10 [v110] H fun v115 H24=>
 (lV_ tab 26 v111 H24 fun v9112=>
 v112=v9112)∧
 bS_ tab 26 1 [(0,v115)] H24 (wkK fun v116 H25=>
 (lV_ tab 26 v111 H25 fun v9112=>
 v112=v9112)∧
 aP_ tab 26 26 v112 v116 H25 (wkK fun v117 H26=>
 fA_ tab 28 v7 3 fun v118=>
 sV_ tab 26 v118 v117 H26 fun H27=>
 binV tab .add 3 v107 (AV.p (.int .i64 1)) fun v119=>
 N1 v119 H27)))
 (lV_ tab 28 v7 H fun v120=>
 sV_ tab 28 v2 v120 H fun H28=>
 lV_ tab 28 v2 H28 fun r0=>
 K (.tup [r0,(AV.p (.bool true))]) H28)
def B18_1 (K:k_) (N1:k_) (v1 v2:AV) (v6 v7:AV) (v10 v65:AV) (v66 v67:AV) (H:Heap):Prop:=
 binV tab .lss 3 v67 v66 fun v68=>
 cV_ v68 (iA_ tab 25 v65 v67 fun v69=>
 lV_ tab 66 v69 H fun v70=>
 a_d tab 66 H fun v12 H19=>
 sV_ tab 66 v12 v70 H19 fun H20=>
 lV_ tab 24 v6 H20 fun v71=>
 fA_ tab 66 v12 0 fun v72=>
 lV_ tab 3 v72 H20 fun v73=>
 iA_ tab 24 v71 v73 fun v74=>
 lV_ tab 3 v74 H20 fun v75=>
 binV tab .geq 3 v75 (AV.p (.int .i64 0)) fun v76=>
 grdV v76 true (lV_ tab 24 v6 H20 fun v78=>
 fA_ tab 66 v12 2 fun v79=>
 lV_ tab 3 v79 H20 fun v80=>
 iA_ tab 24 v78 v80 fun v81=>
 lV_ tab 3 v81 H20 fun v82=>
 binV tab .geq 3 v82 (AV.p (.int .i64 0)) fun v83=>
 cV_ v83 (fA_ tab 28 v7 2 fun v85=>
 lV_ tab 25 v85 H20 fun v86=>
 lV_ tab 24 v6 H20 fun v87=>
 fA_ tab 66 v12 0 fun v88=>
 lV_ tab 3 v88 H20 fun v89=>
 iA_ tab 24 v87 v89 fun v90=>
 lV_ tab 3 v90 H20 fun v91=>
 fA_ tab 66 v12 1 fun v92=>
 lV_ tab 3 v92 H20 fun v93=>
 lV_ tab 24 v6 H20 fun v94=>
 fA_ tab 66 v12 2 fun v95=>
 lV_ tab 3 v95 H20 fun v96=>
 iA_ tab 24 v94 v96 fun v97=>
 lV_ tab 3 v97 H20 fun v98=>
 a_i tab 66 [(0,v91),(1,v93),(2,v98)] fun v99=>
 bS_ tab 25 1 [(0,v99)] H20 (wkK fun v100 H21=>
 (lV_ tab 25 v85 H21 fun v9086=>
 v86=v9086)∧
 aP_ tab 25 25 v86 v100 H21 (wkK fun v101 H22=>
 fA_ tab 28 v7 2 fun v102=>
 sV_ tab 25 v102 v101 H22 fun H23=>
 binV tab .add 3 v67 (AV.p (.int .i64 1)) fun v103=>
 N1 v103 H23)))
 (binV tab .add 3 v67 (AV.p (.int .i64 1)) fun v103=>
 N1 v103 H20))
 (binV tab .add 3 v67 (AV.p (.int .i64 1)) fun v103=>
 N1 v103 H20))
 (fA_ tab 28 v1 3 fun v104=>
 lV_ tab 26 v104 H fun v105=>
 lenV tab 26 v105 fun v106=>
 L18_2 K v2 v7 v10 v105 v106 (AV.p (.int .i64 0)) H)
def B18_0 (K:k_) (N1:k_) (v1 v2:AV) (v5 v6:AV) (v7 v33:AV) (v34 v35:AV) (H:Heap):Prop:=
 binV tab .lss 3 v35 v34 fun v36=>
 cV_ v36 (iA_ tab 24 v33 v35 fun v37=>
 lV_ tab 3 v37 H fun v38=>
 iA_ tab 24 v5 v38 fun v41=>
 lV_ tab 3 v41 H fun v42=>
 binV tab .geq 3 v42 (AV.p (.int .i64 0)) fun v43=>
 cV_ v43 (lV_ tab 24 v6 H fun v44=>
 fA_ tab 28 v7 0 fun v46=>
 lV_ tab 3 v46 H fun v47=>
 iA_ tab 24 v44 v38 fun v48=>
 sV_ tab 3 v48 v47 H fun H14=>
 fA_ tab 28 v7 0 fun v49=>
 lV_ tab 3 v49 H14 fun v50=>
 binV tab .add 3 v50 (AV.p (.int .i64 1)) fun v51=>
 fA_ tab 28 v7 0 fun v52=>
 sV_ tab 3 v52 v51 H14 fun H15=>
 binV tab .add 3 v35 (AV.p (.int .i64 1)) fun v53=>
 N1 v53 H15)
 (binV tab .add 3 v35 (AV.p (.int .i64 1)) fun v53=>
 N1 v53 H))
 (fA_ tab 28 v7 0 fun v55=>
 lV_ tab 3 v55 H fun v56=>
 mmV .max (AV.p (.int .i64 1)) v56 fun v57=>
 fA_ tab 28 v7 0 fun v58=>
 sV_ tab 3 v58 v57 H fun H16=>
 fA_ tab 28 v1 1 fun v60=>
 lV_ tab 24 v60 H16 fun v61=>
 f_w Tryz.prog (.fn 63 [v6]) [v61] H16 fun v62 H17=>
 fA_ tab 28 v7 1 fun v63=>
 sV_ tab 24 v63 v62 H17 fun H18=>
 fA_ tab 28 v1 2 fun v64=>
 lV_ tab 25 v64 H18 fun v65=>
 lenV tab 25 v65 fun v66=>
 L18_1 K v1 v2 v6 v7 (.fn 63 [v6]) v65 v66 (AV.p (.int .i64 0)) H18)
def W18 (v0:AV) (H:Heap) (K:k_):Prop:=
 boxV v0 H fun v1 H1=>
 a_d tab 28 H1 fun v2 H2=>
 lV_ tab 28 v1 H2 fun v15=>
 a_a Tryz.prog 29 [v15] H2 fun v16 H3=>
 unV .not v16 fun v17=>
 cV_ v17 (a_i tab 28 [] fun v18=>
 sV_ tab 28 v2 v18 H3 fun H4=>
 lV_ tab 28 v2 H4 fun r0=>
 K (.tup [r0,(AV.p (.bool false))]) H4)
 (lV_ tab 28 v1 H3 fun v19=>
 a_a Tryz.prog 31 [v19] H3 fun v20 H5=>
 fA_ tab 28 v1 1 fun v22=>
 lV_ tab 24 v22 H5 fun v23=>
 fA_ tab 28 v1 0 fun v26=>
 lV_ tab 3 v26 H5 fun v27=>
 a_i tab 28 [] fun v29=>
 b_g (b_f tab 24 1 [(0,(AV.p (.int .i64 (-1))))])∧
 a_a Tryz.prog 60 [v20,v23] H5 fun v24 H6=>
 (lV_ tab 3 v26 H6 fun v9027=>
 v27=v9027)∧
 newV (b_f tab 24 1 [(0,(AV.p (.int .i64 (-1))))]) H6 fun v25 H7=>
 a_a Tryz.prog 61 [v25,v27] H7 fun v28 H8=>
 a_d tab 24 H8 fun v6 H9=>
 a_d tab 28 H9 fun v7 H10=>
 sV_ tab 24 v6 v28 H10 fun H11=>
 sV_ tab 28 v7 v29 H11 fun H12=>
 fA_ tab 28 v1 3 fun v31=>
 lV_ tab 26 v31 H12 fun v32=>
 a_a Tryz.prog 62 [v20,v32] H12 fun v33 H13=>
 lenV tab 24 v33 fun v34=>
 L18_0 K v1 v2 v24 v6 v7 v33 v34 (AV.p (.int .i64 0)) H13)
theorem W18_ok {v0:AV} {H:Heap} {K:k_} (h:W18 v0 H K):a_a Tryz.prog 18 [v0] H K:=
 a_a.of_wp (D:=D18) tO_ mixed Tryz.func18 (c:=bO_ Tryz.f18) (by kernel_rfl) rfl (by kernel_rfl) (rs:=#[.cell 2 28,.tmp 3]) rfl (by decide +kernel) (by kernel_rfl) (by kernel_rfl) h
theorem W18_hb:a_p Tryz.prog 18:=⟨_,bO_ Tryz.f18,Tryz.func18,by kernel_rfl,rfl⟩
theorem L18_2_rule {K:k_} {v2 v7 v10 v105 v106 v107:AV} {H:Heap} {σ:Type} (s0:σ) (f107:σ→AV) (TH:σ→Heap) (pre:σ→Prop) (μ:σ→Nat)
  (h0:pre s0∧AV.wk v107 (f107 s0)∧Heap.le (TH s0) H)
  (round:∀s,pre s→B18_2 K (fun w107 H'=>∃s',pre s'∧μ s' < μ s∧AV.wk w107 (f107 s')∧Heap.le (TH s') H') v2 v7 v10 v105 v106 (f107 s) (TH s)) :
  L18_2 K v2 v7 v10 v105 v106 v107 H:=by
 unfold L18_2
 exact a_c.mk s0 (fun s=>[f107 s]) TH pre μ (fun _=>rfl) (Eq.mp (by kernel_rfl) h0) (fun s hs=>Eq.mp (by kernel_rfl) (round s hs))
theorem L18_1_rule {K:k_} {v1 v2 v6 v7 v10 v65 v66 v67:AV} {H:Heap} {σ:Type} (s0:σ) (f67:σ→AV) (TH:σ→Heap) (pre:σ→Prop) (μ:σ→Nat)
  (h0:pre s0∧AV.wk v67 (f67 s0)∧Heap.le (TH s0) H)
  (round:∀s,pre s→B18_1 K (fun w67 H'=>∃s',pre s'∧μ s' < μ s∧AV.wk w67 (f67 s')∧Heap.le (TH s') H') v1 v2 v6 v7 v10 v65 v66 (f67 s) (TH s)) :
  L18_1 K v1 v2 v6 v7 v10 v65 v66 v67 H:=by
 unfold L18_1
 exact a_c.mk s0 (fun s=>[f67 s]) TH pre μ (fun _=>rfl) (Eq.mp (by kernel_rfl) h0) (fun s hs=>Eq.mp (by kernel_rfl) (round s hs))
theorem L18_0_rule {K:k_} {v1 v2 v5 v6 v7 v33 v34 v35:AV} {H:Heap} {σ:Type} (s0:σ) (f35:σ→AV) (TH:σ→Heap) (pre:σ→Prop) (μ:σ→Nat)
  (h0:pre s0∧AV.wk v35 (f35 s0)∧Heap.le (TH s0) H)
  (round:∀s,pre s→B18_0 K (fun w35 H'=>∃s',pre s'∧μ s' < μ s∧AV.wk w35 (f35 s')∧Heap.le (TH s') H') v1 v2 v5 v6 v7 v33 v34 (f35 s) (TH s)) :
  L18_0 K v1 v2 v5 v6 v7 v33 v34 v35 H:=by
 unfold L18_0
 exact a_c.mk s0 (fun s=>[f35 s]) TH pre μ (fun _=>rfl) (Eq.mp (by kernel_rfl) h0) (fun s hs=>Eq.mp (by kernel_rfl) (round s hs))
def D19:Info:=⟨126,fun i=>if i=4 then ([[],[0],[],[],[3],[0,1,2,3,4],[0,1,2,3,4,5],[0,1,2,3,4,5,6]],[(0,[]),(2,[]),(3,[]),(4,[]),(1,[4]),(5,[]),(6,[]),(7,[])]) else if i=21 then ([[],[0],[],[],[3],[2,3,4],[2,3,4,5],[],[7],[],[],[10],[9,10,11],[9,10,11,12],[2,3,4,5,6,7,8,9,10,11,12,13],[2,3,4,5,6,7,8,9,10,11,12,13,14],[0,1,2,3,4,5,6,7,8,9,10,11,12,13,14,15],[0,1,2,3,4,5,6,7,8,9,10,11,12,13,14,15,16],[0,1,2,3,4,5,6,7,8,9,10,11,12,13,14,15,16,17]],[(0,[]),(1,[]),(2,[]),(3,[]),(4,[]),(5,[]),(6,[]),(7,[]),(8,[]),(9,[]),(10,[]),(11,[]),(12,[]),(13,[]),(14,[]),(15,[1]),(16,[]),(17,[]),(18,[])]) else if i=26 then ([[],[0],[],[],[2,3],[2,3,4],[0,1,2,3,4,5],[0,1,2,3,4,5,6],[0,1,2,3,4,5,6,7]],[(0,[]),(1,[]),(2,[]),(3,[]),(4,[1]),(5,[1]),(6,[]),(7,[]),(8,[])]) else ([],[]),fun i=>if i=9 then ([1,2,5,6,7,8,35],[36]) else if i=18 then ([1,2,6,7,66,67],[68]) else if i=24 then ([2,6,7,106,107],[108]) else ([],[])⟩
def L19_0 (K:k_) (v1 v2:AV) (v5 v6:AV) (v7 v8:AV) (v35 v36:AV) (H:Heap):Prop:=a_c (wpC Tryz.prog tab D19 (cAt [1,1,1,1,1,1,1,0,1,0,0] (bO_ Tryz.f19))) [1,2,5,6,7,8,35] (a_b.block 0 (a_b.thenA (wpC Tryz.prog tab D19 (cAt [1,1,1,1,1,1,1,1] (bO_ Tryz.f19))) (retF tab [.cell 2 28,.tmp 3] K))) [36] [Q_,v1,v2,Q_,Q_,v5,v6,v7,v8,Q_,Q_,Q_,Q_,Q_,Q_,Q_,Q_,Q_,Q_,Q_,Q_,Q_,Q_,Q_,Q_,Q_,Q_,Q_,Q_,Q_,Q_,Q_,Q_,Q_,Q_,v35,v36,Q_,Q_,Q_,Q_,Q_,Q_,Q_,Q_,Q_,Q_,Q_,Q_,Q_,Q_,Q_,Q_,Q_,Q_,Q_,Q_,Q_,Q_,Q_,Q_,Q_,Q_,Q_,Q_,Q_,Q_,Q_,Q_,Q_,Q_,Q_,Q_,Q_,Q_,Q_,Q_,Q_,Q_,Q_,Q_,Q_,Q_,Q_,Q_,Q_,Q_,Q_,Q_,Q_,Q_,Q_,Q_,Q_,Q_,Q_,Q_,Q_,Q_,Q_,Q_,Q_,Q_,Q_,Q_,Q_,Q_,Q_,Q_,Q_,Q_,Q_,Q_,Q_,Q_,Q_,Q_,Q_,Q_,Q_,Q_,Q_,Q_,Q_,Q_,Q_] H
def L19_1 (K:k_) (v1 v2:AV) (v6 v7:AV) (v66 v67 v68:AV) (H:Heap):Prop:=a_c (wpC Tryz.prog tab D19 (cAt [1,1,1,1,1,1,1,1,1,0,1,0,0] (bO_ Tryz.f19))) [1,2,6,7,66,67] (a_b.block 2 (a_b.thenA (wpC Tryz.prog tab D19 (cAt [1,1,1,1,1,1,1,1,1,1] (bO_ Tryz.f19))) (retF tab [.cell 2 28,.tmp 3] K))) [68] [Q_,v1,v2,Q_,Q_,Q_,v6,v7,Q_,Q_,Q_,Q_,Q_,Q_,Q_,Q_,Q_,Q_,Q_,Q_,Q_,Q_,Q_,Q_,Q_,Q_,Q_,Q_,Q_,Q_,Q_,Q_,Q_,Q_,Q_,Q_,Q_,Q_,Q_,Q_,Q_,Q_,Q_,Q_,Q_,Q_,Q_,Q_,Q_,Q_,Q_,Q_,Q_,Q_,Q_,Q_,Q_,Q_,Q_,Q_,Q_,Q_,Q_,Q_,Q_,Q_,v66,v67,v68,Q_,Q_,Q_,Q_,Q_,Q_,Q_,Q_,Q_,Q_,Q_,Q_,Q_,Q_,Q_,Q_,Q_,Q_,Q_,Q_,Q_,Q_,Q_,Q_,Q_,Q_,Q_,Q_,Q_,Q_,Q_,Q_,Q_,Q_,Q_,Q_,Q_,Q_,Q_,Q_,Q_,Q_,Q_,Q_,Q_,Q_,Q_,Q_,Q_,Q_,Q_,Q_,Q_,Q_,Q_,Q_,Q_] H
def L19_2 (K:k_) (v2 v6:AV) (v7 v106:AV) (v107 v108:AV) (H:Heap):Prop:=a_c (wpC Tryz.prog tab D19 (cAt [1,1,1,1,1,1,1,1,1,1,0,1,0,0] (bO_ Tryz.f19))) [2,6,7,106,107] (a_b.block 4 (a_b.thenA (wpC Tryz.prog tab D19 (cAt [1,1,1,1,1,1,1,1,1,1,1] (bO_ Tryz.f19))) (retF tab [.cell 2 28,.tmp 3] K))) [108] [Q_,Q_,v2,Q_,Q_,Q_,v6,v7,Q_,Q_,Q_,Q_,Q_,Q_,Q_,Q_,Q_,Q_,Q_,Q_,Q_,Q_,Q_,Q_,Q_,Q_,Q_,Q_,Q_,Q_,Q_,Q_,Q_,Q_,Q_,Q_,Q_,Q_,Q_,Q_,Q_,Q_,Q_,Q_,Q_,Q_,Q_,Q_,Q_,Q_,Q_,Q_,Q_,Q_,Q_,Q_,Q_,Q_,Q_,Q_,Q_,Q_,Q_,Q_,Q_,Q_,Q_,Q_,Q_,Q_,Q_,Q_,Q_,Q_,Q_,Q_,Q_,Q_,Q_,Q_,Q_,Q_,Q_,Q_,Q_,Q_,Q_,Q_,Q_,Q_,Q_,Q_,Q_,Q_,Q_,Q_,Q_,Q_,Q_,Q_,Q_,Q_,Q_,Q_,Q_,Q_,v106,v107,v108,Q_,Q_,Q_,Q_,Q_,Q_,Q_,Q_,Q_,Q_,Q_,Q_,Q_,Q_,Q_,Q_,Q_] H
def B19_2 (K:k_) (N1:k_) (v2 v6:AV) (v7 v106:AV) (v107 v108:AV) (H:Heap):Prop:=
 binV tab .lss 3 v108 v107 fun v109=>
 cV_ v109 (iA_ tab 26 v106 v108 fun v110=>
 lV_ tab 24 v110 H fun v111=>
 fA_ tab 28 v7 3 fun v112=>
 lV_ tab 26 v112 H fun v113=>
 a_a Tryz.prog 67 [v111,v6] H fun v116 H24=>
 (lV_ tab 26 v112 H24 fun v9113=>
 v113=v9113)∧
 bS_ tab 26 1 [(0,v116)] H24 (wkK fun v117 H25=>
 (lV_ tab 26 v112 H25 fun v9113=>
 v113=v9113)∧
 aP_ tab 26 26 v113 v117 H25 (wkK fun v118 H26=>
 fA_ tab 28 v7 3 fun v119=>
 sV_ tab 26 v119 v118 H26 fun H27=>
 binV tab .add 3 v108 (AV.p (.int .i64 1)) fun v120=>
 N1 v120 H27)))
 (fA_ tab 28 v7 0 fun v121=>
 lV_ tab 3 v121 H fun v122=>
 binV tab .eql 3 v122 (AV.p (.int .i64 0)) fun v123=>
 cV_ v123 (fA_ tab 28 v7 0 fun v124=>
 sV_ tab 3 v124 (AV.p (.int .i64 1)) H fun H28=>
 lV_ tab 28 v7 H28 fun v125=>
 sV_ tab 28 v2 v125 H28 fun H30=>
 lV_ tab 28 v2 H30 fun r0=>
 K (.tup [r0,(AV.p (.bool true))]) H30)
 (lV_ tab 28 v7 H fun v125=>
 sV_ tab 28 v2 v125 H fun H31=>
 lV_ tab 28 v2 H31 fun r0=>
 K (.tup [r0,(AV.p (.bool true))]) H31))
def B19_1 (K:k_) (N1:k_) (v1 v2:AV) (v6 v7:AV) (v66 v67 v68:AV) (H:Heap):Prop:=
 binV tab .lss 3 v68 v67 fun v69=>
 cV_ v69 (iA_ tab 25 v66 v68 fun v70=>
 lV_ tab 66 v70 H fun v71=>
 a_d tab 66 H fun v11 H19=>
 sV_ tab 66 v11 v71 H19 fun H20=>
 fA_ tab 66 v11 0 fun v73=>
 lV_ tab 3 v73 H20 fun v74=>
 iA_ tab 24 v6 v74 fun v75=>
 lV_ tab 3 v75 H20 fun v76=>
 binV tab .geq 3 v76 (AV.p (.int .i64 0)) fun v77=>
 grdV v77 true (fA_ tab 66 v11 2 fun v80=>
 lV_ tab 3 v80 H20 fun v81=>
 iA_ tab 24 v6 v81 fun v82=>
 lV_ tab 3 v82 H20 fun v83=>
 binV tab .geq 3 v83 (AV.p (.int .i64 0)) fun v84=>
 cV_ v84 (fA_ tab 28 v7 2 fun v86=>
 lV_ tab 25 v86 H20 fun v87=>
 fA_ tab 66 v11 0 fun v89=>
 lV_ tab 3 v89 H20 fun v90=>
 iA_ tab 24 v6 v90 fun v91=>
 lV_ tab 3 v91 H20 fun v92=>
 fA_ tab 66 v11 1 fun v93=>
 lV_ tab 3 v93 H20 fun v94=>
 fA_ tab 66 v11 2 fun v96=>
 lV_ tab 3 v96 H20 fun v97=>
 iA_ tab 24 v6 v97 fun v98=>
 lV_ tab 3 v98 H20 fun v99=>
 a_i tab 66 [(0,v92),(1,v94),(2,v99)] fun v100=>
 bS_ tab 25 1 [(0,v100)] H20 (wkK fun v101 H21=>
 (lV_ tab 25 v86 H21 fun v9087=>
 v87=v9087)∧
 aP_ tab 25 25 v87 v101 H21 (wkK fun v102 H22=>
 fA_ tab 28 v7 2 fun v103=>
 sV_ tab 25 v103 v102 H22 fun H23=>
 binV tab .add 3 v68 (AV.p (.int .i64 1)) fun v104=>
 N1 v104 H23)))
 (binV tab .add 3 v68 (AV.p (.int .i64 1)) fun v104=>
 N1 v104 H20))
 (binV tab .add 3 v68 (AV.p (.int .i64 1)) fun v104=>
 N1 v104 H20))
 (fA_ tab 28 v1 3 fun v105=>
 lV_ tab 26 v105 H fun v106=>
 lenV tab 26 v106 fun v107=>
 L19_2 K v2 v6 v7 v106 v107 (AV.p (.int .i64 0)) H)
def B19_0 (K:k_) (N1:k_) (v1 v2:AV) (v5 v6:AV) (v7 v8:AV) (v35 v36:AV) (H:Heap):Prop:=
 binV tab .lss 3 v36 v35 fun v37=>
 cV_ v37 (iA_ tab 24 v6 v36 fun v41=>
 sV_ tab 3 v41 (AV.p (.int .i64 (-1))) H fun H12=>
 a_a Tryz.prog 58 [v5,v36] H12 fun v44 H13=>
 grdV v44 true (a_a Tryz.prog 58 [v8,v36] H13 fun v48 H14=>
 cV_ v48 (fA_ tab 28 v7 0 fun v52=>
 lV_ tab 3 v52 H14 fun v53=>
 iA_ tab 24 v6 v36 fun v54=>
 sV_ tab 3 v54 v53 H14 fun H15=>
 fA_ tab 28 v7 0 fun v55=>
 lV_ tab 3 v55 H15 fun v56=>
 binV tab .add 3 v56 (AV.p (.int .i64 1)) fun v57=>
 fA_ tab 28 v7 0 fun v58=>
 sV_ tab 3 v58 v57 H15 fun H16=>
 binV tab .add 3 v36 (AV.p (.int .i64 1)) fun v59=>
 N1 v59 H16)
 (binV tab .add 3 v36 (AV.p (.int .i64 1)) fun v59=>
 N1 v59 H14))
 (binV tab .add 3 v36 (AV.p (.int .i64 1)) fun v59=>
 N1 v59 H13))
 (fA_ tab 28 v1 1 fun v60=>
 lV_ tab 24 v60 H fun v61=>
 a_a Tryz.prog 67 [v61,v6] H fun v63 H17=>
 fA_ tab 28 v7 1 fun v64=>
 sV_ tab 24 v64 v63 H17 fun H18=>
 fA_ tab 28 v1 2 fun v65=>
 lV_ tab 25 v65 H18 fun v66=>
 lenV tab 25 v66 fun v67=>
 L19_1 K v1 v2 v6 v7 v66 v67 (AV.p (.int .i64 0)) H18)
def W19 (v0:AV) (H:Heap) (K:k_):Prop:=
 boxV v0 H fun v1 H1=>
 a_d tab 28 H1 fun v2 H2=>
 lV_ tab 28 v1 H2 fun v14=>
 a_a Tryz.prog 35 [v14] H2 fun v15 H3=>
 unV .not v15 fun v16=>
 cV_ v16 (a_i tab 28 [] fun v17=>
 sV_ tab 28 v2 v17 H3 fun H4=>
 lV_ tab 28 v2 H4 fun r0=>
 K (.tup [r0,(AV.p (.bool false))]) H4)
 (lV_ tab 28 v1 H3 fun v18=>
 a_a Tryz.prog 37 [v18] H3 fun v19 H5=>
 fA_ tab 28 v1 3 fun v23=>
 lV_ tab 26 v23 H5 fun v24=>
 a_a Tryz.prog 65 [v19] H5 fun v21 H6=>
 (lV_ tab 26 v23 H6 fun v9024=>
 v24=v9024)∧
 a_a Tryz.prog 66 [v19,v24] H6 fun v25 H7=>
 a_a Tryz.prog 64 [v21,v25] H7 fun v26 H8=>
 fA_ tab 28 v1 0 fun v27=>
 lV_ tab 3 v27 H8 fun v28=>
 mS_ tab 24 v28 v28 H8 fun v29 H9=>
 a_d tab 28 H9 fun v7 H10=>
 fA_ tab 28 v1 1 fun v31=>
 lV_ tab 24 v31 H10 fun v32=>
 a_a Tryz.prog 64 [v19,v32] H10 fun v33 H11=>
 lenV tab 24 v29 fun v35=>
 L19_0 K v1 v2 v26 v29 v7 v33 v35 (AV.p (.int .i64 0)) H11)
theorem W19_ok {v0:AV} {H:Heap} {K:k_} (h:W19 v0 H K):a_a Tryz.prog 19 [v0] H K:=
 a_a.of_wp (D:=D19) tO_ mixed Tryz.func19 (c:=bO_ Tryz.f19) (by kernel_rfl) rfl (by kernel_rfl) (rs:=#[.cell 2 28,.tmp 3]) rfl (by decide +kernel) (by kernel_rfl) (by kernel_rfl) h
theorem W19_hb:a_p Tryz.prog 19:=⟨_,bO_ Tryz.f19,Tryz.func19,by kernel_rfl,rfl⟩
theorem L19_2_rule {K:k_} {v2 v6 v7 v106 v107 v108:AV} {H:Heap} {σ:Type} (s0:σ) (f108:σ→AV) (TH:σ→Heap) (pre:σ→Prop) (μ:σ→Nat)
  (h0:pre s0∧AV.wk v108 (f108 s0)∧Heap.le (TH s0) H)
  (round:∀s,pre s→B19_2 K (fun w108 H'=>∃s',pre s'∧μ s' < μ s∧AV.wk w108 (f108 s')∧Heap.le (TH s') H') v2 v6 v7 v106 v107 (f108 s) (TH s)) :
  L19_2 K v2 v6 v7 v106 v107 v108 H:=by
 unfold L19_2
 exact a_c.mk s0 (fun s=>[f108 s]) TH pre μ (fun _=>rfl) (Eq.mp (by kernel_rfl) h0) (fun s hs=>Eq.mp (by kernel_rfl) (round s hs))
theorem L19_1_rule {K:k_} {v1 v2 v6 v7 v66 v67 v68:AV} {H:Heap} {σ:Type} (s0:σ) (f68:σ→AV) (TH:σ→Heap) (pre:σ→Prop) (μ:σ→Nat)
  (h0:pre s0∧AV.wk v68 (f68 s0)∧Heap.le (TH s0) H)
  (round:∀s,pre s→B19_1 K (fun w68 H'=>∃s',pre s'∧μ s' < μ s∧AV.wk w68 (f68 s')∧Heap.le (TH s') H') v1 v2 v6 v7 v66 v67 (f68 s) (TH s)) :
  L19_1 K v1 v2 v6 v7 v66 v67 v68 H:=by
 unfold L19_1
 exact a_c.mk s0 (fun s=>[f68 s]) TH pre μ (fun _=>rfl) (Eq.mp (by kernel_rfl) h0) (fun s hs=>Eq.mp (by kernel_rfl) (round s hs))
theorem L19_0_rule {K:k_} {v1 v2 v5 v6 v7 v8 v35 v36:AV} {H:Heap} {σ:Type} (s0:σ) (f36:σ→AV) (TH:σ→Heap) (pre:σ→Prop) (μ:σ→Nat)
  (h0:pre s0∧AV.wk v36 (f36 s0)∧Heap.le (TH s0) H)
  (round:∀s,pre s→B19_0 K (fun w36 H'=>∃s',pre s'∧μ s' < μ s∧AV.wk w36 (f36 s')∧Heap.le (TH s') H') v1 v2 v5 v6 v7 v8 v35 (f36 s) (TH s)) :
  L19_0 K v1 v2 v5 v6 v7 v8 v35 v36 H:=by
 unfold L19_0
 exact a_c.mk s0 (fun s=>[f36 s]) TH pre μ (fun _=>rfl) (Eq.mp (by kernel_rfl) h0) (fun s hs=>Eq.mp (by kernel_rfl) (round s hs))
def D20:Info:=⟨54,fun i=>if i=6 then ([[],[0],[],[0,1,2],[0,1,2,3],[],[5],[],[5,6,7],[5,6,7,8],[0,1,2,3,4,5,6,7,8,9]],[(0,[]),(1,[]),(2,[]),(3,[]),(4,[]),(5,[]),(6,[]),(7,[]),(8,[]),(9,[]),(10,[])]) else ([],[]),fun i=>if i=4 then ([2,3,38],[39]) else ([],[])⟩
def L20_0 (K:k_) (v2 v3:AV) (v38 v39:AV) (H:Heap):Prop:=a_c (wpC Tryz.prog tab D20 (cAt [1,1,0,1,0,0] (bO_ Tryz.f20))) [2,3,38] (a_b.block 0 (a_b.thenA (wpC Tryz.prog tab D20 (cAt [1,1,1] (bO_ Tryz.f20))) (retF tab [.tmp 4] K))) [39] [Q_,Q_,v2,v3,Q_,Q_,Q_,Q_,Q_,Q_,Q_,Q_,Q_,Q_,Q_,Q_,Q_,Q_,Q_,Q_,Q_,Q_,Q_,Q_,Q_,Q_,Q_,Q_,Q_,Q_,Q_,Q_,Q_,Q_,Q_,Q_,Q_,Q_,v38,v39,Q_,Q_,Q_,Q_,Q_,Q_,Q_,Q_,Q_,Q_,Q_,Q_,Q_,Q_] H
def B20_0 (K:k_) (N1:k_) (v2 v3:AV) (v38 v39:AV) (H:Heap):Prop:=
 binV tab .lss 3 v39 v38 fun v40=>
 cV_ v40 (fA_ tab 28 v2 2 fun v42=>
 lV_ tab 25 v42 H fun v43=>
 iA_ tab 25 v43 v39 fun v45=>
 lV_ tab 66 v45 H fun v46=>
 fA_ tab 28 v3 2 fun v47=>
 lV_ tab 25 v47 H fun v48=>
 iA_ tab 25 v48 v39 fun v50=>
 lV_ tab 66 v50 H fun v51=>
 binV tab .neq 66 v46 v51 fun v52=>
 cV_ v52 (K (AV.p (.bool false)) H)
 (binV tab .add 3 v39 (AV.p (.int .i64 1)) fun v53=>
 N1 v53 H))
 (K (AV.p (.bool true)) H)
def W20 (v0 v1:AV) (H:Heap) (K:k_):Prop:=
 boxV v0 H fun v2 H1=>
 boxV v1 H1 fun v3 H2=>
 fA_ tab 28 v2 0 fun v6=>
 lV_ tab 3 v6 H2 fun v7=>
 fA_ tab 28 v3 0 fun v8=>
 lV_ tab 3 v8 H2 fun v9=>
 binV tab .neq 3 v7 v9 fun v10=>
 grdV v10 false (fA_ tab 28 v2 1 fun v12=>
 lV_ tab 24 v12 H2 fun v13=>
 fA_ tab 28 v3 1 fun v14=>
 lV_ tab 24 v14 H2 fun v15=>
 a_a Tryz.prog 26 [v13,v15] H2 fun v16 H3=>
 unV .not v16 fun v17=>
 grdV v17 false (fA_ tab 28 v2 2 fun v20=>
 lV_ tab 25 v20 H3 fun v21=>
 lenV tab 25 v21 fun v22=>
 fA_ tab 28 v3 2 fun v23=>
 lV_ tab 25 v23 H3 fun v24=>
 lenV tab 25 v24 fun v25=>
 binV tab .neq 3 v22 v25 fun v26=>
 grdV v26 false (fA_ tab 28 v2 3 fun v29=>
 lV_ tab 26 v29 H3 fun v30=>
 fA_ tab 28 v3 3 fun v31=>
 lV_ tab 26 v31 H3 fun v32=>
 a_a Tryz.prog 27 [v30,v32] H3 fun v33 H4=>
 unV .not v33 fun v34=>
 cV_ v34 (K (AV.p (.bool false)) H4)
 (fA_ tab 28 v2 2 fun v36=>
 lV_ tab 25 v36 H4 fun v37=>
 lenV tab 25 v37 fun v38=>
 L20_0 K v2 v3 v38 (AV.p (.int .i64 0)) H4))
 (K (AV.p (.bool false)) H3))
 (K (AV.p (.bool false)) H3))
 (K (AV.p (.bool false)) H2)
theorem W20_ok {v0 v1:AV} {H:Heap} {K:k_} (h:W20 v0 v1 H K):a_a Tryz.prog 20 [v0,v1] H K:=
 a_a.of_wp (D:=D20) tO_ mixed Tryz.func20 (c:=bO_ Tryz.f20) (by kernel_rfl) rfl (by kernel_rfl) (rs:=#[.tmp 4]) rfl (by decide +kernel) (by kernel_rfl) (by kernel_rfl) h
theorem L20_0_rule {K:k_} {v2 v3 v38 v39:AV} {H:Heap} {σ:Type} (s0:σ) (f39:σ→AV) (TH:σ→Heap) (pre:σ→Prop) (μ:σ→Nat)
  (h0:pre s0∧AV.wk v39 (f39 s0)∧Heap.le (TH s0) H)
  (round:∀s,pre s→B20_0 K (fun w39 H'=>∃s',pre s'∧μ s' < μ s∧AV.wk w39 (f39 s')∧Heap.le (TH s') H') v2 v3 v38 (f39 s) (TH s)) :
  L20_0 K v2 v3 v38 v39 H:=by
 unfold L20_0
 exact a_c.mk s0 (fun s=>[f39 s]) TH pre μ (fun _=>rfl) (Eq.mp (by kernel_rfl) h0) (fun s hs=>Eq.mp (by kernel_rfl) (round s hs))
def D21:Info:=⟨23,fun i=>if i=3 then ([[],[],[],[2],[1,2,3],[],[1,2,3,4,5],[],[1,2,3,4,5,6,7],[1,2,3,4,5,6,7,8],[1,2,3,4,5,6,7,8,9],[0,1,2,3,4,5,6,7,8],[0,1,2,3,4,5,6,7,8,11],[0,1,2,3,4,5,6,7,8,9,10,11,12]],[(0,[]),(1,[]),(2,[]),(3,[]),(5,[]),(7,[]),(4,[0]),(6,[0]),(8,[0]),(9,[]),(10,[]),(11,[]),(12,[]),(13,[])]) else ([],[]),fun i=>([],[])⟩
def W21 (v0:AV) (H:Heap) (K:k_):Prop:=
 a_d tab 28 H fun v2 H1=>
 a_i tab 71 [(0,v0)] fun v8=>
 boxV v8 H1 fun v9 H2=>
 a_a Tryz.prog 45 [v9,(AV.p (.int .i64 6))] H2 fun v11 H3=>
 a_d tab 28 H3 fun v6 H4=>
 sV_ tab 28 v6 v11 H4 fun H5=>
 lV_ tab 28 v6 H5 fun v12=>
 fA_ tab 28 v6 0 fun v14=>
 lV_ tab 3 v14 H5 fun v15=>
 a_a Tryz.prog 68 [v9,v15,(AV.p (.int .i64 3))] H5 fun v16 H6=>
 (lV_ tab 28 v6 H6 fun v9012=>
 v12=v9012)∧
 a_a Tryz.prog 69 [v9,(AV.p (.int .i64 10))] H6 fun v18 H7=>
 (lV_ tab 28 v6 H7 fun v9012=>
 v12=v9012)∧
 a_a Tryz.prog 69 [v9,(AV.p (.int .i64 9))] H7 fun v20 H8=>
 (lV_ tab 28 v6 H8 fun v9012=>
 v12=v9012)∧
 binV tab .quo 3 v20 (AV.p (.int .i64 8)) fun v21=>
 binV tab .sub 3 v18 v21 fun v22=>
 sV_ tab 28 v2 v12 H8 fun H9=>
 lV_ tab 28 v2 H9 fun r0=>
 K (.tup [r0,v16,v22]) H9
theorem W21_ok {v0:AV} {H:Heap} {K:k_} (h:W21 v0 H K):a_a Tryz.prog 21 [v0] H K:=
 a_a.of_wp (D:=D21) tO_ mixed Tryz.func21 (c:=bO_ Tryz.f21) (by kernel_rfl) rfl (by kernel_rfl) (rs:=#[.cell 2 28,.tmp 3,.tmp 4]) rfl (by decide +kernel) (by kernel_rfl) (by kernel_rfl) h
end Go.Proofs.YtohkciilfkhomaaGreat
namespace Go.Proofs.YtohkciilfkhomaaGreat
open Go Go.Sep
attribute [local irreducible] wpC b_2
def D22:Info:=⟨53,fun i=>([],[]),fun i=>if i=5 then ([1,2,8,30,31],[32]) else ([],[])⟩
def L22_0 (K:k_) (v1 v2:AV) (v8 v30:AV) (v31 v32:AV) (H:Heap):Prop:=a_c (wpC Tryz.prog tab D22 (cAt [1,1,1,0,1,0,0] (bO_ Tryz.f22))) [1,2,8,30,31] (a_b.block 0 (a_b.thenA (wpC Tryz.prog tab D22 (cAt [1,1,1,1] (bO_ Tryz.f22))) (retF tab [.tmp 6,.tmp 7] K))) [32] [Q_,v1,v2,Q_,Q_,Q_,Q_,Q_,v8,Q_,Q_,Q_,Q_,Q_,Q_,Q_,Q_,Q_,Q_,Q_,Q_,Q_,Q_,Q_,Q_,Q_,Q_,Q_,Q_,Q_,v30,v31,v32,Q_,Q_,Q_,Q_,Q_,Q_,Q_,Q_,Q_,Q_,Q_,Q_,Q_,Q_,Q_,Q_,Q_,Q_,Q_,Q_] H
def B22_0 (K:k_) (N1:k_) (v1 v2:AV) (v8 v30:AV) (v31 v32:AV) (H:Heap):Prop:=
 binV tab .lss 3 v32 v31 fun v33=>
 cV_ v33 (iA_ tab 25 v30 v32 fun v34=>
 lV_ tab 66 v34 H fun v35=>
 a_d tab 66 H fun v10 H6=>
 sV_ tab 66 v10 v35 H6 fun H7=>
 fA_ tab 66 v10 1 fun v36=>
 lV_ tab 3 v36 H7 fun v37=>
 binV tab .eql 3 v37 v2 fun v39=>
 grdV v39 true (fA_ tab 66 v10 0 fun v42=>
 lV_ tab 3 v42 H7 fun v43=>
 a_a Tryz.prog 54 [v1,v43] H7 fun v44 H8=>
 cV_ v44 (fA_ tab 66 v10 2 fun v47=>
 lV_ tab 3 v47 H8 fun v48=>
 iA_ tab 87 v8 v48 fun v49=>
 sV_ tab 4 v49 (AV.p (.bool true)) H8 fun H9=>
 binV tab .add 3 v32 (AV.p (.int .i64 1)) fun v50=>
 N1 v50 H9)
 (binV tab .add 3 v32 (AV.p (.int .i64 1)) fun v50=>
 N1 v50 H8))
 (binV tab .add 3 v32 (AV.p (.int .i64 1)) fun v50=>
 N1 v50 H7))
 (a_a Tryz.prog 72 [v8] H fun v52 H10=>
 K (.tup [v52,(AV.p (.bool true))]) H10)
def W22 (v0 v1 v2:AV) (H:Heap) (K:k_):Prop:=
 boxV v0 H fun v3 H1=>
 lV_ tab 28 v3 H1 fun v11=>
 a_a Tryz.prog 29 [v11] H1 fun v12 H2=>
 unV .not v12 fun v13=>
 grdV v13 false (fA_ tab 28 v3 0 fun v16=>
 lV_ tab 3 v16 H2 fun v17=>
 a_a Tryz.prog 70 [v1,v17] H2 fun v18 H3=>
 unV .not v18 fun v19=>
 grdV v19 false (a_a Tryz.prog 71 [v2] H3 fun v23 H4=>
 unV .not v23 fun v24=>
 cV_ v24 (K (.tup [(AV.p .nil),(AV.p (.bool false))]) H4)
 (fA_ tab 28 v3 0 fun v26=>
 lV_ tab 3 v26 H4 fun v27=>
 mS_ tab 87 v27 v27 H4 fun v28 H5=>
 fA_ tab 28 v3 2 fun v29=>
 lV_ tab 25 v29 H5 fun v30=>
 lenV tab 25 v30 fun v31=>
 L22_0 K v1 v2 v28 v30 v31 (AV.p (.int .i64 0)) H5))
 (K (.tup [(AV.p .nil),(AV.p (.bool false))]) H3))
 (K (.tup [(AV.p .nil),(AV.p (.bool false))]) H2)
theorem W22_ok {v0 v1 v2:AV} {H:Heap} {K:k_} (h:W22 v0 v1 v2 H K):a_a Tryz.prog 22 [v0,v1,v2] H K:=
 a_a.of_wp (D:=D22) tO_ mixed Tryz.func22 (c:=bO_ Tryz.f22) (by kernel_rfl) rfl (by kernel_rfl) (rs:=#[.tmp 6,.tmp 7]) rfl (by decide +kernel) (by kernel_rfl) (by kernel_rfl) h
theorem L22_0_rule {K:k_} {v1 v2 v8 v30 v31 v32:AV} {H:Heap} {σ:Type} (s0:σ) (f32:σ→AV) (TH:σ→Heap) (pre:σ→Prop) (μ:σ→Nat)
  (h0:pre s0∧AV.wk v32 (f32 s0)∧Heap.le (TH s0) H)
  (round:∀s,pre s→B22_0 K (fun w32 H'=>∃s',pre s'∧μ s' < μ s∧AV.wk w32 (f32 s')∧Heap.le (TH s') H') v1 v2 v8 v30 v31 (f32 s) (TH s)) :
  L22_0 K v1 v2 v8 v30 v31 v32 H:=by
 unfold L22_0
 exact a_c.mk s0 (fun s=>[f32 s]) TH pre μ (fun _=>rfl) (Eq.mp (by kernel_rfl) h0) (fun s hs=>Eq.mp (by kernel_rfl) (round s hs))
def D23:Info:=⟨27,fun i=>([],[]),fun i=>([],[])⟩
def W23 (v0 v1 v2:AV) (H:Heap) (K:k_):Prop:=
 boxV v0 H fun v3 H1=>
 lV_ tab 28 v3 H1 fun v8=>
 a_a Tryz.prog 35 [v8] H1 fun v9 H2=>
 unV .not v9 fun v10=>
 grdV v10 false (fA_ tab 28 v3 0 fun v13=>
 lV_ tab 3 v13 H2 fun v14=>
 a_a Tryz.prog 73 [v1,v14] H2 fun v15 H3=>
 unV .not v15 fun v16=>
 grdV v16 false (a_a Tryz.prog 48 [v2,(AV.p (.int .i64 0)),(AV.p (.int .i64 7))] H3 fun v20 H4=>
 unV .not v20 fun v21=>
 cV_ v21 (K (.tup [(AV.p .nil),(AV.p (.bool false))]) H4)
 (lV_ tab 28 v3 H4 fun v23=>
 a_a Tryz.prog 74 [v23,v1,v2] H4 fun v26 H5=>
 K (.tup [v26,(AV.p (.bool true))]) H5))
 (K (.tup [(AV.p .nil),(AV.p (.bool false))]) H3))
 (K (.tup [(AV.p .nil),(AV.p (.bool false))]) H2)
theorem W23_ok {v0 v1 v2:AV} {H:Heap} {K:k_} (h:W23 v0 v1 v2 H K):a_a Tryz.prog 23 [v0,v1,v2] H K:=
 a_a.of_wp (D:=D23) tO_ mixed Tryz.func23 (c:=bO_ Tryz.f23) (by kernel_rfl) rfl (by kernel_rfl) (rs:=#[.tmp 6,.tmp 7]) rfl (by decide +kernel) (by kernel_rfl) (by kernel_rfl) h
def D24:Info:=⟨11,fun i=>([],[]),fun i=>([],[])⟩
def W24 (v0:AV) (H:Heap) (K:k_):Prop:=
 boxV v0 H fun v1 H1=>
 a_d tab 49 H1 fun v2 H2=>
 lV_ tab 28 v1 H2 fun v4=>
 a_a Tryz.prog 29 [v4] H2 fun v5 H3=>
 unV .not v5 fun v6=>
 cV_ v6 (a_i tab 49 [] fun v7=>
 sV_ tab 49 v2 v7 H3 fun H4=>
 lV_ tab 49 v2 H4 fun r0=>
 K (.tup [r0,(AV.p (.bool false))]) H4)
 (lV_ tab 28 v1 H3 fun v8=>
 a_a Tryz.prog 31 [v8] H3 fun v9 H5=>
 a_i tab 49 [(0,v9)] fun v10=>
 sV_ tab 49 v2 v10 H5 fun H6=>
 lV_ tab 49 v2 H6 fun r0=>
 K (.tup [r0,(AV.p (.bool true))]) H6)
theorem W24_ok {v0:AV} {H:Heap} {K:k_} (h:W24 v0 H K):a_a Tryz.prog 24 [v0] H K:=
 a_a.of_wp (D:=D24) tO_ mixed Tryz.func24 (c:=bO_ Tryz.f24) (by kernel_rfl) rfl (by kernel_rfl) (rs:=#[.cell 2 49,.tmp 3]) rfl (by decide +kernel) (by kernel_rfl) (by kernel_rfl) h
def D25:Info:=⟨11,fun i=>([],[]),fun i=>([],[])⟩
def W25 (v0:AV) (H:Heap) (K:k_):Prop:=
 boxV v0 H fun v1 H1=>
 a_d tab 49 H1 fun v2 H2=>
 lV_ tab 28 v1 H2 fun v4=>
 a_a Tryz.prog 35 [v4] H2 fun v5 H3=>
 unV .not v5 fun v6=>
 cV_ v6 (a_i tab 49 [] fun v7=>
 sV_ tab 49 v2 v7 H3 fun H4=>
 lV_ tab 49 v2 H4 fun r0=>
 K (.tup [r0,(AV.p (.bool false))]) H4)
 (lV_ tab 28 v1 H3 fun v8=>
 a_a Tryz.prog 37 [v8] H3 fun v9 H5=>
 a_i tab 49 [(0,v9)] fun v10=>
 sV_ tab 49 v2 v10 H5 fun H6=>
 lV_ tab 49 v2 H6 fun r0=>
 K (.tup [r0,(AV.p (.bool true))]) H6)
theorem W25_ok {v0:AV} {H:Heap} {K:k_} (h:W25 v0 H K):a_a Tryz.prog 25 [v0] H K:=
 a_a.of_wp (D:=D25) tO_ mixed Tryz.func25 (c:=bO_ Tryz.f25) (by kernel_rfl) rfl (by kernel_rfl) (rs:=#[.cell 2 49,.tmp 3]) rfl (by decide +kernel) (by kernel_rfl) (by kernel_rfl) h
def D26:Info:=⟨26,fun i=>if i=6 then ([[],[],[0,1],[0,1,2],[],[],[4,5],[4,5,6],[0,1,2,3,4,5,6,7]],[(0,[]),(1,[]),(2,[]),(3,[]),(4,[]),(5,[]),(6,[]),(7,[]),(8,[])]) else ([],[]),fun i=>if i=4 then ([0,1,12],[13]) else ([],[])⟩
def L26_0 (K:k_) (v0 v1:AV) (v12 v13:AV) (H:Heap):Prop:=a_c (wpC Tryz.prog tab D26 (cAt [1,1,0,1,0,0] (bO_ Tryz.f26))) [0,1,12] (a_b.block 0 (a_b.thenA (wpC Tryz.prog tab D26 (cAt [1,1,1] (bO_ Tryz.f26))) (retF tab [.tmp 4] K))) [13] [v0,v1,Q_,Q_,Q_,Q_,Q_,Q_,Q_,Q_,Q_,Q_,v12,v13,Q_,Q_,Q_,Q_,Q_,Q_,Q_,Q_,Q_,Q_,Q_,Q_] H
def B26_0 (K:k_) (N1:k_) (v0 v1:AV) (v12 v13:AV) (H:Heap):Prop:=
 binV tab .lss 3 v13 v12 fun v14=>
 cV_ v14 (iA_ tab 24 v0 v13 fun v18=>
 lV_ tab 3 v18 H fun v19=>
 iA_ tab 24 v1 v13 fun v22=>
 lV_ tab 3 v22 H fun v23=>
 binV tab .neq 3 v19 v23 fun v24=>
 cV_ v24 (K (AV.p (.bool false)) H)
 (binV tab .add 3 v13 (AV.p (.int .i64 1)) fun v25=>
 N1 v25 H))
 (K (AV.p (.bool true)) H)
def W26 (v0 v1:AV) (H:Heap) (K:k_):Prop:=
 lenV tab 24 v0 fun v7=>
 lenV tab 24 v1 fun v9=>
 binV tab .neq 3 v7 v9 fun v10=>
 cV_ v10 (K (AV.p (.bool false)) H)
 (lenV tab 24 v0 fun v12=>
 L26_0 K v0 v1 v12 (AV.p (.int .i64 0)) H)
theorem W26_ok {v0 v1:AV} {H:Heap} {K:k_} (h:W26 v0 v1 H K):a_a Tryz.prog 26 [v0,v1] H K:=
 a_a.of_wp (D:=D26) tO_ mixed Tryz.func26 (c:=bO_ Tryz.f26) (by kernel_rfl) rfl (by kernel_rfl) (rs:=#[.tmp 4]) rfl (by decide +kernel) (by kernel_rfl) (by kernel_rfl) h
theorem L26_0_rule {K:k_} {v0 v1 v12 v13:AV} {H:Heap} {σ:Type} (s0:σ) (f13:σ→AV) (TH:σ→Heap) (pre:σ→Prop) (μ:σ→Nat)
  (h0:pre s0∧AV.wk v13 (f13 s0)∧Heap.le (TH s0) H)
  (round:∀s,pre s→B26_0 K (fun w13 H'=>∃s',pre s'∧μ s' < μ s∧AV.wk w13 (f13 s')∧Heap.le (TH s') H') v0 v1 v12 (f13 s) (TH s)) :
  L26_0 K v0 v1 v12 v13 H:=by
 unfold L26_0
 exact a_c.mk s0 (fun s=>[f13 s]) TH pre μ (fun _=>rfl) (Eq.mp (by kernel_rfl) h0) (fun s hs=>Eq.mp (by kernel_rfl) (round s hs))
def D27:Info:=⟨27,fun i=>if i=6 then ([[],[],[0,1],[0,1,2],[],[],[4,5],[4,5,6],[0,1,2,3,4,5,6,7],[0,1,2,3,4,5,6,7,8]],[(0,[]),(1,[]),(2,[]),(3,[]),(4,[]),(5,[]),(6,[]),(7,[]),(8,[]),(9,[])]) else ([],[]),fun i=>if i=4 then ([0,1,12],[13]) else ([],[])⟩
def L27_0 (K:k_) (v0 v1:AV) (v12 v13:AV) (H:Heap):Prop:=a_c (wpC Tryz.prog tab D27 (cAt [1,1,0,1,0,0] (bO_ Tryz.f27))) [0,1,12] (a_b.block 0 (a_b.thenA (wpC Tryz.prog tab D27 (cAt [1,1,1] (bO_ Tryz.f27))) (retF tab [.tmp 4] K))) [13] [v0,v1,Q_,Q_,Q_,Q_,Q_,Q_,Q_,Q_,Q_,Q_,v12,v13,Q_,Q_,Q_,Q_,Q_,Q_,Q_,Q_,Q_,Q_,Q_,Q_,Q_] H
def B27_0 (K:k_) (N1:k_) (v0 v1:AV) (v12 v13:AV) (H:Heap):Prop:=
 binV tab .lss 3 v13 v12 fun v14=>
 cV_ v14 (iA_ tab 26 v0 v13 fun v18=>
 lV_ tab 24 v18 H fun v19=>
 iA_ tab 26 v1 v13 fun v22=>
 lV_ tab 24 v22 H fun v23=>
 a_a Tryz.prog 26 [v19,v23] H fun v24 H1=>
 unV .not v24 fun v25=>
 cV_ v25 (K (AV.p (.bool false)) H1)
 (binV tab .add 3 v13 (AV.p (.int .i64 1)) fun v26=>
 N1 v26 H1))
 (K (AV.p (.bool true)) H)
def W27 (v0 v1:AV) (H:Heap) (K:k_):Prop:=
 lenV tab 26 v0 fun v7=>
 lenV tab 26 v1 fun v9=>
 binV tab .neq 3 v7 v9 fun v10=>
 cV_ v10 (K (AV.p (.bool false)) H)
 (lenV tab 26 v0 fun v12=>
 L27_0 K v0 v1 v12 (AV.p (.int .i64 0)) H)
theorem W27_ok {v0 v1:AV} {H:Heap} {K:k_} (h:W27 v0 v1 H K):a_a Tryz.prog 27 [v0,v1] H K:=
 a_a.of_wp (D:=D27) tO_ mixed Tryz.func27 (c:=bO_ Tryz.f27) (by kernel_rfl) rfl (by kernel_rfl) (rs:=#[.tmp 4]) rfl (by decide +kernel) (by kernel_rfl) (by kernel_rfl) h
theorem L27_0_rule {K:k_} {v0 v1 v12 v13:AV} {H:Heap} {σ:Type} (s0:σ) (f13:σ→AV) (TH:σ→Heap) (pre:σ→Prop) (μ:σ→Nat)
  (h0:pre s0∧AV.wk v13 (f13 s0)∧Heap.le (TH s0) H)
  (round:∀s,pre s→B27_0 K (fun w13 H'=>∃s',pre s'∧μ s' < μ s∧AV.wk w13 (f13 s')∧Heap.le (TH s') H') v0 v1 v12 (f13 s) (TH s)) :
  L27_0 K v0 v1 v12 v13 H:=by
 unfold L27_0
 exact a_c.mk s0 (fun s=>[f13 s]) TH pre μ (fun _=>rfl) (Eq.mp (by kernel_rfl) h0) (fun s hs=>Eq.mp (by kernel_rfl) (round s hs))
def D29:Info:=⟨91,fun i=>if i=6 then ([[],[0],[0,1],[0,1,2],[0,1,2,3],[0,1,2,3,4],[0,1,2,3],[0,1,2,3,6],[0,1,2,3,4,5,6,7],[0,1,2,3,4,5,6,7,8],[0,1,2,3,4,5,6,7,8,9],[0,1,2,3,4,5,6,7,8,9,10],[0,1,2,3,4,5,6,7,8,9,10,11],[0,1,2,3,4,5,6,7,8,9,10,11,12],[0,1,2,3,4,5,6,7,8,9,10,11,12,13],[0,1,2,3,4,5,6,7,8,9,10,11,12,13,14],[0,1,2,3,4,5,6,7,8,9,10,11,12,13,14,15],[0,1,2,3,4,5,6,7,8,9,10,11,12,13,14,15,16],[0,1,2,3,4,5,6,7,8,9,10,11,12,13,14,15],[0,1,2,3,4,5,6,7,8,9,10,11,12,13,14,15,18],[0,1,2,3,4,5,6,7,8,9,10,11,12,13,14,15,16,17,18,19],[0,1,2,3,4,5,6,7,8,9,10,11,12,13,14,15,16,17,18,19,20],[0,1,2,3,4,5,6,7,8,9,10,11,12,13,14,15,16,17,18,19,20,21],[0,1,2,3,4,5,6,7,8,9,10,11,12,13,14,15,16,17,18,19,20,21,22],[0,1,2,3,4,5,6,7,8,9,10,11,12,13,14,15,16,17,18,19,20,21,22,23],[0,1,2,3,4,5,6,7,8,9,10,11,12,13,14,15,16,17,18,19,20,21,22,23,24],[0,1,2,3,4,5,6,7,8,9,10,11,12,13,14,15,16,17,18,19,20,21,22,23,24,25],[0,1,2,3,4,5,6,7,8,9,10,11,12,13,14,15,16,17,18,19,20,21,22,23,24,25,26],[0,1,2,3,4,5,6,7,8,9,10,11,12,13,14,15,16,17,18,19,20,21,22,23,24,25,26,27],[0,1,2,3,4,5,6,7,8,9,10,11,12,13,14,15,16,17,18,19,20,21,22,23,24,25,26,27,28],[0,1,2,3,4,5,6,7,8,9,10,11,12,13,14,15,16,17,18,19,20,21,22,23,24,25,26,27,28,29],[0,1,2,3,4,5,6,7,8,9,10,11,12,13,14,15,16,17,18,19,20,21,22,23,24,25,26,27,28,29,30],[0,1,2,3,4,5,6,7,8,9,10,11,12,13,14,15,16,17,18,19,20,21,22,23,24,25,26,27,28,29,30,31],[0,1,2,3,4,5,6,7,8,9,10,11,12,13,14,15,16,17,18,19,20,21,22,23,24,25,26,27,28,29,30,31,32],[0,1,2,3,4,5,6,7,8,9,10,11,12,13,14,15,16,17,18,19,20,21,22,23,24,25,26,27,28,29,30,31,32,33],[0,1,2,3,4,5,6,7,8,9,10,11,12,13,14,15,16,17,18,19,20,21,22,23,24,25,26,27,28,29,30,31,32,33,34],[0,1,2,3,4,5,6,7,8,9,10,11,12,13,14,15,16,17,18,19,20,21,22,23,24,25,26,27,28,29,30,31,32,33,34,35],[0,1,2,3,4,5,6,7,8,9,10,11,12,13,14,15,16,17,18,19,20,21,22,23,24,25,26,27,28,29,30,31,32,33,34,35,36],[0,1,2,3,4,5,6,7,8,9,10,11,12,13,14,15,16,17,18,19,20,21,22,23,24,25,26,27,28,29,30,31,32,33,34,35],[0,1,2,3,4,5,6,7,8,9,10,11,12,13,14,15,16,17,18,19,20,21,22,23,24,25,26,27,28,29,30,31,32,33,34,35,38],[0,1,2,3,4,5,6,7,8,9,10,11,12,13,14,15,16,17,18,19,20,21,22,23,24,25,26,27,28,29,30,31,32,33,34,35,36,37,38,39],[0,1,2,3,4,5,6,7,8,9,10,11,12,13,14,15,16,17,18,19,20,21,22,23,24,25,26,27,28,29,30,31,32,33,34,35,36,37,38,39,40],[0,1,2,3,4,5,6,7,8,9,10,11,12,13,14,15,16,17,18,19,20,21,22,23,24,25,26,27,28,29,30,31,32,33,34,35],[0,1,2,3,4,5,6,7,8,9,10,11,12,13,14,15,16,17,18,19,20,21,22,23,24,25,26,27,28,29,30,31,32,33,34,35,36,37,38,39,40,41,42],[0,1,2,3,4,5,6,7,8,9,10,11,12,13,14,15,16,17,18,19,20,21,22,23,24,25,26,27,28,29,30,31,32,33,34,35,36,37,38,39,40,41,42,43],[0,1,2,3,4,5,6,7,8,9,10,11,12,13,14,15,16,17,18,19,20,21,22,23,24,25,26,27,28,29,30,31,32,33,34,35,36,37,38,39,40,41,42,43,44],[0,1,2,3,4,5,6,7,8,9,10,11,12,13,14,15,16,17,18,19,20,21,22,23,24,25,26,27,28,29,30,31,32,33,34,35,36,37,38,39,40,41,42,43,44,45]],[(0,[]),(1,[]),(2,[]),(3,[]),(4,[]),(5,[]),(6,[]),(7,[]),(8,[]),(9,[]),(10,[]),(11,[]),(12,[]),(13,[]),(14,[]),(15,[]),(16,[]),(17,[]),(18,[]),(19,[]),(20,[]),(21,[]),(22,[]),(23,[]),(24,[]),(25,[]),(26,[]),(27,[]),(28,[]),(29,[]),(30,[]),(31,[]),(32,[]),(33,[]),(34,[]),(35,[]),(36,[]),(37,[]),(38,[]),(39,[]),(40,[]),(41,[]),(42,[]),(43,[]),(44,[]),(45,[]),(46,[])]) else ([],[]),fun i=>if i=4 then ([1,36,37],[38]) else ([],[])⟩
def L29_0 (K:k_) (v1 v36:AV) (v37 v38:AV) (H:Heap):Prop:=a_c (wpC Tryz.prog tab D29 (cAt [1,1,0,1,0,0] (bO_ Tryz.f29))) [1,36,37] (a_b.block 0 (a_b.thenA (wpC Tryz.prog tab D29 (cAt [1,1,1] (bO_ Tryz.f29))) (retF tab [.tmp 2] K))) [38] [Q_,v1,Q_,Q_,Q_,Q_,Q_,Q_,Q_,Q_,Q_,Q_,Q_,Q_,Q_,Q_,Q_,Q_,Q_,Q_,Q_,Q_,Q_,Q_,Q_,Q_,Q_,Q_,Q_,Q_,Q_,Q_,Q_,Q_,Q_,Q_,v36,v37,v38,Q_,Q_,Q_,Q_,Q_,Q_,Q_,Q_,Q_,Q_,Q_,Q_,Q_,Q_,Q_,Q_,Q_,Q_,Q_,Q_,Q_,Q_,Q_,Q_,Q_,Q_,Q_,Q_,Q_,Q_,Q_,Q_,Q_,Q_,Q_,Q_,Q_,Q_,Q_,Q_,Q_,Q_,Q_,Q_,Q_,Q_,Q_,Q_,Q_,Q_,Q_,Q_] H
def B29_0 (K:k_) (N1:k_) (v1 v36:AV) (v37 v38:AV) (H:Heap):Prop:=
 binV tab .lss 3 v38 v37 fun v39=>
 cV_ v39 (iA_ tab 25 v36 v38 fun v41=>
 lV_ tab 66 v41 H fun v42=>
 a_d tab 66 H fun v4 H4=>
 sV_ tab 66 v4 v42 H4 fun H5=>
 fA_ tab 66 v4 0 fun v43=>
 lV_ tab 3 v43 H5 fun v44=>
 binV tab .lss 3 v44 (AV.p (.int .i64 0)) fun v45=>
 grdV v45 false (fA_ tab 66 v4 0 fun v47=>
 lV_ tab 3 v47 H5 fun v48=>
 fA_ tab 28 v1 0 fun v49=>
 lV_ tab 3 v49 H5 fun v50=>
 binV tab .geq 3 v48 v50 fun v51=>
 grdV v51 false (fA_ tab 66 v4 2 fun v54=>
 lV_ tab 3 v54 H5 fun v55=>
 binV tab .lss 3 v55 (AV.p (.int .i64 0)) fun v56=>
 grdV v56 false (fA_ tab 66 v4 2 fun v59=>
 lV_ tab 3 v59 H5 fun v60=>
 fA_ tab 28 v1 0 fun v61=>
 lV_ tab 3 v61 H5 fun v62=>
 binV tab .geq 3 v60 v62 fun v63=>
 grdV v63 false (fA_ tab 66 v4 1 fun v66=>
 lV_ tab 3 v66 H5 fun v67=>
 binV tab .lss 3 v67 (AV.p (.int .i64 0)) fun v68=>
 grdV v68 false (fA_ tab 66 v4 1 fun v71=>
 lV_ tab 3 v71 H5 fun v72=>
 binV tab .geq 3 v72 (AV.p (.int .i64 8)) fun v73=>
 grdV v73 false (binV tab .gtr 3 v38 (AV.p (.int .i64 0)) fun v77=>
 grdV v77 true (fA_ tab 28 v1 2 fun v79=>
 lV_ tab 25 v79 H5 fun v80=>
 binV tab .sub 3 v38 (AV.p (.int .i64 1)) fun v82=>
 iA_ tab 25 v80 v82 fun v83=>
 lV_ tab 66 v83 H5 fun v84=>
 lV_ tab 66 v4 H5 fun v85=>
 a_a Tryz.prog 76 [v84,v85] H5 fun v86 H6=>
 binV tab .geq 3 v86 (AV.p (.int .i64 0)) fun v87=>
 cV_ v87 (K (AV.p (.bool false)) H6)
 (binV tab .add 3 v38 (AV.p (.int .i64 1)) fun v90=>
 N1 v90 H6))
 (binV tab .add 3 v38 (AV.p (.int .i64 1)) fun v90=>
 N1 v90 H5))
 (K (AV.p (.bool false)) H5))
 (K (AV.p (.bool false)) H5))
 (K (AV.p (.bool false)) H5))
 (K (AV.p (.bool false)) H5))
 (K (AV.p (.bool false)) H5))
 (K (AV.p (.bool false)) H5))
 (K (AV.p (.bool true)) H)
def W29 (v0:AV) (H:Heap) (K:k_):Prop:=
 boxV v0 H fun v1 H1=>
 fA_ tab 28 v1 0 fun v5=>
 lV_ tab 3 v5 H1 fun v6=>
 binV tab .lss 3 v6 (AV.p (.int .i64 1)) fun v7=>
 grdV v7 false (fA_ tab 28 v1 0 fun v9=>
 lV_ tab 3 v9 H1 fun v10=>
 binV tab .gtr 3 v10 (AV.p (.int .i64 96)) fun v11=>
 grdV v11 false (fA_ tab 28 v1 1 fun v14=>
 lV_ tab 24 v14 H1 fun v15=>
 fA_ tab 28 v1 0 fun v16=>
 lV_ tab 3 v16 H1 fun v17=>
 a_a Tryz.prog 70 [v15,v17] H1 fun v18 H2=>
 unV .not v18 fun v19=>
 grdV v19 false (fA_ tab 28 v1 2 fun v22=>
 lV_ tab 25 v22 H2 fun v23=>
 lenV tab 25 v23 fun v24=>
 binV tab .gtr 3 v24 (AV.p (.int .i64 2400)) fun v25=>
 grdV v25 false (fA_ tab 28 v1 3 fun v28=>
 lV_ tab 26 v28 H2 fun v29=>
 fA_ tab 28 v1 0 fun v30=>
 lV_ tab 3 v30 H2 fun v31=>
 a_a Tryz.prog 75 [v29,v31] H2 fun v32 H3=>
 unV .not v32 fun v33=>
 cV_ v33 (K (AV.p (.bool false)) H3)
 (fA_ tab 28 v1 2 fun v35=>
 lV_ tab 25 v35 H3 fun v36=>
 lenV tab 25 v36 fun v37=>
 L29_0 K v1 v36 v37 (AV.p (.int .i64 0)) H3))
 (K (AV.p (.bool false)) H2))
 (K (AV.p (.bool false)) H2))
 (K (AV.p (.bool false)) H1))
 (K (AV.p (.bool false)) H1)
theorem W29_ok {v0:AV} {H:Heap} {K:k_} (h:W29 v0 H K):a_a Tryz.prog 29 [v0] H K:=
 a_a.of_wp (D:=D29) tO_ mixed Tryz.func29 (c:=bO_ Tryz.f29) (by kernel_rfl) rfl (by kernel_rfl) (rs:=#[.tmp 2]) rfl (by decide +kernel) (by kernel_rfl) (by kernel_rfl) h
theorem L29_0_rule {K:k_} {v1 v36 v37 v38:AV} {H:Heap} {σ:Type} (s0:σ) (f38:σ→AV) (TH:σ→Heap) (pre:σ→Prop) (μ:σ→Nat)
  (h0:pre s0∧AV.wk v38 (f38 s0)∧Heap.le (TH s0) H)
  (round:∀s,pre s→B29_0 K (fun w38 H'=>∃s',pre s'∧μ s' < μ s∧AV.wk w38 (f38 s')∧Heap.le (TH s') H') v1 v36 v37 (f38 s) (TH s)) :
  L29_0 K v1 v36 v37 v38 H:=by
 unfold L29_0
 exact a_c.mk s0 (fun s=>[f38 s]) TH pre μ (fun _=>rfl) (Eq.mp (by kernel_rfl) h0) (fun s hs=>Eq.mp (by kernel_rfl) (round s hs))
def D31:Info:=⟨51,fun i=>if i=5 then ([[],[],[1],[],[],[4],[3,4,5],[3,4,5,6],[],[8],[8,9],[3,4,5,6,7,8,9,10],[0,1,2,3,4,5,6,7,8,9,10,11],[0,1,2,3,4,5,6,7,8,9,10,11,12]],[(0,[]),(1,[]),(2,[]),(3,[]),(4,[]),(5,[]),(6,[]),(7,[]),(8,[]),(9,[]),(10,[2,5,7]),(11,[2]),(12,[]),(13,[])]) else ([],[]),fun i=>if i=3 then ([3,11,12],[13]) else if i=8 then ([3,32],[33]) else ([],[])⟩
def L31_0 (K:k_) (v3 v11:AV) (v12 v13:AV) (H:Heap):Prop:=a_c (wpC Tryz.prog tab D31 (cAt [1,1,0,1,0,0] (bO_ Tryz.f31))) [3,11,12] (a_b.block 0 (a_b.thenA (wpC Tryz.prog tab D31 (cAt [1,1,1] (bO_ Tryz.f31))) (retF tab [.tmp 2] K))) [13] [Q_,Q_,Q_,v3,Q_,Q_,Q_,Q_,Q_,Q_,Q_,v11,v12,v13,Q_,Q_,Q_,Q_,Q_,Q_,Q_,Q_,Q_,Q_,Q_,Q_,Q_,Q_,Q_,Q_,Q_,Q_,Q_,Q_,Q_,Q_,Q_,Q_,Q_,Q_,Q_,Q_,Q_,Q_,Q_,Q_,Q_,Q_,Q_,Q_,Q_] H
def L31_1 (K:k_) (v3 v32 v33:AV) (H:Heap):Prop:=a_c (wpC Tryz.prog tab D31 (cAt [1,1,1,0,1,0,0] (bO_ Tryz.f31))) [3,32] (a_b.block 2 (a_b.thenA (wpC Tryz.prog tab D31 (cAt [1,1,1,1] (bO_ Tryz.f31))) (retF tab [.tmp 2] K))) [33] [Q_,Q_,Q_,v3,Q_,Q_,Q_,Q_,Q_,Q_,Q_,Q_,Q_,Q_,Q_,Q_,Q_,Q_,Q_,Q_,Q_,Q_,Q_,Q_,Q_,Q_,Q_,Q_,Q_,Q_,Q_,Q_,v32,v33,Q_,Q_,Q_,Q_,Q_,Q_,Q_,Q_,Q_,Q_,Q_,Q_,Q_,Q_,Q_,Q_,Q_] H
def B31_1 (K:k_) (N1:k_) (v3 v32 v33:AV) (H:Heap):Prop:=
 binV tab .lss 3 v33 v32 fun v34=>
 cV_ v34 (iA_ tab 26 v3 v33 fun v38=>
 lV_ tab 24 v38 H fun v39=>
 a_a Tryz.prog 82 [v39] H fun v40 H8=>
 iA_ tab 26 v3 v33 fun v45=>
 lV_ tab 24 v45 H8 fun v46=>
 a_a Tryz.prog 83 [v46] H8 fun v47 H9=>
 iA_ tab 26 v3 v33 fun v48=>
 sV_ tab 24 v48 v47 H9 fun H10=>
 binV tab .add 3 v33 (AV.p (.int .i64 1)) fun v49=>
 N1 v49 H10)
 (K v3 H)
def B31_0 (K:k_) (N1:k_) (v3 v11:AV) (v12 v13:AV) (H:Heap):Prop:=
 binV tab .lss 3 v13 v12 fun v14=>
 cV_ v14 (iA_ tab 25 v11 v13 fun v15=>
 lV_ tab 66 v15 H fun v16=>
 a_d tab 66 H fun v5 H3=>
 sV_ tab 66 v5 v16 H3 fun H4=>
 fA_ tab 66 v5 0 fun v18=>
 lV_ tab 3 v18 H4 fun v19=>
 fA_ tab 66 v5 0 fun v21=>
 lV_ tab 3 v21 H4 fun v22=>
 iA_ tab 26 v3 v22 fun v23=>
 lV_ tab 24 v23 H4 fun v24=>
 fA_ tab 66 v5 2 fun v25=>
 lV_ tab 3 v25 H4 fun v26=>
 bS_ tab 24 1 [(0,v26)] H4 (wkK fun v27 H5=>
 (lV_ tab 3 v18 H5 fun v9019=>
 v19=v9019)∧
 (lV_ tab 3 v21 H5 fun v9022=>
 v22=v9022)∧
 (lV_ tab 24 v23 H5 fun v9024=>
 v24=v9024)∧
 aP_ tab 24 24 v24 v27 H5 (wkK fun v28 H6=>
 (lV_ tab 3 v18 H6 fun v9019=>
 v19=v9019)∧
 iA_ tab 26 v3 v19 fun v29=>
 sV_ tab 24 v29 v28 H6 fun H7=>
 binV tab .add 3 v13 (AV.p (.int .i64 1)) fun v30=>
 N1 v30 H7)))
 (lenV tab 26 v3 fun v32=>
 L31_1 K v3 v32 (AV.p (.int .i64 0)) H)
def W31 (v0:AV) (H:Heap) (K:k_):Prop:=
 boxV v0 H fun v1 H1=>
 fA_ tab 28 v1 0 fun v7=>
 lV_ tab 3 v7 H1 fun v8=>
 mS_ tab 26 v8 v8 H1 fun v9 H2=>
 fA_ tab 28 v1 2 fun v10=>
 lV_ tab 25 v10 H2 fun v11=>
 lenV tab 25 v11 fun v12=>
 L31_0 K v9 v11 v12 (AV.p (.int .i64 0)) H2
theorem W31_ok {v0:AV} {H:Heap} {K:k_} (h:W31 v0 H K):a_a Tryz.prog 31 [v0] H K:=
 a_a.of_wp (D:=D31) tO_ mixed Tryz.func31 (c:=bO_ Tryz.f31) (by kernel_rfl) rfl (by kernel_rfl) (rs:=#[.tmp 2]) rfl (by decide +kernel) (by kernel_rfl) (by kernel_rfl) h
theorem L31_1_rule {K:k_} {v3 v32 v33:AV} {H:Heap} {σ:Type} (s0:σ) (f33:σ→AV) (TH:σ→Heap) (pre:σ→Prop) (μ:σ→Nat)
  (h0:pre s0∧AV.wk v33 (f33 s0)∧Heap.le (TH s0) H)
  (round:∀s,pre s→B31_1 K (fun w33 H'=>∃s',pre s'∧μ s' < μ s∧AV.wk w33 (f33 s')∧Heap.le (TH s') H') v3 v32 (f33 s) (TH s)) :
  L31_1 K v3 v32 v33 H:=by
 unfold L31_1
 exact a_c.mk s0 (fun s=>[f33 s]) TH pre μ (fun _=>rfl) (Eq.mp (by kernel_rfl) h0) (fun s hs=>Eq.mp (by kernel_rfl) (round s hs))
theorem L31_0_rule {K:k_} {v3 v11 v12 v13:AV} {H:Heap} {σ:Type} (s0:σ) (f13:σ→AV) (TH:σ→Heap) (pre:σ→Prop) (μ:σ→Nat)
  (h0:pre s0∧AV.wk v13 (f13 s0)∧Heap.le (TH s0) H)
  (round:∀s,pre s→B31_0 K (fun w13 H'=>∃s',pre s'∧μ s' < μ s∧AV.wk w13 (f13 s')∧Heap.le (TH s') H') v3 v11 v12 (f13 s) (TH s)) :
  L31_0 K v3 v11 v12 v13 H:=by
 unfold L31_0
 exact a_c.mk s0 (fun s=>[f13 s]) TH pre μ (fun _=>rfl) (Eq.mp (by kernel_rfl) h0) (fun s hs=>Eq.mp (by kernel_rfl) (round s hs))
end Go.Proofs.YtohkciilfkhomaaGreat
