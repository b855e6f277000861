/- Texts laid together: Lr0 Tab W0 W1 W2 W3. -/
import Derived.Test.YtohkciilfkhomaaGreatPW2
import Derived.Test.YtohkciilfkhomaaGreatProg
import Derived.KernelRfl
set_option linter.unusedVariables false
set_option linter.unusedSimpArgs false
open Go.Sep.AV renaming any → Q_
open Nat renaming reduceAdd→ν1,reduceLeDiff→ν2,reduceLT→ν3,reduceMul→ν4,reduceSub→ν5
open Int renaming reduceToNat→ι1,reduceSub→ι2,reduceAdd→ι3,reduceNeg→ι4
open Array renaming toList→ι5
open Ne renaming symm→ν6
open List renaming forall_mem_cons→ν7
namespace Go.Sep
open Go Go.RowKit
theorem args_cons {P:Program} {t:TypeId} {ts:List TypeId} {avs:List AV} (h:ArgsT P (t::ts) avs):∃v vs,avs=v::vs∧ArgT P t v∧ArgsT P ts vs:=by
 cases h with
 | cons h r=>exact ⟨_,_,rfl,h,r⟩
theorem args_nil {P:Program} {avs:List AV} (h:ArgsT P [] avs):avs=[]:=by cases h;rfl
end Go.Sep
namespace Go.Proofs.YtohkciilfkhomaaGreat
open Go Go.Sep
def td1:TD:=⟨.func,1,8,[.nilfn]⟩
def td2:TD:=⟨.int .i64,1,8,[(.p (.int .i64 0))]⟩
def td3:TD:=⟨.int .i64,1,8,[(.p (.int .i64 0))]⟩
def td4:TD:=⟨.bool,1,1,[(.p (.bool false))]⟩
def td5:TD:=⟨.int .u8,1,1,[(.p (.int .u8 0))]⟩
def td22:TD:=⟨.slice 5,1,24,[(.p .nil)]⟩
def td24:TD:=⟨.slice 3,1,24,[(.p .nil)]⟩
def td25:TD:=⟨.slice 66,1,24,[(.p .nil)]⟩
def td26:TD:=⟨.slice 24,1,24,[(.p .nil)]⟩
def td28:TD:=⟨.struct [(0,3),(1,24),(2,25),(3,26)],4,80,[(.p (.int .i64 0)),(.p .nil),(.p .nil),(.p .nil)]⟩
def td31:TD:=⟨.struct [(0,24),(1,24)],2,48,[(.p .nil),(.p .nil)]⟩
def td66:TD:=⟨.struct [(0,3),(1,3),(2,3)],3,24,[(.p (.int .i64 0)),(.p (.int .i64 0)),(.p (.int .i64 0))]⟩
def td69:TD:=⟨.int .u64,1,8,[(.p (.int .u64 0))]⟩
def td71:TD:=⟨.struct [(0,22),(1,3),(2,69)],3,40,[(.p .nil),(.p (.int .i64 0)),(.p (.int .u64 0))]⟩
def td87:TD:=⟨.slice 4,1,24,[(.p .nil)]⟩
def td109:TD:=⟨.int .u64,1,8,[(.p (.int .u64 0))]⟩
def td118:TD:=⟨.struct [(0,26),(1,24),(2,24),(3,24),(4,24),(5,3)],6,128,[(.p .nil),(.p .nil),(.p .nil),(.p .nil),(.p .nil),(.p (.int .i64 0))]⟩
def td124:TD:=⟨.struct [(0,26),(1,87),(2,24)],3,72,[(.p .nil),(.p .nil),(.p .nil)]⟩
def tabL:List (Nat×TD):=[(1,td1),(2,td2),(3,td3),(4,td4),(5,td5),(22,td22),(24,td24),(25,td25),(26,td26),(28,td28),(31,td31),(66,td66),(69,td69),(71,td71),(87,td87),(109,td109),(118,td118),(124,td124)]
def tab:Tab:=fun t=>(tabL.find? (fun p=>p.1==t)).map (·.2)
theorem tab_1:tab 1=some ⟨.func,1,8,[.nilfn]⟩:=rfl
theorem tab_2:tab 2=some ⟨.int .i64,1,8,[(.p (.int .i64 0))]⟩:=rfl
theorem tab_3:tab 3=some ⟨.int .i64,1,8,[(.p (.int .i64 0))]⟩:=rfl
theorem tab_4:tab 4=some ⟨.bool,1,1,[(.p (.bool false))]⟩:=rfl
theorem tab_5:tab 5=some ⟨.int .u8,1,1,[(.p (.int .u8 0))]⟩:=rfl
theorem tab_22:tab 22=some ⟨.slice 5,1,24,[(.p .nil)]⟩:=rfl
theorem tab_24:tab 24=some ⟨.slice 3,1,24,[(.p .nil)]⟩:=rfl
theorem tab_25:tab 25=some ⟨.slice 66,1,24,[(.p .nil)]⟩:=rfl
theorem tab_26:tab 26=some ⟨.slice 24,1,24,[(.p .nil)]⟩:=rfl
theorem tab_28:tab 28=some ⟨.struct [(0,3),(1,24),(2,25),(3,26)],4,80,[(.p (.int .i64 0)),(.p .nil),(.p .nil),(.p .nil)]⟩:=rfl
theorem tab_31:tab 31=some ⟨.struct [(0,24),(1,24)],2,48,[(.p .nil),(.p .nil)]⟩:=rfl
theorem tab_66:tab 66=some ⟨.struct [(0,3),(1,3),(2,3)],3,24,[(.p (.int .i64 0)),(.p (.int .i64 0)),(.p (.int .i64 0))]⟩:=rfl
theorem tab_69:tab 69=some ⟨.int .u64,1,8,[(.p (.int .u64 0))]⟩:=rfl
theorem tab_71:tab 71=some ⟨.struct [(0,22),(1,3),(2,69)],3,40,[(.p .nil),(.p (.int .i64 0)),(.p (.int .u64 0))]⟩:=rfl
theorem tab_87:tab 87=some ⟨.slice 4,1,24,[(.p .nil)]⟩:=rfl
theorem tab_109:tab 109=some ⟨.int .u64,1,8,[(.p (.int .u64 0))]⟩:=rfl
theorem tab_118:tab 118=some ⟨.struct [(0,26),(1,24),(2,24),(3,24),(4,24),(5,3)],6,128,[(.p .nil),(.p .nil),(.p .nil),(.p .nil),(.p .nil),(.p (.int .i64 0))]⟩:=rfl
theorem tab_124:tab 124=some ⟨.struct [(0,26),(1,87),(2,24)],3,72,[(.p .nil),(.p .nil),(.p .nil)]⟩:=rfl
set_option maxRecDepth 100000 in
theorem tabs:tab 1=some ⟨.func,1,8,[.nilfn]⟩∧tab 2=some ⟨.int .i64,1,8,[(.p (.int .i64 0))]⟩∧tab 3=some ⟨.int .i64,1,8,[(.p (.int .i64 0))]⟩∧tab 4=some ⟨.bool,1,1,[(.p (.bool false))]⟩∧tab 5=some ⟨.int .u8,1,1,[(.p (.int .u8 0))]⟩∧tab 22=some ⟨.slice 5,1,24,[(.p .nil)]⟩∧tab 24=some ⟨.slice 3,1,24,[(.p .nil)]⟩∧tab 25=some ⟨.slice 66,1,24,[(.p .nil)]⟩∧tab 26=some ⟨.slice 24,1,24,[(.p .nil)]⟩∧tab 28=some ⟨.struct [(0,3),(1,24),(2,25),(3,26)],4,80,[(.p (.int .i64 0)),(.p .nil),(.p .nil),(.p .nil)]⟩∧tab 31=some ⟨.struct [(0,24),(1,24)],2,48,[(.p .nil),(.p .nil)]⟩∧tab 66=some ⟨.struct [(0,3),(1,3),(2,3)],3,24,[(.p (.int .i64 0)),(.p (.int .i64 0)),(.p (.int .i64 0))]⟩∧tab 69=some ⟨.int .u64,1,8,[(.p (.int .u64 0))]⟩∧tab 71=some ⟨.struct [(0,22),(1,3),(2,69)],3,40,[(.p .nil),(.p (.int .i64 0)),(.p (.int .u64 0))]⟩∧tab 87=some ⟨.slice 4,1,24,[(.p .nil)]⟩∧tab 109=some ⟨.int .u64,1,8,[(.p (.int .u64 0))]⟩∧tab 118=some ⟨.struct [(0,26),(1,24),(2,24),(3,24),(4,24),(5,3)],6,128,[(.p .nil),(.p .nil),(.p .nil),(.p .nil),(.p .nil),(.p (.int .i64 0))]⟩∧tab 124=some ⟨.struct [(0,26),(1,87),(2,24)],3,72,[(.p .nil),(.p .nil),(.p .nil)]⟩:=⟨tab_1,tab_2,tab_3,tab_4,tab_5,tab_22,tab_24,tab_25,tab_26,tab_28,tab_31,tab_66,tab_69,tab_71,tab_87,tab_109,tab_118,tab_124⟩
theorem info1:(Tryz.prog.info? 1).map (fun i=>(i.zero,i.size,i.bytes))=some (some .nilFunc,1,8):=by kernel_rfl
theorem td1_ok:TD.Ok Tryz.prog 1 td1:=TD.Ok.of ⟨_,_,_,Tryz.underlying1⟩ info1 rfl rfl (by decide) (fun _=>rfl)
theorem info2:(Tryz.prog.info? 2).map (fun i=>(i.zero,i.size,i.bytes))=some (some (.int .i64 0),1,8):=by kernel_rfl
theorem td2_ok:TD.Ok Tryz.prog 2 td2:=TD.Ok.of Tryz.underlying2 info2 rfl rfl (by decide) (fun _=>rfl)
theorem info3:(Tryz.prog.info? 3).map (fun i=>(i.zero,i.size,i.bytes))=some (some (.int .i64 0),1,8):=by kernel_rfl
theorem td3_ok:TD.Ok Tryz.prog 3 td3:=TD.Ok.of Tryz.underlying3 info3 rfl rfl (by decide) (fun _=>rfl)
theorem info4:(Tryz.prog.info? 4).map (fun i=>(i.zero,i.size,i.bytes))=some (some (.bool false),1,1):=by kernel_rfl
theorem td4_ok:TD.Ok Tryz.prog 4 td4:=TD.Ok.of Tryz.underlying4 info4 rfl rfl (by decide) (fun _=>rfl)
theorem info5:(Tryz.prog.info? 5).map (fun i=>(i.zero,i.size,i.bytes))=some (some (.int .u8 0),1,1):=by kernel_rfl
theorem td5_ok:TD.Ok Tryz.prog 5 td5:=TD.Ok.of Tryz.underlying5 info5 rfl rfl (by decide) (fun _=>rfl)
theorem info22:(Tryz.prog.info? 22).map (fun i=>(i.zero,i.size,i.bytes))=some (some (.slice none 0 0),1,24):=by kernel_rfl
theorem td22_ok:TD.Ok Tryz.prog 22 td22:=TD.Ok.of Tryz.underlying22 info22 rfl rfl (by decide) (fun _=>rfl)
theorem info24:(Tryz.prog.info? 24).map (fun i=>(i.zero,i.size,i.bytes))=some (some (.slice none 0 0),1,24):=by kernel_rfl
theorem td24_ok:TD.Ok Tryz.prog 24 td24:=TD.Ok.of Tryz.underlying24 info24 rfl rfl (by decide) (fun _=>rfl)
theorem info25:(Tryz.prog.info? 25).map (fun i=>(i.zero,i.size,i.bytes))=some (some (.slice none 0 0),1,24):=by kernel_rfl
theorem td25_ok:TD.Ok Tryz.prog 25 td25:=TD.Ok.of Tryz.underlying25 info25 rfl rfl (by decide) (fun _=>rfl)
theorem info26:(Tryz.prog.info? 26).map (fun i=>(i.zero,i.size,i.bytes))=some (some (.slice none 0 0),1,24):=by kernel_rfl
theorem td26_ok:TD.Ok Tryz.prog 26 td26:=TD.Ok.of Tryz.underlying26 info26 rfl rfl (by decide) (fun _=>rfl)
theorem info28:(Tryz.prog.info? 28).map (fun i=>(i.zero,i.size,i.bytes))=some (some (.agg #[(.int .i64 0),(.slice none 0 0),(.slice none 0 0),(.slice none 0 0)]),4,80):=by kernel_rfl
theorem td28_ok:TD.Ok Tryz.prog 28 td28:=TD.Ok.of ⟨_,Tryz.underlying28,rfl,Tryz.stoodInHeld28,Tryz.eqGuardType28,by decide⟩ info28 rfl rfl (by decide) (fun h=>by cases h)
theorem info31:(Tryz.prog.info? 31).map (fun i=>(i.zero,i.size,i.bytes))=some (some (.agg #[(.slice none 0 0),(.slice none 0 0)]),2,48):=by kernel_rfl
theorem td31_ok:TD.Ok Tryz.prog 31 td31:=TD.Ok.of ⟨_,Tryz.underlying31,rfl,Tryz.stoodInHeld31,Tryz.eqGuardType31,by decide⟩ info31 rfl rfl (by decide) (fun h=>by cases h)
theorem info66:(Tryz.prog.info? 66).map (fun i=>(i.zero,i.size,i.bytes))=some (some (.agg #[(.int .i64 0),(.int .i64 0),(.int .i64 0)]),3,24):=by kernel_rfl
theorem td66_ok:TD.Ok Tryz.prog 66 td66:=TD.Ok.of ⟨_,Tryz.underlying66,rfl,Tryz.stoodInHeld66,Tryz.eqGuardType66,by decide⟩ info66 rfl rfl (by decide) (fun h=>by cases h)
theorem info69:(Tryz.prog.info? 69).map (fun i=>(i.zero,i.size,i.bytes))=some (some (.int .u64 0),1,8):=by kernel_rfl
theorem td69_ok:TD.Ok Tryz.prog 69 td69:=TD.Ok.of Tryz.underlying69 info69 rfl rfl (by decide) (fun _=>rfl)
theorem info71:(Tryz.prog.info? 71).map (fun i=>(i.zero,i.size,i.bytes))=some (some (.agg #[(.slice none 0 0),(.int .i64 0),(.int .u64 0)]),3,40):=by kernel_rfl
theorem td71_ok:TD.Ok Tryz.prog 71 td71:=TD.Ok.of ⟨_,Tryz.underlying71,rfl,Tryz.stoodInHeld71,Tryz.eqGuardType71,by decide⟩ info71 rfl rfl (by decide) (fun h=>by cases h)
theorem info87:(Tryz.prog.info? 87).map (fun i=>(i.zero,i.size,i.bytes))=some (some (.slice none 0 0),1,24):=by kernel_rfl
theorem td87_ok:TD.Ok Tryz.prog 87 td87:=TD.Ok.of Tryz.underlying87 info87 rfl rfl (by decide) (fun _=>rfl)
theorem info109:(Tryz.prog.info? 109).map (fun i=>(i.zero,i.size,i.bytes))=some (some (.int .u64 0),1,8):=by kernel_rfl
theorem td109_ok:TD.Ok Tryz.prog 109 td109:=TD.Ok.of Tryz.underlying109 info109 rfl rfl (by decide) (fun _=>rfl)
theorem info118:(Tryz.prog.info? 118).map (fun i=>(i.zero,i.size,i.bytes))=some (some (.agg #[(.slice none 0 0),(.slice none 0 0),(.slice none 0 0),(.slice none 0 0),(.slice none 0 0),(.int .i64 0)]),6,128):=by kernel_rfl
theorem td118_ok:TD.Ok Tryz.prog 118 td118:=TD.Ok.of ⟨_,Tryz.underlying118,rfl,Tryz.stoodInHeld118,Tryz.eqGuardType118,by decide⟩ info118 rfl rfl (by decide) (fun h=>by cases h)
theorem info124:(Tryz.prog.info? 124).map (fun i=>(i.zero,i.size,i.bytes))=some (some (.agg #[(.slice none 0 0),(.slice none 0 0),(.slice none 0 0)]),3,72):=by kernel_rfl
theorem td124_ok:TD.Ok Tryz.prog 124 td124:=TD.Ok.of ⟨_,Tryz.underlying124,rfl,Tryz.stoodInHeld124,Tryz.eqGuardType124,by decide⟩ info124 rfl rfl (by decide) (fun h=>by cases h)
set_option maxRecDepth 100000 in
theorem tabL_ok:∀p∈tabL,TD.Ok Tryz.prog p.1 p.2:=
 (ν7.2 ⟨td1_ok,(ν7.2 ⟨td2_ok,(ν7.2 ⟨td3_ok,(ν7.2 ⟨td4_ok,(ν7.2 ⟨td5_ok,(ν7.2 ⟨td22_ok,(ν7.2 ⟨td24_ok,(ν7.2 ⟨td25_ok,(ν7.2 ⟨td26_ok,(ν7.2 ⟨td28_ok,(ν7.2 ⟨td31_ok,(ν7.2 ⟨td66_ok,(ν7.2 ⟨td69_ok,(ν7.2 ⟨td71_ok,(ν7.2 ⟨td87_ok,(ν7.2 ⟨td109_ok,(ν7.2 ⟨td118_ok,(ν7.2 ⟨td124_ok,(fun _ h=>by cases h)⟩)⟩)⟩)⟩)⟩)⟩)⟩)⟩)⟩)⟩)⟩)⟩)⟩)⟩)⟩)⟩)⟩)⟩)
theorem mixed:Tryz.prog.follows .mixedOrders=true:=by kernel_rfl
theorem tO_:tab.Ok Tryz.prog:=Tab.Ok.of_list tabL_ok
end Go.Proofs.YtohkciilfkhomaaGreat
namespace Go.Proofs.YtohkciilfkhomaaGreat
open Go Go.Sep
attribute [local irreducible] wpC headF
def D3:Info:=⟨106,fun i=>([],[]),fun i=>([],[])⟩
def W3 (v0:AV) (v1:AV) (H:Heap) (K:AV→Heap→Prop):Prop:=
 CallT Tryz.prog 5 [v0,v1] H fun v22 H1=>
 cV_ v22 (K (AV.p (.bool true)) H1)
 (CallT Tryz.prog 6 [v0] H1 fun v24 H2=>
 allocV tab 28 H2 fun v5 H3=>
 sV_ tab 28 v5 v24 H3 fun H4=>
 lV_ tab 28 v5 H4 fun v26=>
 CallT Tryz.prog 7 [v26] H4 fun v27 H5=>
 xV_ v27 0 fun v28=>
 xV_ v27 1 fun v29=>
 allocV tab 31 H5 fun v6 H6=>
 sV_ tab 31 v6 v28 H6 fun H7=>
 lV_ tab 28 v5 H7 fun v31=>
 CallT Tryz.prog 8 [v31] H7 fun v32 H8=>
 xV_ v32 0 fun v33=>
 xV_ v32 1 fun v34=>
 allocV tab 31 H8 fun v8 H9=>
 sV_ tab 31 v8 v33 H9 fun H10=>
 lV_ tab 28 v5 H10 fun v36=>
 CallT Tryz.prog 9 [v36] H10 fun v37 H11=>
 xV_ v37 0 fun v38=>
 xV_ v37 1 fun v39=>
 lV_ tab 28 v5 H11 fun v41=>
 CallT Tryz.prog 10 [v41] H11 fun v42 H12=>
 xV_ v42 0 fun v43=>
 xV_ v42 1 fun v44=>
 binV tab .neq 4 v29 v34 fun v47=>
 grdV v47 false (lV_ tab 31 v6 H12 fun v49=>
 lV_ tab 31 v8 H12 fun v50=>
 CallT Tryz.prog 11 [v49,v50] H12 fun v51 H13=>
 unV .not v51 fun v52=>
 grdV v52 false (binV tab .neq 4 v39 v44 fun v57=>
 grdV v57 false (binV tab .neq 4 v38 v43 fun v62=>
 cV_ v62 (K (AV.p (.bool false)) H13)
 (cV_ v29 (lV_ tab 28 v5 H13 fun v66=>
 lV_ tab 31 v6 H13 fun v67=>
 CallT Tryz.prog 12 [v66,v67] H13 fun v68 H14=>
 xV_ v68 0 fun v69=>
 xV_ v68 1 fun v70=>
 grdV v39 true (unV .not v38 fun v74=>
 grdV v74 true (grdV v70 true (K v69 H14)
 (K (AV.p (.bool false)) H14))
 (K (AV.p (.bool false)) H14))
 (K (AV.p (.bool false)) H14))
 (CallT Tryz.prog 13 [v1] H13 fun v84 H15=>
 xV_ v84 0 fun v85=>
 xV_ v84 1 fun v86=>
 allocV tab 28 H15 fun v16 H16=>
 allocV tab 31 H16 fun v17 H17=>
 sV_ tab 28 v16 v85 H17 fun H18=>
 sV_ tab 31 v17 v86 H18 fun H19=>
 grdV v39 true (grdV v38 true (lV_ tab 31 v17 H19 fun v92=>
 CallT Tryz.prog 14 [v92] H19 fun v93 H20=>
 cV_ v93 (lV_ tab 28 v5 H20 fun v96=>
 lV_ tab 31 v17 H20 fun v97=>
 CallT Tryz.prog 12 [v96,v97] H20 fun v98 H21=>
 xV_ v98 0 fun v99=>
 xV_ v98 1 fun v100=>
 grdV v100 true (unV .not v99 fun v104=>
 K v104 H21)
 (K (AV.p (.bool false)) H21))
 (K (AV.p (.bool true)) H20))
 (K (AV.p (.bool true)) H19))
 (K (AV.p (.bool true)) H19))))
 (K (AV.p (.bool false)) H13))
 (K (AV.p (.bool false)) H13))
 (K (AV.p (.bool false)) H12))
theorem W3_wp (v0:AV) (v1:AV) (H:Heap) (K:AV→Heap→Prop):wpC Tryz.prog tab D3 (bO_ Tryz.f3) (retF tab [.tmp 4] K) (nthA [v0,v1]) H=W3 v0 v1 H K:=by kernel_rfl
theorem W3_ok {v0 v1:AV} {H:Heap} {K:AV→Heap→Prop} (h:W3 v0 v1 H K):CallT Tryz.prog 3 [v0,v1] H K:=
 CallT.of_wp (D:=D3) tO_ mixed Tryz.func3 (c:=bO_ Tryz.f3) (by kernel_rfl) rfl (by kernel_rfl) (rs:=#[.tmp 4]) rfl (by decide +kernel) (by kernel_rfl) (W3_wp v0 v1 H K) h
def D5:Info:=⟨16,fun i=>([],[]),fun i=>([],[])⟩
def W5 (v0:AV) (v1:AV) (H:Heap) (K:AV→Heap→Prop):Prop:=
 lenV tab 22 v0 fun v6=>
 binV tab .gtr 3 v6 (AV.p (.int .i64 1048576)) fun v7=>
 grdV v7 false (lenV tab 22 v1 fun v10=>
 lenV tab 22 v0 fun v12=>
 binV tab .sub 3 (AV.p (.int .i64 1048576)) v12 fun v13=>
 binV tab .gtr 3 v10 v13 fun v14=>
 K v14 H)
 (K (AV.p (.bool true)) H)
theorem W5_wp (v0:AV) (v1:AV) (H:Heap) (K:AV→Heap→Prop):wpC Tryz.prog tab D5 (bO_ Tryz.f5) (retF tab [.tmp 4] K) (nthA [v0,v1]) H=W5 v0 v1 H K:=by kernel_rfl
theorem W5_ok {v0 v1:AV} {H:Heap} {K:AV→Heap→Prop} (h:W5 v0 v1 H K):CallT Tryz.prog 5 [v0,v1] H K:=
 CallT.of_wp (D:=D5) tO_ mixed Tryz.func5 (c:=bO_ Tryz.f5) (by kernel_rfl) rfl (by kernel_rfl) (rs:=#[.tmp 4]) rfl (by decide +kernel) (by kernel_rfl) (W5_wp v0 v1 H K) h
def D6:Info:=⟨5,fun i=>([],[]),fun i=>([],[])⟩
def W6 (v0:AV) (H:Heap) (K:AV→Heap→Prop):Prop:=
 allocV tab 28 H fun v2 H1=>
 CallT Tryz.prog 28 [v0] H1 fun v4 H2=>
 sV_ tab 28 v2 v4 H2 fun H3=>
 lV_ tab 28 v2 H3 fun r0=>
 K r0 H3
theorem W6_wp (v0:AV) (H:Heap) (K:AV→Heap→Prop):wpC Tryz.prog tab D6 (bO_ Tryz.f6) (retF tab [.cell 2 28] K) (nthA [v0]) H=W6 v0 H K:=by kernel_rfl
theorem W6_ok {v0:AV} {H:Heap} {K:AV→Heap→Prop} (h:W6 v0 H K):CallT Tryz.prog 6 [v0] H K:=
 CallT.of_wp (D:=D6) tO_ mixed Tryz.func6 (c:=bO_ Tryz.f6) (by kernel_rfl) rfl (by kernel_rfl) (rs:=#[.cell 2 28]) rfl (by decide +kernel) (by kernel_rfl) (W6_wp v0 H K) h
def D7:Info:=⟨69,fun i=>if i=3 then ([[],[0],[],[2],[],[4],[0,1,2,3,4,5],[0,1,2,3,4,5,6],[0,1,2,3,4,5,6,7],[0,1,2,3,4,5,6,7],[0,1,2,3,4,5,6,7],[0,1,2,3,4,5,6,7,8],[0,1,2,3,4,5,6,7,8,9,11],[0,1,2,3,4,5,6,7,8,9,10,11,12]],[(0,[]),(2,[]),(3,[]),(4,[]),(5,[]),(1,[3,5]),(6,[]),(7,[]),(8,[]),(9,[]),(10,[]),(11,[]),(12,[]),(13,[])]) else if i=10 then ([[],[],[],[],[3],[2,3,4],[2,3,4,5],[],[],[7,8],[7,8,9],[1,2,3,4,5,6,7,8,9,10],[1,2,3,4,5,6,7,8,9,10,11],[0,1,2,3,4,5,6,7,8,9,10,11,12],[0,1,2,3,4,5,6,7,8,9,10,11,12,13]],[(0,[]),(1,[]),(2,[]),(3,[]),(4,[]),(5,[]),(6,[]),(7,[]),(8,[]),(9,[]),(10,[]),(11,[]),(12,[]),(13,[]),(14,[])]) else if i=11 then ([[],[],[1],[],[3],[0,1,2,3,4],[],[],[7],[6,7,8],[0,1,2,3,4,5,6,7,8,9],[0,1,2,3,4,5,6,7,8,9,10],[0,1,2,3,4,5,6,7,8,9,10,11],[0,1,2,3,4,5,6,7,8,9,10,11],[0,1,2,3,4,5,6,7,8,9,10,11,12,13],[0,1,2,3,4,5,6,7,8,9,10,11,12,13,14]],[(0,[]),(1,[]),(2,[]),(3,[]),(4,[]),(5,[]),(6,[]),(7,[]),(8,[]),(9,[]),(10,[]),(11,[]),(12,[]),(13,[]),(14,[]),(15,[])]) else ([],[]),fun i=>if i=8 then ([1,2,4,7],[8,9]) else ([],[])⟩
def L7_0 (K:AV→Heap→Prop) (v1:AV) (v2:AV) (v4:AV) (v7:AV) (v8:AV) (v9:AV) (H:Heap):Prop:=LoopV (wpC Tryz.prog tab D7 (cAt [1,1,1,1,1,0,1,0,0] (bO_ Tryz.f7))) [1,2,4,7] (PostF.block 0 (PostF.thenA (wpC Tryz.prog tab D7 (cAt [1,1,1,1,1,1] (bO_ Tryz.f7))) (retF tab [.cell 2 31,.tmp 3] K))) [8,9] [Q_,v1,v2,Q_,v4,Q_,Q_,v7,v8,v9,Q_,Q_,Q_,Q_,Q_,Q_,Q_,Q_,Q_,Q_,Q_,Q_,Q_,Q_,Q_,Q_,Q_,Q_,Q_,Q_,Q_,Q_,Q_,Q_,Q_,Q_,Q_,Q_,Q_,Q_,Q_,Q_,Q_,Q_,Q_,Q_,Q_,Q_,Q_,Q_,Q_,Q_,Q_,Q_,Q_,Q_,Q_,Q_,Q_,Q_,Q_,Q_,Q_,Q_,Q_,Q_,Q_,Q_,Q_] H
def B7_0 (K:AV→Heap→Prop) (N1:AV→AV→Heap→Prop) (v1:AV) (v2:AV) (v4:AV) (v7:AV) (v8:AV) (v9:AV) (H:Heap):Prop:=
 lenV tab 24 v7 fun v37=>
 binV tab .lss 3 v9 v37 fun v38=>
 cV_ v38 (lV_ tab 28 v1 H fun v42=>
 binV tab .sub 3 v9 (AV.p (.int .i64 1)) fun v45=>
 iA_ tab 24 v7 v45 fun v46=>
 lV_ tab 3 v46 H fun v47=>
 iA_ tab 24 v7 v9 fun v50=>
 lV_ tab 3 v50 H fun v51=>
 CallT Tryz.prog 33 [v42,v47,v51] H fun v52 H11=>
 bS_ tab 24 1 [(0,v52)] H11 (wkK fun v53 H12=>
 aP_ tab 24 24 v8 v53 H12 (wkK fun v54 H13=>
 binV tab .add 3 v9 (AV.p (.int .i64 1)) fun v40=>
 N1 v54 v40 H13)))
 (lenV tab 24 v4 fun v57=>
 lenV tab 24 v4 fun v59=>
 sliceV tab 24 v8 none (some v57) (some v59) fun v60=>
 lenV tab 24 v4 fun v63=>
 sliceV tab 24 v8 (some v63) none none fun v64=>
 buildV tab 31 [(0,v60),(1,v64)] fun v65=>
 CallT Tryz.prog 34 [v65] H fun v66 H14=>
 xV_ v66 0 fun v67=>
 xV_ v66 1 fun v68=>
 sV_ tab 31 v2 v67 H14 fun H15=>
 lV_ tab 31 v2 H15 fun r0=>
 K (.tup [r0,v68]) H15)
def W7 (v0:AV) (H:Heap) (K:AV→Heap→Prop):Prop:=
 boxV v0 H fun v1 H1=>
 allocV tab 31 H1 fun v2 H2=>
 lV_ tab 28 v1 H2 fun v10=>
 CallT Tryz.prog 29 [v10] H2 fun v11 H3=>
 unV .not v11 fun v12=>
 cV_ v12 (buildV tab 31 [] fun v13=>
 sV_ tab 31 v2 v13 H3 fun H4=>
 lV_ tab 31 v2 H4 fun r0=>
 K (.tup [r0,(AV.p (.bool false))]) H4)
 (lV_ tab 28 v1 H3 fun v15=>
 fA_ tab 28 v1 1 fun v17=>
 lV_ tab 24 v17 H3 fun v18=>
 fA_ tab 28 v1 3 fun v19=>
 lV_ tab 26 v19 H3 fun v20=>
 CallT Tryz.prog 31 [v15] H3 fun v16 H5=>
 (lV_ tab 24 v17 H5 fun v9018=>
 v18=v9018)∧
 (lV_ tab 26 v19 H5 fun v9020=>
 v20=v9020)∧
 CallT Tryz.prog 30 [v16,v18,v20] H5 fun v21 H6=>
 xV_ v21 0 fun v22=>
 xV_ v21 1 fun v23=>
 xV_ v21 2 fun v24=>
 unV .not v24 fun v26=>
 cV_ v26 (buildV tab 31 [] fun v27=>
 sV_ tab 31 v2 v27 H6 fun H7=>
 lV_ tab 31 v2 H7 fun r0=>
 K (.tup [r0,(AV.p (.bool false))]) H7)
 (sliceV tab 24 v23 none (some (AV.p (.int .i64 1))) none fun v31=>
 bS_ tab 26 3 [(0,v22),(1,v23),(2,v31)] H6 (wkK fun v32 H8=>
 CallT Tryz.prog 32 [v32] H8 fun v33 H9=>
 bS_ tab 24 0 [] H9 (wkK fun v34 H10=>
 L7_0 K v1 v2 v22 v33 v34 (AV.p (.int .i64 1)) H10))))
theorem W7_wp (v0:AV) (H:Heap) (K:AV→Heap→Prop):wpC Tryz.prog tab D7 (bO_ Tryz.f7) (retF tab [.cell 2 31,.tmp 3] K) (nthA [v0]) H=W7 v0 H K:=by kernel_rfl
theorem W7_ok {v0:AV} {H:Heap} {K:AV→Heap→Prop} (h:W7 v0 H K):CallT Tryz.prog 7 [v0] H K:=
 CallT.of_wp (D:=D7) tO_ mixed Tryz.func7 (c:=bO_ Tryz.f7) (by kernel_rfl) rfl (by kernel_rfl) (rs:=#[.cell 2 31,.tmp 3]) rfl (by decide +kernel) (by kernel_rfl) (W7_wp v0 H K) h
theorem L7_0_rule {K:AV→Heap→Prop} {v1 v2 v4 v7 v8 v9:AV} {H:Heap} {σ:Type} (s0:σ) (f8:σ→AV) (f9:σ→AV) (TH:σ→Heap) (pre:σ→Prop) (μ:σ→Nat)
  (h0:pre s0∧AV.wk v8 (f8 s0)∧AV.wk v9 (f9 s0)∧Heap.le (TH s0) H)
  (round:∀s,pre s→B7_0 K (fun w8 w9 H'=>∃s',pre s'∧μ s' < μ s∧AV.wk w8 (f8 s')∧AV.wk w9 (f9 s')∧Heap.le (TH s') H') v1 v2 v4 v7 (f8 s) (f9 s) (TH s)) :
  L7_0 K v1 v2 v4 v7 v8 v9 H:=by
 unfold L7_0
 exact LoopV.mk s0 (fun s=>[f8 s,f9 s]) TH pre μ (fun _=>rfl) (Eq.mp (by kernel_rfl) h0) (fun s hs=>Eq.mp (by kernel_rfl) (round s hs))
def D8:Info:=⟨76,fun i=>if i=3 then ([[],[0],[],[2],[],[4],[0,1,2,3,4,5],[0,1,2,3,4,5,6],[0,1,2,3,4,5,6,7],[0,1,2,3,4,5,6,7],[0,1,2,3,4,5,6,7],[0,1,2,3,4,5,6,7,8],[0,1,2,3,4,5,6,7,8,9,11],[0,1,2,3,4,5,6,7,8,9,10,11,12]],[(0,[]),(2,[]),(3,[]),(4,[]),(5,[]),(1,[3,5]),(6,[]),(7,[]),(8,[]),(9,[]),(10,[]),(11,[]),(12,[]),(13,[])]) else if i=6 then ([[],[0],[],[0,1,2],[],[4],[4,5],[4,5,6],[0,1,2,3,4,5,6,7],[0,1,2,3,4,5,6,7,8]],[(0,[]),(2,[]),(4,[]),(5,[]),(6,[]),(1,[7,6]),(3,[7,6]),(7,[7]),(8,[]),(9,[])]) else if i=11 then ([[],[],[],[1,2],[1,2,3],[],[],[6],[5,6,7],[5,6,7,8],[0,1,2,3,4,5,6,7,8,9],[0,1,2,3,4,5,6,7,8,9,10]],[(0,[]),(1,[]),(2,[]),(3,[]),(4,[]),(5,[]),(6,[]),(7,[]),(8,[]),(9,[]),(10,[]),(11,[])]) else ([],[]),fun i=>if i=9 then ([1,2,4,7,8],[9]) else ([],[])⟩
def L8_0 (K:AV→Heap→Prop) (v1:AV) (v2:AV) (v4:AV) (v7:AV) (v8:AV) (v9:AV) (H:Heap):Prop:=LoopV (wpC Tryz.prog tab D8 (cAt [1,1,1,1,1,1,0,1,0,0] (bO_ Tryz.f8))) [1,2,4,7,8] (PostF.block 0 (PostF.thenA (wpC Tryz.prog tab D8 (cAt [1,1,1,1,1,1,1] (bO_ Tryz.f8))) (retF tab [.cell 2 31,.tmp 3] K))) [9] [Q_,v1,v2,Q_,v4,Q_,Q_,v7,v8,v9,Q_,Q_,Q_,Q_,Q_,Q_,Q_,Q_,Q_,Q_,Q_,Q_,Q_,Q_,Q_,Q_,Q_,Q_,Q_,Q_,Q_,Q_,Q_,Q_,Q_,Q_,Q_,Q_,Q_,Q_,Q_,Q_,Q_,Q_,Q_,Q_,Q_,Q_,Q_,Q_,Q_,Q_,Q_,Q_,Q_,Q_,Q_,Q_,Q_,Q_,Q_,Q_,Q_,Q_,Q_,Q_,Q_,Q_,Q_,Q_,Q_,Q_,Q_,Q_,Q_,Q_] H
def B8_0 (K:AV→Heap→Prop) (N1:AV→Heap→Prop) (v1:AV) (v2:AV) (v4:AV) (v7:AV) (v8:AV) (v9:AV) (H:Heap):Prop:=
 binV tab .add 3 v9 (AV.p (.int .i64 1)) fun v39=>
 lenV tab 24 v7 fun v41=>
 binV tab .lss 3 v39 v41 fun v42=>
 cV_ v42 (lV_ tab 28 v1 H fun v45=>
 iA_ tab 24 v7 v9 fun v48=>
 lV_ tab 3 v48 H fun v49=>
 binV tab .add 3 v9 (AV.p (.int .i64 1)) fun v52=>
 iA_ tab 24 v7 v52 fun v53=>
 lV_ tab 3 v53 H fun v54=>
 CallT Tryz.prog 39 [v45,v49,v54] H fun v55 H13=>
 lenV tab 24 v4 fun v58=>
 binV tab .lss 3 v9 v58 fun v59=>
 cV_ v59 (fA_ tab 31 v8 0 fun v60=>
 lV_ tab 24 v60 H13 fun v61=>
 bS_ tab 24 1 [(0,v55)] H13 (wkK fun v63 H14=>
 aP_ tab 24 24 v61 v63 H14 (wkK fun v64 H15=>
 fA_ tab 31 v8 0 fun v65=>
 sV_ tab 24 v65 v64 H15 fun H16=>
 binV tab .add 3 v9 (AV.p (.int .i64 1)) fun v44=>
 N1 v44 H16)))
 (fA_ tab 31 v8 1 fun v66=>
 lV_ tab 24 v66 H13 fun v67=>
 bS_ tab 24 1 [(0,v55)] H13 (wkK fun v69 H17=>
 aP_ tab 24 24 v67 v69 H17 (wkK fun v70 H18=>
 fA_ tab 31 v8 1 fun v71=>
 sV_ tab 24 v71 v70 H18 fun H19=>
 binV tab .add 3 v9 (AV.p (.int .i64 1)) fun v44=>
 N1 v44 H19))))
 (lV_ tab 31 v8 H fun v72=>
 CallT Tryz.prog 40 [v72] H fun v73 H20=>
 xV_ v73 0 fun v74=>
 xV_ v73 1 fun v75=>
 sV_ tab 31 v2 v74 H20 fun H21=>
 lV_ tab 31 v2 H21 fun r0=>
 K (.tup [r0,v75]) H21)
def W8 (v0:AV) (H:Heap) (K:AV→Heap→Prop):Prop:=
 boxV v0 H fun v1 H1=>
 allocV tab 31 H1 fun v2 H2=>
 lV_ tab 28 v1 H2 fun v11=>
 CallT Tryz.prog 35 [v11] H2 fun v12 H3=>
 unV .not v12 fun v13=>
 cV_ v13 (buildV tab 31 [] fun v14=>
 sV_ tab 31 v2 v14 H3 fun H4=>
 lV_ tab 31 v2 H4 fun r0=>
 K (.tup [r0,(AV.p (.bool false))]) H4)
 (lV_ tab 28 v1 H3 fun v16=>
 fA_ tab 28 v1 1 fun v18=>
 lV_ tab 24 v18 H3 fun v19=>
 fA_ tab 28 v1 3 fun v20=>
 lV_ tab 26 v20 H3 fun v21=>
 CallT Tryz.prog 37 [v16] H3 fun v17 H5=>
 (lV_ tab 24 v18 H5 fun v9019=>
 v19=v9019)∧
 (lV_ tab 26 v20 H5 fun v9021=>
 v21=v9021)∧
 CallT Tryz.prog 36 [v17,v19,v21] H5 fun v22 H6=>
 xV_ v22 0 fun v23=>
 xV_ v22 1 fun v24=>
 xV_ v22 2 fun v25=>
 unV .not v25 fun v27=>
 cV_ v27 (buildV tab 31 [] fun v28=>
 sV_ tab 31 v2 v28 H6 fun H7=>
 lV_ tab 31 v2 H7 fun r0=>
 K (.tup [r0,(AV.p (.bool false))]) H7)
 (iA_ tab 24 v24 (AV.p (.int .i64 0)) fun v34=>
 lV_ tab 3 v34 H6 fun v35=>
 safeV (buildN tab 24 1 [(0,v35)])∧
 CallT Tryz.prog 38 [v23] H6 fun v30 H8=>
 (lV_ tab 3 v34 H8 fun v9035=>
 v35=v9035)∧
 safeV (buildN tab 24 1 [(0,v35)])∧
 aP_ tab 24 24 v30 v24 H8 (wkK fun v32 H9=>
 (lV_ tab 3 v34 H9 fun v9035=>
 v35=v9035)∧
 newV (buildN tab 24 1 [(0,v35)]) H9 fun v36 H10=>
 aP_ tab 24 24 v32 v36 H10 (wkK fun v37 H11=>
 allocV tab 31 H11 fun v8 H12=>
 L8_0 K v1 v2 v23 v37 v8 (AV.p (.int .i64 0)) H12))))
theorem W8_wp (v0:AV) (H:Heap) (K:AV→Heap→Prop):wpC Tryz.prog tab D8 (bO_ Tryz.f8) (retF tab [.cell 2 31,.tmp 3] K) (nthA [v0]) H=W8 v0 H K:=by kernel_rfl
theorem W8_ok {v0:AV} {H:Heap} {K:AV→Heap→Prop} (h:W8 v0 H K):CallT Tryz.prog 8 [v0] H K:=
 CallT.of_wp (D:=D8) tO_ mixed Tryz.func8 (c:=bO_ Tryz.f8) (by kernel_rfl) rfl (by kernel_rfl) (rs:=#[.cell 2 31,.tmp 3]) rfl (by decide +kernel) (by kernel_rfl) (W8_wp v0 H K) h
theorem W8_hb:HasBody Tryz.prog 8:=⟨_,bO_ Tryz.f8,Tryz.func8,by kernel_rfl,rfl⟩
theorem L8_0_rule {K:AV→Heap→Prop} {v1 v2 v4 v7 v8 v9:AV} {H:Heap} {σ:Type} (s0:σ) (f9:σ→AV) (TH:σ→Heap) (pre:σ→Prop) (μ:σ→Nat)
  (h0:pre s0∧AV.wk v9 (f9 s0)∧Heap.le (TH s0) H)
  (round:∀s,pre s→B8_0 K (fun w9 H'=>∃s',pre s'∧μ s' < μ s∧AV.wk w9 (f9 s')∧Heap.le (TH s') H') v1 v2 v4 v7 v8 (f9 s) (TH s)) :
  L8_0 K v1 v2 v4 v7 v8 v9 H:=by
 unfold L8_0
 exact LoopV.mk s0 (fun s=>[f9 s]) TH pre μ (fun _=>rfl) (Eq.mp (by kernel_rfl) h0) (fun s hs=>Eq.mp (by kernel_rfl) (round s hs))
def D9:Info:=⟨15,fun i=>if i=3 then ([[],[0],[],[2],[],[4],[0,1,2,3,4,5],[0,1,2,3,4,5,6],[0,1,2,3,4,5,6,7],[0,1,2,3,4,5,6,7,8]],[(0,[]),(2,[]),(3,[]),(4,[]),(5,[]),(1,[3,5]),(6,[]),(7,[]),(8,[]),(9,[])]) else ([],[]),fun i=>([],[])⟩
def W9 (v0:AV) (H:Heap) (K:AV→Heap→Prop):Prop:=
 boxV v0 H fun v1 H1=>
 lV_ tab 28 v1 H1 fun v4=>
 CallT Tryz.prog 29 [v4] H1 fun v5 H2=>
 unV .not v5 fun v6=>
 cV_ v6 (K (.tup [(AV.p (.bool false)),(AV.p (.bool false))]) H2)
 (lV_ tab 28 v1 H2 fun v7=>
 fA_ tab 28 v1 1 fun v9=>
 lV_ tab 24 v9 H2 fun v10=>
 fA_ tab 28 v1 3 fun v11=>
 lV_ tab 26 v11 H2 fun v12=>
 CallT Tryz.prog 31 [v7] H2 fun v8 H3=>
 (lV_ tab 24 v9 H3 fun v9010=>
 v10=v9010)∧
 (lV_ tab 26 v11 H3 fun v9012=>
 v12=v9012)∧
 CallT Tryz.prog 41 [v8,v10,v12] H3 fun v13 H4=>
 binV tab .lss 3 v13 (AV.p (.int .i64 0)) fun v14=>
 K (.tup [v14,(AV.p (.bool true))]) H4)
theorem W9_wp (v0:AV) (H:Heap) (K:AV→Heap→Prop):wpC Tryz.prog tab D9 (bO_ Tryz.f9) (retF tab [.tmp 2,.tmp 3] K) (nthA [v0]) H=W9 v0 H K:=by kernel_rfl
theorem W9_ok {v0:AV} {H:Heap} {K:AV→Heap→Prop} (h:W9 v0 H K):CallT Tryz.prog 9 [v0] H K:=
 CallT.of_wp (D:=D9) tO_ mixed Tryz.func9 (c:=bO_ Tryz.f9) (by kernel_rfl) rfl (by kernel_rfl) (rs:=#[.tmp 2,.tmp 3]) rfl (by decide +kernel) (by kernel_rfl) (W9_wp v0 H K) h
def D10:Info:=⟨23,fun i=>if i=3 then ([[],[0],[],[2],[],[4],[0,1,2,3,4,5],[0,1,2,3,4,5,6],[0,1,2,3,4,5,6,7],[0,1,2,3,4,5,6,7],[0,1,2,3,4,5,6,7],[0,1,2,3,4,5,6,7,8],[0,1,2,3,4,5,6,7,8,9,11],[0,1,2,3,4,5,6,7,8,9,10,11,12]],[(0,[]),(2,[]),(3,[]),(4,[]),(5,[]),(1,[3,5]),(6,[]),(7,[]),(8,[]),(9,[]),(10,[]),(11,[]),(12,[]),(13,[])]) else ([],[]),fun i=>([],[])⟩
def W10 (v0:AV) (H:Heap) (K:AV→Heap→Prop):Prop:=
 boxV v0 H fun v1 H1=>
 lV_ tab 28 v1 H1 fun v7=>
 CallT Tryz.prog 35 [v7] H1 fun v8 H2=>
 unV .not v8 fun v9=>
 cV_ v9 (K (.tup [(AV.p (.bool false)),(AV.p (.bool false))]) H2)
 (lV_ tab 28 v1 H2 fun v11=>
 fA_ tab 28 v1 1 fun v13=>
 lV_ tab 24 v13 H2 fun v14=>
 fA_ tab 28 v1 3 fun v15=>
 lV_ tab 26 v15 H2 fun v16=>
 CallT Tryz.prog 37 [v11] H2 fun v12 H3=>
 (lV_ tab 24 v13 H3 fun v9014=>
 v14=v9014)∧
 (lV_ tab 26 v15 H3 fun v9016=>
 v16=v9016)∧
 CallT Tryz.prog 36 [v12,v14,v16] H3 fun v17 H4=>
 xV_ v17 0 fun v18=>
 xV_ v17 1 fun v19=>
 xV_ v17 2 fun v20=>
 unV .not v20 fun v22=>
 K (.tup [v22,(AV.p (.bool true))]) H4)
theorem W10_wp (v0:AV) (H:Heap) (K:AV→Heap→Prop):wpC Tryz.prog tab D10 (bO_ Tryz.f10) (retF tab [.tmp 2,.tmp 3] K) (nthA [v0]) H=W10 v0 H K:=by kernel_rfl
theorem W10_ok {v0:AV} {H:Heap} {K:AV→Heap→Prop} (h:W10 v0 H K):CallT Tryz.prog 10 [v0] H K:=
 CallT.of_wp (D:=D10) tO_ mixed Tryz.func10 (c:=bO_ Tryz.f10) (by kernel_rfl) rfl (by kernel_rfl) (rs:=#[.tmp 2,.tmp 3]) rfl (by decide +kernel) (by kernel_rfl) (W10_wp v0 H K) h
def D11:Info:=⟨17,fun i=>([],[]),fun i=>([],[])⟩
def W11 (v0:AV) (v1:AV) (H:Heap) (K:AV→Heap→Prop):Prop:=
 boxV v0 H fun v2 H1=>
 boxV v1 H1 fun v3 H2=>
 fA_ tab 31 v2 0 fun v5=>
 lV_ tab 24 v5 H2 fun v6=>
 fA_ tab 31 v3 0 fun v7=>
 lV_ tab 24 v7 H2 fun v8=>
 CallT Tryz.prog 26 [v6,v8] H2 fun v9 H3=>
 grdV v9 true (fA_ tab 31 v2 1 fun v11=>
 lV_ tab 24 v11 H3 fun v12=>
 fA_ tab 31 v3 1 fun v13=>
 lV_ tab 24 v13 H3 fun v14=>
 CallT Tryz.prog 26 [v12,v14] H3 fun v15 H4=>
 K v15 H4)
 (K (AV.p (.bool false)) H3)
theorem W11_wp (v0:AV) (v1:AV) (H:Heap) (K:AV→Heap→Prop):wpC Tryz.prog tab D11 (bO_ Tryz.f11) (retF tab [.tmp 4] K) (nthA [v0,v1]) H=W11 v0 v1 H K:=by kernel_rfl
theorem W11_ok {v0 v1:AV} {H:Heap} {K:AV→Heap→Prop} (h:W11 v0 v1 H K):CallT Tryz.prog 11 [v0,v1] H K:=
 CallT.of_wp (D:=D11) tO_ mixed Tryz.func11 (c:=bO_ Tryz.f11) (by kernel_rfl) rfl (by kernel_rfl) (rs:=#[.tmp 4]) rfl (by decide +kernel) (by kernel_rfl) (W11_wp v0 v1 H K) h
def D12:Info:=⟨124,fun i=>if i=11 then ([[],[0],[],[],[2,3],[0,1,2,3,4]],[(0,[]),(1,[]),(2,[]),(3,[]),(4,[1]),(5,[])]) else if i=13 then ([[],[],[],[],[2,3],[2,3,4],[],[],[6,7],[],[9],[6,7,8,9,10],[],[12],[6,7,8,9,10,11,12,13],[6,7,8,9,10,11,12,13,14],[2,3,4,5,6,7,8,9,10,11,12,13,14,15],[0,1,2,3,4,5,6,7,8,9,10,11,12,13,14,15,16],[0,1,2,3,4,5,6,7,8,9,10,11,12,13,14,15,16,17]],[(0,[]),(1,[]),(2,[]),(3,[]),(4,[]),(5,[]),(6,[]),(7,[]),(9,[]),(10,[]),(12,[]),(13,[]),(8,[5,10,13]),(11,[]),(14,[]),(15,[5]),(16,[]),(17,[]),(18,[])]) else ([],[]),fun i=>if i=6 then ([2,3,6,7,8,40],[41]) else if i=9 then ([2,3,6,7,8,9,40,41,45,46],[47]) else if i=17 then ([2,6,7,85,86],[8,87]) else if i=21 then ([2,6,7,8,14,85,86,87,92],[15,93]) else if i=24 then ([2,6,7,8,14,16,85,86,87,92,93,96,97],[15,98]) else ([],[])⟩
def L12_0 (K:AV→Heap→Prop) (v2:AV) (v3:AV) (v6:AV) (v7:AV) (v8:AV) (v40:AV) (v41:AV) (H:Heap):Prop:=LoopV (wpC Tryz.prog tab D12 (cAt [1,1,1,1,0,1,0,0] (bO_ Tryz.f12))) [2,3,6,7,8,40] (PostF.block 0 (PostF.thenA (wpC Tryz.prog tab D12 (cAt [1,1,1,1,1] (bO_ Tryz.f12))) (retF tab [.tmp 4,.tmp 5] K))) [41] [Q_,Q_,v2,v3,Q_,Q_,v6,v7,v8,Q_,Q_,Q_,Q_,Q_,Q_,Q_,Q_,Q_,Q_,Q_,Q_,Q_,Q_,Q_,Q_,Q_,Q_,Q_,Q_,Q_,Q_,Q_,Q_,Q_,Q_,Q_,Q_,Q_,Q_,Q_,v40,v41,Q_,Q_,Q_,Q_,Q_,Q_,Q_,Q_,Q_,Q_,Q_,Q_,Q_,Q_,Q_,Q_,Q_,Q_,Q_,Q_,Q_,Q_,Q_,Q_,Q_,Q_,Q_,Q_,Q_,Q_,Q_,Q_,Q_,Q_,Q_,Q_,Q_,Q_,Q_,Q_,Q_,Q_,Q_,Q_,Q_,Q_,Q_,Q_,Q_,Q_,Q_,Q_,Q_,Q_,Q_,Q_,Q_,Q_,Q_,Q_,Q_,Q_,Q_,Q_,Q_,Q_,Q_,Q_,Q_,Q_,Q_,Q_,Q_,Q_,Q_,Q_,Q_,Q_,Q_,Q_,Q_,Q_] H
def L12_1 (K:AV→Heap→Prop) (N1:AV→Heap→Prop) (v2:AV) (v3:AV) (v6:AV) (v7:AV) (v8:AV) (v9:AV) (v40:AV) (v41:AV) (v45:AV) (v46:AV) (v47:AV) (H:Heap):Prop:=LoopV (wpC Tryz.prog tab D12 (cAt [1,1,1,1,0,1,0,0,1,1,0,0,1,1,0,0] (bO_ Tryz.f12))) [2,3,6,7,8,9,40,41,45,46] (PostF.block 2 (PostF.block 1 (PostF.thenA (wpC Tryz.prog tab D12 (cAt [1,1,1,1,0,1,0,0,1,1,1] (bO_ Tryz.f12))) (loopF (PostF.block 0 (PostF.thenA (wpC Tryz.prog tab D12 (cAt [1,1,1,1,1] (bO_ Tryz.f12))) (retF tab [.tmp 4,.tmp 5] K))) (fun e h=>N1 (e 41) h))))) [47] [Q_,Q_,v2,v3,Q_,Q_,v6,v7,v8,v9,Q_,Q_,Q_,Q_,Q_,Q_,Q_,Q_,Q_,Q_,Q_,Q_,Q_,Q_,Q_,Q_,Q_,Q_,Q_,Q_,Q_,Q_,Q_,Q_,Q_,Q_,Q_,Q_,Q_,Q_,v40,v41,Q_,Q_,Q_,v45,v46,v47,Q_,Q_,Q_,Q_,Q_,Q_,Q_,Q_,Q_,Q_,Q_,Q_,Q_,Q_,Q_,Q_,Q_,Q_,Q_,Q_,Q_,Q_,Q_,Q_,Q_,Q_,Q_,Q_,Q_,Q_,Q_,Q_,Q_,Q_,Q_,Q_,Q_,Q_,Q_,Q_,Q_,Q_,Q_,Q_,Q_,Q_,Q_,Q_,Q_,Q_,Q_,Q_,Q_,Q_,Q_,Q_,Q_,Q_,Q_,Q_,Q_,Q_,Q_,Q_,Q_,Q_,Q_,Q_,Q_,Q_,Q_,Q_,Q_,Q_,Q_,Q_] H
def B12_1 (K:AV→Heap→Prop) (N1:AV→Heap→Prop) (N2:AV→Heap→Prop) (v2:AV) (v3:AV) (v6:AV) (v7:AV) (v8:AV) (v9:AV) (v40:AV) (v41:AV) (v45:AV) (v46:AV) (v47:AV) (H:Heap):Prop:=
 binV tab .lss 3 v47 v46 fun v48=>
 cV_ v48 (iA_ tab 25 v45 v47 fun v49=>
 lV_ tab 66 v49 H fun v50=>
 allocV tab 66 H fun v11 H7=>
 sV_ tab 66 v11 v50 H7 fun H8=>
 fA_ tab 66 v11 1 fun v51=>
 lV_ tab 3 v51 H8 fun v52=>
 lV_ tab 31 v3 H8 fun v53=>
 CallT Tryz.prog 43 [v53,v9] H8 fun v55 H9=>
 (lV_ tab 3 v51 H9 fun v9052=>
 v52=v9052)∧
 binV tab .eql 3 v52 v55 fun v56=>
 cV_ v56 (fA_ tab 28 v2 0 fun v58=>
 lV_ tab 3 v58 H9 fun v59=>
 binV tab .mul 3 v9 v59 fun v60=>
 fA_ tab 66 v11 0 fun v61=>
 lV_ tab 3 v61 H9 fun v62=>
 binV tab .add 3 v60 v62 fun v63=>
 iA_ tab 26 v7 v63 fun v68=>
 lV_ tab 24 v68 H9 fun v69=>
 lV_ tab 31 v3 H9 fun v70=>
 fA_ tab 28 v2 0 fun v73=>
 lV_ tab 3 v73 H9 fun v74=>
 fA_ tab 66 v11 2 fun v76=>
 lV_ tab 3 v76 H9 fun v77=>
 CallT Tryz.prog 44 [v70,v9] H9 fun v72 H10=>
 (lV_ tab 24 v68 H10 fun v9069=>
 v69=v9069)∧
 (lV_ tab 3 v73 H10 fun v9074=>
 v74=v9074)∧
 (lV_ tab 3 v76 H10 fun v9077=>
 v77=v9077)∧
 binV tab .mul 3 v72 v74 fun v75=>
 binV tab .add 3 v75 v77 fun v78=>
 bS_ tab 24 1 [(0,v78)] H10 (wkK fun v79 H11=>
 (lV_ tab 24 v68 H11 fun v9069=>
 v69=v9069)∧
 aP_ tab 24 24 v69 v79 H11 (wkK fun v80 H12=>
 iA_ tab 26 v7 v63 fun v81=>
 sV_ tab 24 v81 v80 H12 fun H13=>
 binV tab .add 3 v47 (AV.p (.int .i64 1)) fun v82=>
 N2 v82 H13)))
 (binV tab .add 3 v47 (AV.p (.int .i64 1)) fun v82=>
 N2 v82 H9))
 (binV tab .add 3 v41 (AV.p (.int .i64 1)) fun v83=>
 N1 v83 H)
def L12_2 (K:AV→Heap→Prop) (v2:AV) (v6:AV) (v7:AV) (v8:AV) (v85:AV) (v86:AV) (v87:AV) (H:Heap):Prop:=LoopV (wpC Tryz.prog tab D12 (cAt [1,1,1,1,1,0,1,0,0] (bO_ Tryz.f12))) [2,6,7,85,86] (PostF.block 4 (PostF.thenA (wpC Tryz.prog tab D12 (cAt [1,1,1,1,1,1] (bO_ Tryz.f12))) (retF tab [.tmp 4,.tmp 5] K))) [8,87] [Q_,Q_,v2,Q_,Q_,Q_,v6,v7,v8,Q_,Q_,Q_,Q_,Q_,Q_,Q_,Q_,Q_,Q_,Q_,Q_,Q_,Q_,Q_,Q_,Q_,Q_,Q_,Q_,Q_,Q_,Q_,Q_,Q_,Q_,Q_,Q_,Q_,Q_,Q_,Q_,Q_,Q_,Q_,Q_,Q_,Q_,Q_,Q_,Q_,Q_,Q_,Q_,Q_,Q_,Q_,Q_,Q_,Q_,Q_,Q_,Q_,Q_,Q_,Q_,Q_,Q_,Q_,Q_,Q_,Q_,Q_,Q_,Q_,Q_,Q_,Q_,Q_,Q_,Q_,Q_,Q_,Q_,Q_,Q_,v85,v86,v87,Q_,Q_,Q_,Q_,Q_,Q_,Q_,Q_,Q_,Q_,Q_,Q_,Q_,Q_,Q_,Q_,Q_,Q_,Q_,Q_,Q_,Q_,Q_,Q_,Q_,Q_,Q_,Q_,Q_,Q_,Q_,Q_,Q_,Q_,Q_,Q_] H
def L12_3 (K:AV→Heap→Prop) (N1:AV→AV→Heap→Prop) (v2:AV) (v6:AV) (v7:AV) (v8:AV) (v14:AV) (v15:AV) (v85:AV) (v86:AV) (v87:AV) (v92:AV) (v93:AV) (H:Heap):Prop:=LoopV (wpC Tryz.prog tab D12 (cAt [1,1,1,1,1,0,1,0,0,1,1,0,0,1,1,0,1,0,0] (bO_ Tryz.f12))) [2,6,7,8,14,85,86,87,92] (PostF.block 6 (PostF.thenA (wpC Tryz.prog tab D12 (cAt [1,1,1,1,1,0,1,0,0,1,1,0,0,1,1,1] (bO_ Tryz.f12))) (PostF.block 5 (PostF.thenA (wpC Tryz.prog tab D12 (cAt [1,1,1,1,1,0,1,0,0,1,1,1] (bO_ Tryz.f12))) (loopF (PostF.block 4 (PostF.thenA (wpC Tryz.prog tab D12 (cAt [1,1,1,1,1,1] (bO_ Tryz.f12))) (retF tab [.tmp 4,.tmp 5] K))) (fun e h=>N1 (e 8) (e 87) h)))))) [15,93] [Q_,Q_,v2,Q_,Q_,Q_,v6,v7,v8,Q_,Q_,Q_,Q_,Q_,v14,v15,Q_,Q_,Q_,Q_,Q_,Q_,Q_,Q_,Q_,Q_,Q_,Q_,Q_,Q_,Q_,Q_,Q_,Q_,Q_,Q_,Q_,Q_,Q_,Q_,Q_,Q_,Q_,Q_,Q_,Q_,Q_,Q_,Q_,Q_,Q_,Q_,Q_,Q_,Q_,Q_,Q_,Q_,Q_,Q_,Q_,Q_,Q_,Q_,Q_,Q_,Q_,Q_,Q_,Q_,Q_,Q_,Q_,Q_,Q_,Q_,Q_,Q_,Q_,Q_,Q_,Q_,Q_,Q_,Q_,v85,v86,v87,Q_,Q_,Q_,Q_,v92,v93,Q_,Q_,Q_,Q_,Q_,Q_,Q_,Q_,Q_,Q_,Q_,Q_,Q_,Q_,Q_,Q_,Q_,Q_,Q_,Q_,Q_,Q_,Q_,Q_,Q_,Q_,Q_,Q_,Q_,Q_] H
def L12_4 (K:AV→Heap→Prop) (N1:AV→AV→Heap→Prop) (N2:AV→AV→Heap→Prop) (v2:AV) (v6:AV) (v7:AV) (v8:AV) (v14:AV) (v15:AV) (v16:AV) (v85:AV) (v86:AV) (v87:AV) (v92:AV) (v93:AV) (v96:AV) (v97:AV) (v98:AV) (H:Heap):Prop:=LoopV (wpC Tryz.prog tab D12 (cAt [1,1,1,1,1,0,1,0,0,1,1,0,0,1,1,0,1,0,0,1,1,0,0,1,1,0,0] (bO_ Tryz.f12))) [2,6,7,8,14,16,85,86,87,92,93,96,97] (PostF.block 8 (PostF.block 7 (PostF.thenA (wpC Tryz.prog tab D12 (cAt [1,1,1,1,1,0,1,0,0,1,1,0,0,1,1,0,1,0,0,1,1,1] (bO_ Tryz.f12))) (loopF (PostF.block 6 (PostF.thenA (wpC Tryz.prog tab D12 (cAt [1,1,1,1,1,0,1,0,0,1,1,0,0,1,1,1] (bO_ Tryz.f12))) (PostF.block 5 (PostF.thenA (wpC Tryz.prog tab D12 (cAt [1,1,1,1,1,0,1,0,0,1,1,1] (bO_ Tryz.f12))) (loopF (PostF.block 4 (PostF.thenA (wpC Tryz.prog tab D12 (cAt [1,1,1,1,1,1] (bO_ Tryz.f12))) (retF tab [.tmp 4,.tmp 5] K))) (fun e h=>N1 (e 8) (e 87) h)))))) (fun e h=>N2 (e 15) (e 93) h))))) [15,98] [Q_,Q_,v2,Q_,Q_,Q_,v6,v7,v8,Q_,Q_,Q_,Q_,Q_,v14,v15,v16,Q_,Q_,Q_,Q_,Q_,Q_,Q_,Q_,Q_,Q_,Q_,Q_,Q_,Q_,Q_,Q_,Q_,Q_,Q_,Q_,Q_,Q_,Q_,Q_,Q_,Q_,Q_,Q_,Q_,Q_,Q_,Q_,Q_,Q_,Q_,Q_,Q_,Q_,Q_,Q_,Q_,Q_,Q_,Q_,Q_,Q_,Q_,Q_,Q_,Q_,Q_,Q_,Q_,Q_,Q_,Q_,Q_,Q_,Q_,Q_,Q_,Q_,Q_,Q_,Q_,Q_,Q_,Q_,v85,v86,v87,Q_,Q_,Q_,Q_,v92,v93,Q_,Q_,v96,v97,v98,Q_,Q_,Q_,Q_,Q_,Q_,Q_,Q_,Q_,Q_,Q_,Q_,Q_,Q_,Q_,Q_,Q_,Q_,Q_,Q_,Q_,Q_,Q_,Q_,Q_] H
def B12_4 (K:AV→Heap→Prop) (N1:AV→AV→Heap→Prop) (N2:AV→AV→Heap→Prop) (N3:AV→AV→Heap→Prop) (v2:AV) (v6:AV) (v7:AV) (v8:AV) (v14:AV) (v15:AV) (v16:AV) (v85:AV) (v86:AV) (v87:AV) (v92:AV) (v93:AV) (v96:AV) (v97:AV) (v98:AV) (H:Heap):Prop:=
 binV tab .lss 3 v98 v97 fun v99=>
 cV_ v99 (iA_ tab 24 v96 v98 fun v100=>
 lV_ tab 3 v100 H fun v101=>
 fA_ tab 28 v2 0 fun v104=>
 lV_ tab 3 v104 H fun v105=>
 binV tab .mul 3 v16 v105 fun v106=>
 binV tab .add 3 v106 v101 fun v108=>
 bS_ tab 24 1 [(0,v108)] H (wkK fun v109 H15=>
 aP_ tab 24 24 v15 v109 H15 (wkK fun v110 H16=>
 binV tab .add 3 v98 (AV.p (.int .i64 1)) fun v111=>
 N3 v110 v111 H16)))
 (binV tab .add 3 v93 (AV.p (.int .i64 1)) fun v112=>
 N2 v15 v112 H)
def B12_3 (K:AV→Heap→Prop) (N1:AV→AV→Heap→Prop) (N2:AV→AV→Heap→Prop) (v2:AV) (v6:AV) (v7:AV) (v8:AV) (v14:AV) (v15:AV) (v85:AV) (v86:AV) (v87:AV) (v92:AV) (v93:AV) (H:Heap):Prop:=
 binV tab .lss 3 v93 v92 fun v94=>
 cV_ v94 (lenV tab 24 v14 fun v97=>
 L12_4 K N1 N2 v2 v6 v7 v8 v14 v15 v93 v85 v86 v87 v92 v93 v14 v97 (AV.p (.int .i64 0)) H)
 (bS_ tab 26 1 [(0,v15)] H (wkK fun v115 H17=>
 aP_ tab 26 26 v8 v115 H17 (wkK fun v116 H18=>
 binV tab .add 3 v87 (AV.p (.int .i64 1)) fun v117=>
 N1 v116 v117 H18)))
def B12_2 (K:AV→Heap→Prop) (N1:AV→AV→Heap→Prop) (v2:AV) (v6:AV) (v7:AV) (v8:AV) (v85:AV) (v86:AV) (v87:AV) (H:Heap):Prop:=
 binV tab .lss 3 v87 v86 fun v88=>
 cV_ v88 (iA_ tab 26 v85 v87 fun v89=>
 lV_ tab 24 v89 H fun v90=>
 bS_ tab 24 0 [] H (wkK fun v91 H14=>
 L12_3 K N1 v2 v6 v7 v8 v90 v91 v85 v86 v87 v6 (AV.p (.int .i64 0)) H14))
 (fA_ tab 28 v2 1 fun v119=>
 lV_ tab 24 v119 H fun v120=>
 CallT Tryz.prog 41 [v7,v120,v8] H fun v122 H19=>
 binV tab .geq 3 v122 (AV.p (.int .i64 0)) fun v123=>
 K (.tup [v123,(AV.p (.bool true))]) H19)
def B12_0 (K:AV→Heap→Prop) (N1:AV→Heap→Prop) (v2:AV) (v3:AV) (v6:AV) (v7:AV) (v8:AV) (v40:AV) (v41:AV) (H:Heap):Prop:=
 binV tab .lss 3 v41 v40 fun v42=>
 cV_ v42 (fA_ tab 28 v2 2 fun v44=>
 lV_ tab 25 v44 H fun v45=>
 lenV tab 25 v45 fun v46=>
 L12_1 K N1 v2 v3 v6 v7 v8 v41 v40 v41 v45 v46 (AV.p (.int .i64 0)) H)
 (fA_ tab 28 v2 3 fun v84=>
 lV_ tab 26 v84 H fun v85=>
 lenV tab 26 v85 fun v86=>
 L12_2 K v2 v6 v7 v8 v85 v86 (AV.p (.int .i64 0)) H)
def W12 (v0:AV) (v1:AV) (H:Heap) (K:AV→Heap→Prop):Prop:=
 boxV v0 H fun v2 H1=>
 boxV v1 H1 fun v3 H2=>
 lV_ tab 28 v2 H2 fun v19=>
 CallT Tryz.prog 29 [v19] H2 fun v20 H3=>
 unV .not v20 fun v21=>
 grdV v21 false (lV_ tab 31 v3 H3 fun v23=>
 CallT Tryz.prog 42 [v23] H3 fun v24 H4=>
 unV .not v24 fun v25=>
 cV_ v25 (K (.tup [(AV.p (.bool false)),(AV.p (.bool false))]) H4)
 (fA_ tab 31 v3 0 fun v27=>
 lV_ tab 24 v27 H4 fun v28=>
 lenV tab 24 v28 fun v29=>
 fA_ tab 31 v3 1 fun v30=>
 lV_ tab 24 v30 H4 fun v31=>
 lenV tab 24 v31 fun v32=>
 binV tab .add 3 v29 v32 fun v33=>
 fA_ tab 28 v2 0 fun v35=>
 lV_ tab 3 v35 H4 fun v36=>
 binV tab .mul 3 v33 v36 fun v37=>
 mS_ tab 26 v37 v37 H4 fun v38 H5=>
 bS_ tab 26 0 [] H5 (wkK fun v39 H6=>
 L12_0 K v2 v3 v33 v38 v39 v33 (AV.p (.int .i64 0)) H6)))
 (K (.tup [(AV.p (.bool false)),(AV.p (.bool false))]) H3)
theorem W12_wp (v0:AV) (v1:AV) (H:Heap) (K:AV→Heap→Prop):wpC Tryz.prog tab D12 (bO_ Tryz.f12) (retF tab [.tmp 4,.tmp 5] K) (nthA [v0,v1]) H=W12 v0 v1 H K:=by kernel_rfl
theorem W12_ok {v0 v1:AV} {H:Heap} {K:AV→Heap→Prop} (h:W12 v0 v1 H K):CallT Tryz.prog 12 [v0,v1] H K:=
 CallT.of_wp (D:=D12) tO_ mixed Tryz.func12 (c:=bO_ Tryz.f12) (by kernel_rfl) rfl (by kernel_rfl) (rs:=#[.tmp 4,.tmp 5]) rfl (by decide +kernel) (by kernel_rfl) (W12_wp v0 v1 H K) h
theorem L12_1_rule {K:AV→Heap→Prop} {N1:AV→Heap→Prop} {v2 v3 v6 v7 v8 v9 v40 v41 v45 v46 v47:AV} {H:Heap} {σ:Type} (s0:σ) (f47:σ→AV) (TH:σ→Heap) (pre:σ→Prop) (μ:σ→Nat)
  (h0:pre s0∧AV.wk v47 (f47 s0)∧Heap.le (TH s0) H)
  (round:∀s,pre s→B12_1 K N1 (fun w47 H'=>∃s',pre s'∧μ s' < μ s∧AV.wk w47 (f47 s')∧Heap.le (TH s') H') v2 v3 v6 v7 v8 v9 v40 v41 v45 v46 (f47 s) (TH s)) :
  L12_1 K N1 v2 v3 v6 v7 v8 v9 v40 v41 v45 v46 v47 H:=by
 unfold L12_1
 exact LoopV.mk s0 (fun s=>[f47 s]) TH pre μ (fun _=>rfl) (Eq.mp (by kernel_rfl) h0) (fun s hs=>Eq.mp (by kernel_rfl) (round s hs))
theorem L12_4_rule {K:AV→Heap→Prop} {N1:AV→AV→Heap→Prop} {N2:AV→AV→Heap→Prop} {v2 v6 v7 v8 v14 v15 v16 v85 v86 v87 v92 v93 v96 v97 v98:AV} {H:Heap} {σ:Type} (s0:σ) (f15:σ→AV) (f98:σ→AV) (TH:σ→Heap) (pre:σ→Prop) (μ:σ→Nat)
  (h0:pre s0∧AV.wk v15 (f15 s0)∧AV.wk v98 (f98 s0)∧Heap.le (TH s0) H)
  (round:∀s,pre s→B12_4 K N1 N2 (fun w15 w98 H'=>∃s',pre s'∧μ s' < μ s∧AV.wk w15 (f15 s')∧AV.wk w98 (f98 s')∧Heap.le (TH s') H') v2 v6 v7 v8 v14 (f15 s) v16 v85 v86 v87 v92 v93 v96 v97 (f98 s) (TH s)) :
  L12_4 K N1 N2 v2 v6 v7 v8 v14 v15 v16 v85 v86 v87 v92 v93 v96 v97 v98 H:=by
 unfold L12_4
 exact LoopV.mk s0 (fun s=>[f15 s,f98 s]) TH pre μ (fun _=>rfl) (Eq.mp (by kernel_rfl) h0) (fun s hs=>Eq.mp (by kernel_rfl) (round s hs))
theorem L12_3_rule {K:AV→Heap→Prop} {N1:AV→AV→Heap→Prop} {v2 v6 v7 v8 v14 v15 v85 v86 v87 v92 v93:AV} {H:Heap} {σ:Type} (s0:σ) (f15:σ→AV) (f93:σ→AV) (TH:σ→Heap) (pre:σ→Prop) (μ:σ→Nat)
  (h0:pre s0∧AV.wk v15 (f15 s0)∧AV.wk v93 (f93 s0)∧Heap.le (TH s0) H)
  (round:∀s,pre s→B12_3 K N1 (fun w15 w93 H'=>∃s',pre s'∧μ s' < μ s∧AV.wk w15 (f15 s')∧AV.wk w93 (f93 s')∧Heap.le (TH s') H') v2 v6 v7 v8 v14 (f15 s) v85 v86 v87 v92 (f93 s) (TH s)) :
  L12_3 K N1 v2 v6 v7 v8 v14 v15 v85 v86 v87 v92 v93 H:=by
 unfold L12_3
 exact LoopV.mk s0 (fun s=>[f15 s,f93 s]) TH pre μ (fun _=>rfl) (Eq.mp (by kernel_rfl) h0) (fun s hs=>Eq.mp (by kernel_rfl) (round s hs))
theorem L12_2_rule {K:AV→Heap→Prop} {v2 v6 v7 v8 v85 v86 v87:AV} {H:Heap} {σ:Type} (s0:σ) (f8:σ→AV) (f87:σ→AV) (TH:σ→Heap) (pre:σ→Prop) (μ:σ→Nat)
  (h0:pre s0∧AV.wk v8 (f8 s0)∧AV.wk v87 (f87 s0)∧Heap.le (TH s0) H)
  (round:∀s,pre s→B12_2 K (fun w8 w87 H'=>∃s',pre s'∧μ s' < μ s∧AV.wk w8 (f8 s')∧AV.wk w87 (f87 s')∧Heap.le (TH s') H') v2 v6 v7 (f8 s) v85 v86 (f87 s) (TH s)) :
  L12_2 K v2 v6 v7 v8 v85 v86 v87 H:=by
 unfold L12_2
 exact LoopV.mk s0 (fun s=>[f8 s,f87 s]) TH pre μ (fun _=>rfl) (Eq.mp (by kernel_rfl) h0) (fun s hs=>Eq.mp (by kernel_rfl) (round s hs))
theorem L12_0_rule {K:AV→Heap→Prop} {v2 v3 v6 v7 v8 v40 v41:AV} {H:Heap} {σ:Type} (s0:σ) (f41:σ→AV) (TH:σ→Heap) (pre:σ→Prop) (μ:σ→Nat)
  (h0:pre s0∧AV.wk v41 (f41 s0)∧Heap.le (TH s0) H)
  (round:∀s,pre s→B12_0 K (fun w41 H'=>∃s',pre s'∧μ s' < μ s∧AV.wk w41 (f41 s')∧Heap.le (TH s') H') v2 v3 v6 v7 v8 v40 (f41 s) (TH s)) :
  L12_0 K v2 v3 v6 v7 v8 v40 v41 H:=by
 unfold L12_0
 exact LoopV.mk s0 (fun s=>[f41 s]) TH pre μ (fun _=>rfl) (Eq.mp (by kernel_rfl) h0) (fun s hs=>Eq.mp (by kernel_rfl) (round s hs))
def D13:Info:=⟨30,fun i=>if i=6 then ([[],[],[0],[0,1,2]],[(0,[]),(1,[]),(2,[1]),(3,[])]) else if i=7 then ([[],[],[0],[0,1,2]],[(0,[]),(1,[]),(2,[1]),(3,[])]) else ([],[]),fun i=>([],[])⟩
def J13_0 (K:AV→Heap→Prop) (v2:AV) (v3:AV) (v5:AV) (v6:AV) (H:Heap):Prop:=
 lV_ tab 28 v5 H fun v28=>
 lV_ tab 31 v6 H fun v29=>
 sV_ tab 28 v2 v28 H fun H16=>
 (lV_ tab 31 v6 H16 fun v9029=>
 v29=v9029)∧
 sV_ tab 31 v3 v29 H16 fun H17=>
 lV_ tab 28 v2 H17 fun r0=>
 lV_ tab 31 v3 H17 fun r1=>
 K (.tup [r0,r1]) H17
def W13 (v0:AV) (H:Heap) (K:AV→Heap→Prop):Prop:=
 allocV tab 28 H fun v2 H1=>
 allocV tab 31 H1 fun v3 H2=>
 buildV tab 71 [(0,v0)] fun v10=>
 boxV v10 H2 fun v11 H3=>
 CallT Tryz.prog 45 [v11,(AV.p (.int .i64 5))] H3 fun v13 H4=>
 allocV tab 28 H4 fun v5 H5=>
 sV_ tab 28 v5 v13 H5 fun H6=>
 CallT Tryz.prog 46 [v11] H6 fun v15 H7=>
 allocV tab 31 H7 fun v6 H8=>
 sV_ tab 31 v6 v15 H8 fun H9=>
 lV_ tab 28 v5 H9 fun v17=>
 CallT Tryz.prog 8 [v17] H9 fun v18 H10=>
 xV_ v18 0 fun v19=>
 xV_ v18 1 fun v20=>
 allocV tab 31 H10 fun v7 H11=>
 sV_ tab 31 v7 v19 H11 fun H12=>
 grdV v20 true (CallT Tryz.prog 47 [v11,(AV.p (.int .i64 2))] H12 fun v24 H13=>
 cV_ v24 (lV_ tab 28 v5 H13 fun v26=>
 lV_ tab 31 v7 H13 fun v27=>
 sV_ tab 28 v2 v26 H13 fun H14=>
 (lV_ tab 31 v7 H14 fun v9027=>
 v27=v9027)∧
 sV_ tab 31 v3 v27 H14 fun H15=>
 lV_ tab 28 v2 H15 fun r0=>
 lV_ tab 31 v3 H15 fun r1=>
 K (.tup [r0,r1]) H15)
 (J13_0 K v2 v3 v5 v6 H13))
 (J13_0 K v2 v3 v5 v6 H12)
theorem W13_wp (v0:AV) (H:Heap) (K:AV→Heap→Prop):wpC Tryz.prog tab D13 (bO_ Tryz.f13) (retF tab [.cell 2 28,.cell 3 31] K) (nthA [v0]) H=W13 v0 H K:=by kernel_rfl
theorem W13_ok {v0:AV} {H:Heap} {K:AV→Heap→Prop} (h:W13 v0 H K):CallT Tryz.prog 13 [v0] H K:=
 CallT.of_wp (D:=D13) tO_ mixed Tryz.func13 (c:=bO_ Tryz.f13) (by kernel_rfl) rfl (by kernel_rfl) (rs:=#[.cell 2 28,.cell 3 31]) rfl (by decide +kernel) (by kernel_rfl) (W13_wp v0 H K) h
def D14:Info:=⟨23,fun i=>([],[]),fun i=>([],[])⟩
def W14 (v0:AV) (H:Heap) (K:AV→Heap→Prop):Prop:=
 boxV v0 H fun v1 H1=>
 fA_ tab 31 v1 0 fun v3=>
 lV_ tab 24 v3 H1 fun v4=>
 lenV tab 24 v4 fun v5=>
 binV tab .leq 3 v5 (AV.p (.int .i64 24)) fun v6=>
 grdV v6 true (fA_ tab 31 v1 1 fun v8=>
 lV_ tab 24 v8 H1 fun v9=>
 lenV tab 24 v9 fun v10=>
 CallT Tryz.prog 48 [v10,(AV.p (.int .i64 1)),(AV.p (.int .i64 24))] H1 fun v11 H2=>
 grdV v11 true (fA_ tab 31 v1 0 fun v14=>
 lV_ tab 24 v14 H2 fun v15=>
 CallT Tryz.prog 49 [v15,(AV.p (.int .i64 0)),(AV.p (.int .i64 7))] H2 fun v16 H3=>
 grdV v16 true (fA_ tab 31 v1 1 fun v19=>
 lV_ tab 24 v19 H3 fun v20=>
 CallT Tryz.prog 49 [v20,(AV.p (.int .i64 0)),(AV.p (.int .i64 7))] H3 fun v21 H4=>
 K v21 H4)
 (K (AV.p (.bool false)) H3))
 (K (AV.p (.bool false)) H2))
 (K (AV.p (.bool false)) H1)
theorem W14_wp (v0:AV) (H:Heap) (K:AV→Heap→Prop):wpC Tryz.prog tab D14 (bO_ Tryz.f14) (retF tab [.tmp 2] K) (nthA [v0]) H=W14 v0 H K:=by kernel_rfl
theorem W14_ok {v0:AV} {H:Heap} {K:AV→Heap→Prop} (h:W14 v0 H K):CallT Tryz.prog 14 [v0] H K:=
 CallT.of_wp (D:=D14) tO_ mixed Tryz.func14 (c:=bO_ Tryz.f14) (by kernel_rfl) rfl (by kernel_rfl) (rs:=#[.tmp 2]) rfl (by decide +kernel) (by kernel_rfl) (W14_wp v0 H K) h
end Go.Proofs.YtohkciilfkhomaaGreat
namespace Go.Proofs.YtohkciilfkhomaaGreat
open Go Go.Sep
attribute [local irreducible] wpC headF
end Go.Proofs.YtohkciilfkhomaaGreat
namespace Go.Proofs.YtohkciilfkhomaaGreat
open Go Go.Sep
attribute [local irreducible] wpC headF
def D26:Info:=⟨26,fun i=>if i=6 then ([[],[],[0,1],[0,1,2],[],[],[4,5],[4,5,6],[0,1,2,3,4,5,6,7]],[(0,[]),(1,[]),(2,[]),(3,[]),(4,[]),(5,[]),(6,[]),(7,[]),(8,[])]) else ([],[]),fun i=>if i=4 then ([0,1,12],[13]) else ([],[])⟩
def L26_0 (K:AV→Heap→Prop) (v0:AV) (v1:AV) (v12:AV) (v13:AV) (H:Heap):Prop:=LoopV (wpC Tryz.prog tab D26 (cAt [1,1,0,1,0,0] (bO_ Tryz.f26))) [0,1,12] (PostF.block 0 (PostF.thenA (wpC Tryz.prog tab D26 (cAt [1,1,1] (bO_ Tryz.f26))) (retF tab [.tmp 4] K))) [13] [v0,v1,Q_,Q_,Q_,Q_,Q_,Q_,Q_,Q_,Q_,Q_,v12,v13,Q_,Q_,Q_,Q_,Q_,Q_,Q_,Q_,Q_,Q_,Q_,Q_] H
def B26_0 (K:AV→Heap→Prop) (N1:AV→Heap→Prop) (v0:AV) (v1:AV) (v12:AV) (v13:AV) (H:Heap):Prop:=
 binV tab .lss 3 v13 v12 fun v14=>
 cV_ v14 (iA_ tab 24 v0 v13 fun v18=>
 lV_ tab 3 v18 H fun v19=>
 iA_ tab 24 v1 v13 fun v22=>
 lV_ tab 3 v22 H fun v23=>
 binV tab .neq 3 v19 v23 fun v24=>
 cV_ v24 (K (AV.p (.bool false)) H)
 (binV tab .add 3 v13 (AV.p (.int .i64 1)) fun v25=>
 N1 v25 H))
 (K (AV.p (.bool true)) H)
def W26 (v0:AV) (v1:AV) (H:Heap) (K:AV→Heap→Prop):Prop:=
 lenV tab 24 v0 fun v7=>
 lenV tab 24 v1 fun v9=>
 binV tab .neq 3 v7 v9 fun v10=>
 cV_ v10 (K (AV.p (.bool false)) H)
 (lenV tab 24 v0 fun v12=>
 L26_0 K v0 v1 v12 (AV.p (.int .i64 0)) H)
theorem W26_wp (v0:AV) (v1:AV) (H:Heap) (K:AV→Heap→Prop):wpC Tryz.prog tab D26 (bO_ Tryz.f26) (retF tab [.tmp 4] K) (nthA [v0,v1]) H=W26 v0 v1 H K:=by kernel_rfl
theorem W26_ok {v0 v1:AV} {H:Heap} {K:AV→Heap→Prop} (h:W26 v0 v1 H K):CallT Tryz.prog 26 [v0,v1] H K:=
 CallT.of_wp (D:=D26) tO_ mixed Tryz.func26 (c:=bO_ Tryz.f26) (by kernel_rfl) rfl (by kernel_rfl) (rs:=#[.tmp 4]) rfl (by decide +kernel) (by kernel_rfl) (W26_wp v0 v1 H K) h
theorem L26_0_rule {K:AV→Heap→Prop} {v0 v1 v12 v13:AV} {H:Heap} {σ:Type} (s0:σ) (f13:σ→AV) (TH:σ→Heap) (pre:σ→Prop) (μ:σ→Nat)
  (h0:pre s0∧AV.wk v13 (f13 s0)∧Heap.le (TH s0) H)
  (round:∀s,pre s→B26_0 K (fun w13 H'=>∃s',pre s'∧μ s' < μ s∧AV.wk w13 (f13 s')∧Heap.le (TH s') H') v0 v1 v12 (f13 s) (TH s)) :
  L26_0 K v0 v1 v12 v13 H:=by
 unfold L26_0
 exact LoopV.mk s0 (fun s=>[f13 s]) TH pre μ (fun _=>rfl) (Eq.mp (by kernel_rfl) h0) (fun s hs=>Eq.mp (by kernel_rfl) (round s hs))
def D28:Info:=⟨9,fun i=>([],[]),fun i=>([],[])⟩
def W28 (v0:AV) (H:Heap) (K:AV→Heap→Prop):Prop:=
 allocV tab 28 H fun v2 H1=>
 buildV tab 71 [(0,v0)] fun v5=>
 boxV v5 H1 fun v6 H2=>
 CallT Tryz.prog 45 [v6,(AV.p (.int .i64 6))] H2 fun v8 H3=>
 sV_ tab 28 v2 v8 H3 fun H4=>
 lV_ tab 28 v2 H4 fun r0=>
 K r0 H4
theorem W28_wp (v0:AV) (H:Heap) (K:AV→Heap→Prop):wpC Tryz.prog tab D28 (bO_ Tryz.f28) (retF tab [.cell 2 28] K) (nthA [v0]) H=W28 v0 H K:=by kernel_rfl
theorem W28_ok {v0:AV} {H:Heap} {K:AV→Heap→Prop} (h:W28 v0 H K):CallT Tryz.prog 28 [v0] H K:=
 CallT.of_wp (D:=D28) tO_ mixed Tryz.func28 (c:=bO_ Tryz.f28) (by kernel_rfl) rfl (by kernel_rfl) (rs:=#[.cell 2 28]) rfl (by decide +kernel) (by kernel_rfl) (W28_wp v0 H K) h
def D29:Info:=⟨91,fun i=>if i=6 then ([[],[0],[0,1],[0,1,2],[0,1,2,3],[0,1,2,3,4],[0,1,2,3],[0,1,2,3,6],[0,1,2,3,4,5,6,7],[0,1,2,3,4,5,6,7,8],[0,1,2,3,4,5,6,7,8,9],[0,1,2,3,4,5,6,7,8,9,10],[0,1,2,3,4,5,6,7,8,9,10,11],[0,1,2,3,4,5,6,7,8,9,10,11,12],[0,1,2,3,4,5,6,7,8,9,10,11,12,13],[0,1,2,3,4,5,6,7,8,9,10,11,12,13,14],[0,1,2,3,4,5,6,7,8,9,10,11,12,13,14,15],[0,1,2,3,4,5,6,7,8,9,10,11,12,13,14,15,16],[0,1,2,3,4,5,6,7,8,9,10,11,12,13,14,15],[0,1,2,3,4,5,6,7,8,9,10,11,12,13,14,15,18],[0,1,2,3,4,5,6,7,8,9,10,11,12,13,14,15,16,17,18,19],[0,1,2,3,4,5,6,7,8,9,10,11,12,13,14,15,16,17,18,19,20],[0,1,2,3,4,5,6,7,8,9,10,11,12,13,14,15,16,17,18,19,20,21],[0,1,2,3,4,5,6,7,8,9,10,11,12,13,14,15,16,17,18,19,20,21,22],[0,1,2,3,4,5,6,7,8,9,10,11,12,13,14,15,16,17,18,19,20,21,22,23],[0,1,2,3,4,5,6,7,8,9,10,11,12,13,14,15,16,17,18,19,20,21,22,23,24],[0,1,2,3,4,5,6,7,8,9,10,11,12,13,14,15,16,17,18,19,20,21,22,23,24,25],[0,1,2,3,4,5,6,7,8,9,10,11,12,13,14,15,16,17,18,19,20,21,22,23,24,25,26],[0,1,2,3,4,5,6,7,8,9,10,11,12,13,14,15,16,17,18,19,20,21,22,23,24,25,26,27],[0,1,2,3,4,5,6,7,8,9,10,11,12,13,14,15,16,17,18,19,20,21,22,23,24,25,26,27,28],[0,1,2,3,4,5,6,7,8,9,10,11,12,13,14,15,16,17,18,19,20,21,22,23,24,25,26,27,28,29],[0,1,2,3,4,5,6,7,8,9,10,11,12,13,14,15,16,17,18,19,20,21,22,23,24,25,26,27,28,29,30],[0,1,2,3,4,5,6,7,8,9,10,11,12,13,14,15,16,17,18,19,20,21,22,23,24,25,26,27,28,29,30,31],[0,1,2,3,4,5,6,7,8,9,10,11,12,13,14,15,16,17,18,19,20,21,22,23,24,25,26,27,28,29,30,31,32],[0,1,2,3,4,5,6,7,8,9,10,11,12,13,14,15,16,17,18,19,20,21,22,23,24,25,26,27,28,29,30,31,32,33],[0,1,2,3,4,5,6,7,8,9,10,11,12,13,14,15,16,17,18,19,20,21,22,23,24,25,26,27,28,29,30,31,32,33,34],[0,1,2,3,4,5,6,7,8,9,10,11,12,13,14,15,16,17,18,19,20,21,22,23,24,25,26,27,28,29,30,31,32,33,34,35],[0,1,2,3,4,5,6,7,8,9,10,11,12,13,14,15,16,17,18,19,20,21,22,23,24,25,26,27,28,29,30,31,32,33,34,35,36],[0,1,2,3,4,5,6,7,8,9,10,11,12,13,14,15,16,17,18,19,20,21,22,23,24,25,26,27,28,29,30,31,32,33,34,35],[0,1,2,3,4,5,6,7,8,9,10,11,12,13,14,15,16,17,18,19,20,21,22,23,24,25,26,27,28,29,30,31,32,33,34,35,38],[0,1,2,3,4,5,6,7,8,9,10,11,12,13,14,15,16,17,18,19,20,21,22,23,24,25,26,27,28,29,30,31,32,33,34,35,36,37,38,39],[0,1,2,3,4,5,6,7,8,9,10,11,12,13,14,15,16,17,18,19,20,21,22,23,24,25,26,27,28,29,30,31,32,33,34,35,36,37,38,39,40],[0,1,2,3,4,5,6,7,8,9,10,11,12,13,14,15,16,17,18,19,20,21,22,23,24,25,26,27,28,29,30,31,32,33,34,35],[0,1,2,3,4,5,6,7,8,9,10,11,12,13,14,15,16,17,18,19,20,21,22,23,24,25,26,27,28,29,30,31,32,33,34,35,36,37,38,39,40,41,42],[0,1,2,3,4,5,6,7,8,9,10,11,12,13,14,15,16,17,18,19,20,21,22,23,24,25,26,27,28,29,30,31,32,33,34,35,36,37,38,39,40,41,42,43],[0,1,2,3,4,5,6,7,8,9,10,11,12,13,14,15,16,17,18,19,20,21,22,23,24,25,26,27,28,29,30,31,32,33,34,35,36,37,38,39,40,41,42,43,44],[0,1,2,3,4,5,6,7,8,9,10,11,12,13,14,15,16,17,18,19,20,21,22,23,24,25,26,27,28,29,30,31,32,33,34,35,36,37,38,39,40,41,42,43,44,45]],[(0,[]),(1,[]),(2,[]),(3,[]),(4,[]),(5,[]),(6,[]),(7,[]),(8,[]),(9,[]),(10,[]),(11,[]),(12,[]),(13,[]),(14,[]),(15,[]),(16,[]),(17,[]),(18,[]),(19,[]),(20,[]),(21,[]),(22,[]),(23,[]),(24,[]),(25,[]),(26,[]),(27,[]),(28,[]),(29,[]),(30,[]),(31,[]),(32,[]),(33,[]),(34,[]),(35,[]),(36,[]),(37,[]),(38,[]),(39,[]),(40,[]),(41,[]),(42,[]),(43,[]),(44,[]),(45,[]),(46,[])]) else ([],[]),fun i=>if i=4 then ([1,36,37],[38]) else ([],[])⟩
def L29_0 (K:AV→Heap→Prop) (v1:AV) (v36:AV) (v37:AV) (v38:AV) (H:Heap):Prop:=LoopV (wpC Tryz.prog tab D29 (cAt [1,1,0,1,0,0] (bO_ Tryz.f29))) [1,36,37] (PostF.block 0 (PostF.thenA (wpC Tryz.prog tab D29 (cAt [1,1,1] (bO_ Tryz.f29))) (retF tab [.tmp 2] K))) [38] [Q_,v1,Q_,Q_,Q_,Q_,Q_,Q_,Q_,Q_,Q_,Q_,Q_,Q_,Q_,Q_,Q_,Q_,Q_,Q_,Q_,Q_,Q_,Q_,Q_,Q_,Q_,Q_,Q_,Q_,Q_,Q_,Q_,Q_,Q_,Q_,v36,v37,v38,Q_,Q_,Q_,Q_,Q_,Q_,Q_,Q_,Q_,Q_,Q_,Q_,Q_,Q_,Q_,Q_,Q_,Q_,Q_,Q_,Q_,Q_,Q_,Q_,Q_,Q_,Q_,Q_,Q_,Q_,Q_,Q_,Q_,Q_,Q_,Q_,Q_,Q_,Q_,Q_,Q_,Q_,Q_,Q_,Q_,Q_,Q_,Q_,Q_,Q_,Q_,Q_] H
def B29_0 (K:AV→Heap→Prop) (N1:AV→Heap→Prop) (v1:AV) (v36:AV) (v37:AV) (v38:AV) (H:Heap):Prop:=
 binV tab .lss 3 v38 v37 fun v39=>
 cV_ v39 (iA_ tab 25 v36 v38 fun v41=>
 lV_ tab 66 v41 H fun v42=>
 allocV tab 66 H fun v4 H4=>
 sV_ tab 66 v4 v42 H4 fun H5=>
 fA_ tab 66 v4 0 fun v43=>
 lV_ tab 3 v43 H5 fun v44=>
 binV tab .lss 3 v44 (AV.p (.int .i64 0)) fun v45=>
 grdV v45 false (fA_ tab 66 v4 0 fun v47=>
 lV_ tab 3 v47 H5 fun v48=>
 fA_ tab 28 v1 0 fun v49=>
 lV_ tab 3 v49 H5 fun v50=>
 binV tab .geq 3 v48 v50 fun v51=>
 grdV v51 false (fA_ tab 66 v4 2 fun v54=>
 lV_ tab 3 v54 H5 fun v55=>
 binV tab .lss 3 v55 (AV.p (.int .i64 0)) fun v56=>
 grdV v56 false (fA_ tab 66 v4 2 fun v59=>
 lV_ tab 3 v59 H5 fun v60=>
 fA_ tab 28 v1 0 fun v61=>
 lV_ tab 3 v61 H5 fun v62=>
 binV tab .geq 3 v60 v62 fun v63=>
 grdV v63 false (fA_ tab 66 v4 1 fun v66=>
 lV_ tab 3 v66 H5 fun v67=>
 binV tab .lss 3 v67 (AV.p (.int .i64 0)) fun v68=>
 grdV v68 false (fA_ tab 66 v4 1 fun v71=>
 lV_ tab 3 v71 H5 fun v72=>
 binV tab .geq 3 v72 (AV.p (.int .i64 8)) fun v73=>
 grdV v73 false (binV tab .gtr 3 v38 (AV.p (.int .i64 0)) fun v77=>
 grdV v77 true (fA_ tab 28 v1 2 fun v79=>
 lV_ tab 25 v79 H5 fun v80=>
 binV tab .sub 3 v38 (AV.p (.int .i64 1)) fun v82=>
 iA_ tab 25 v80 v82 fun v83=>
 lV_ tab 66 v83 H5 fun v84=>
 lV_ tab 66 v4 H5 fun v85=>
 CallT Tryz.prog 76 [v84,v85] H5 fun v86 H6=>
 binV tab .geq 3 v86 (AV.p (.int .i64 0)) fun v87=>
 cV_ v87 (K (AV.p (.bool false)) H6)
 (binV tab .add 3 v38 (AV.p (.int .i64 1)) fun v90=>
 N1 v90 H6))
 (binV tab .add 3 v38 (AV.p (.int .i64 1)) fun v90=>
 N1 v90 H5))
 (K (AV.p (.bool false)) H5))
 (K (AV.p (.bool false)) H5))
 (K (AV.p (.bool false)) H5))
 (K (AV.p (.bool false)) H5))
 (K (AV.p (.bool false)) H5))
 (K (AV.p (.bool false)) H5))
 (K (AV.p (.bool true)) H)
def W29 (v0:AV) (H:Heap) (K:AV→Heap→Prop):Prop:=
 boxV v0 H fun v1 H1=>
 fA_ tab 28 v1 0 fun v5=>
 lV_ tab 3 v5 H1 fun v6=>
 binV tab .lss 3 v6 (AV.p (.int .i64 1)) fun v7=>
 grdV v7 false (fA_ tab 28 v1 0 fun v9=>
 lV_ tab 3 v9 H1 fun v10=>
 binV tab .gtr 3 v10 (AV.p (.int .i64 96)) fun v11=>
 grdV v11 false (fA_ tab 28 v1 1 fun v14=>
 lV_ tab 24 v14 H1 fun v15=>
 fA_ tab 28 v1 0 fun v16=>
 lV_ tab 3 v16 H1 fun v17=>
 CallT Tryz.prog 70 [v15,v17] H1 fun v18 H2=>
 unV .not v18 fun v19=>
 grdV v19 false (fA_ tab 28 v1 2 fun v22=>
 lV_ tab 25 v22 H2 fun v23=>
 lenV tab 25 v23 fun v24=>
 binV tab .gtr 3 v24 (AV.p (.int .i64 2400)) fun v25=>
 grdV v25 false (fA_ tab 28 v1 3 fun v28=>
 lV_ tab 26 v28 H2 fun v29=>
 fA_ tab 28 v1 0 fun v30=>
 lV_ tab 3 v30 H2 fun v31=>
 CallT Tryz.prog 75 [v29,v31] H2 fun v32 H3=>
 unV .not v32 fun v33=>
 cV_ v33 (K (AV.p (.bool false)) H3)
 (fA_ tab 28 v1 2 fun v35=>
 lV_ tab 25 v35 H3 fun v36=>
 lenV tab 25 v36 fun v37=>
 L29_0 K v1 v36 v37 (AV.p (.int .i64 0)) H3))
 (K (AV.p (.bool false)) H2))
 (K (AV.p (.bool false)) H2))
 (K (AV.p (.bool false)) H1))
 (K (AV.p (.bool false)) H1)
theorem W29_wp (v0:AV) (H:Heap) (K:AV→Heap→Prop):wpC Tryz.prog tab D29 (bO_ Tryz.f29) (retF tab [.tmp 2] K) (nthA [v0]) H=W29 v0 H K:=by kernel_rfl
theorem W29_ok {v0:AV} {H:Heap} {K:AV→Heap→Prop} (h:W29 v0 H K):CallT Tryz.prog 29 [v0] H K:=
 CallT.of_wp (D:=D29) tO_ mixed Tryz.func29 (c:=bO_ Tryz.f29) (by kernel_rfl) rfl (by kernel_rfl) (rs:=#[.tmp 2]) rfl (by decide +kernel) (by kernel_rfl) (W29_wp v0 H K) h
theorem L29_0_rule {K:AV→Heap→Prop} {v1 v36 v37 v38:AV} {H:Heap} {σ:Type} (s0:σ) (f38:σ→AV) (TH:σ→Heap) (pre:σ→Prop) (μ:σ→Nat)
  (h0:pre s0∧AV.wk v38 (f38 s0)∧Heap.le (TH s0) H)
  (round:∀s,pre s→B29_0 K (fun w38 H'=>∃s',pre s'∧μ s' < μ s∧AV.wk w38 (f38 s')∧Heap.le (TH s') H') v1 v36 v37 (f38 s) (TH s)) :
  L29_0 K v1 v36 v37 v38 H:=by
 unfold L29_0
 exact LoopV.mk s0 (fun s=>[f38 s]) TH pre μ (fun _=>rfl) (Eq.mp (by kernel_rfl) h0) (fun s hs=>Eq.mp (by kernel_rfl) (round s hs))
def D30:Info:=⟨89,fun i=>if i=5 then ([[],[],[],[],[2,3],[2,3,4],[0,1,2,3,4,5],[],[7],[0,1,2,3,4,5,6],[0,1,2,3,4,5,6,7,8,9]],[(0,[]),(1,[]),(2,[]),(3,[]),(4,[]),(5,[]),(7,[]),(6,[8,7]),(9,[]),(8,[8]),(10,[])]) else if i=13 then ([[],[],[],[],[3],[3,4],[2,3,4,5],[2,3,4,5,6],[1,2,3,4,5,6,7],[1,2,3,4,5,6,7,8],[],[10],[0,1,2,3,4,5,6,7,8,9,10,11],[0,1,2,3,4,5,6,7,8,9,10,11,12]],[(0,[]),(1,[]),(2,[]),(3,[]),(4,[]),(5,[]),(6,[]),(7,[]),(8,[]),(9,[]),(10,[]),(11,[7,9]),(12,[]),(13,[])]) else if i=14 then ([[],[],[1],[1,2],[0,1,2,3],[],[],[],[7],[7,8],[6,7,8,9],[5,6,7,8,9,10],[0,1,2,3,4,5,6,7,8,9,10,11],[0,1,2,3,4,5,6,7,8,9,10,11,12],[0,1,2,3,4,5,6,7,8,9,10,11,12,13]],[(0,[]),(1,[]),(2,[]),(3,[]),(4,[]),(5,[]),(6,[]),(7,[]),(8,[]),(9,[]),(10,[]),(11,[]),(12,[]),(13,[]),(14,[])]) else ([],[]),fun i=>if i=7 then ([9,10,11,12,41,42],[13,43]) else ([],[])⟩
def L30_0 (K:AV→Heap→Prop) (v9:AV) (v10:AV) (v11:AV) (v12:AV) (v13:AV) (v41:AV) (v42:AV) (v43:AV) (H:Heap):Prop:=LoopV (wpC Tryz.prog tab D30 (cAt [1,1,1,1,1,0,1,0,0] (bO_ Tryz.f30))) [9,10,11,12,41,42] (PostF.block 0 (PostF.thenA (wpC Tryz.prog tab D30 (cAt [1,1,1,1,1,1] (bO_ Tryz.f30))) (retF tab [.tmp 6,.tmp 7,.tmp 8] K))) [13,43] [Q_,Q_,Q_,Q_,Q_,Q_,Q_,Q_,Q_,v9,v10,v11,v12,v13,Q_,Q_,Q_,Q_,Q_,Q_,Q_,Q_,Q_,Q_,Q_,Q_,Q_,Q_,Q_,Q_,Q_,Q_,Q_,Q_,Q_,Q_,Q_,Q_,Q_,Q_,Q_,v41,v42,v43,Q_,Q_,Q_,Q_,Q_,Q_,Q_,Q_,Q_,Q_,Q_,Q_,Q_,Q_,Q_,Q_,Q_,Q_,Q_,Q_,Q_,Q_,Q_,Q_,Q_,Q_,Q_,Q_,Q_,Q_,Q_,Q_,Q_,Q_,Q_,Q_,Q_,Q_,Q_,Q_,Q_,Q_,Q_,Q_,Q_] H
def B30_0 (K:AV→Heap→Prop) (N1:AV→AV→Heap→Prop) (v9:AV) (v10:AV) (v11:AV) (v12:AV) (v13:AV) (v41:AV) (v42:AV) (v43:AV) (H:Heap):Prop:=
 binV tab .lss 3 v43 v42 fun v44=>
 cV_ v44 (iA_ tab 26 v41 v43 fun v45=>
 lV_ tab 24 v45 H fun v46=>
 CallT Tryz.prog 52 [v46] H fun v48 H11=>
 CallT Tryz.prog 80 [v48,(.fn 81 [v11,v9])] H11 fun v50 H12=>
 lenV tab 24 v13 fun v54=>
 binV tab .sub 3 v54 (AV.p (.int .i64 1)) fun v55=>
 sliceV tab 24 v13 (some v55) none none fun v56=>
 CallT Tryz.prog 77 [v12,v56,v50] H12 fun v58 H13=>
 sliceV tab 24 v58 (some (AV.p (.int .i64 1))) none none fun v61=>
 aP_ tab 24 24 v13 v61 H13 (wkK fun v62 H14=>
 binV tab .add 3 v43 (AV.p (.int .i64 1)) fun v63=>
 N1 v62 v63 H14))
 (lenV tab 24 v13 fun v68=>
 binV tab .sub 3 v68 (AV.p (.int .i64 1)) fun v69=>
 iA_ tab 24 v13 v69 fun v70=>
 lV_ tab 3 v70 H fun v71=>
 iA_ tab 26 v12 v71 fun v72=>
 lV_ tab 24 v72 H fun v73=>
 lV_ tab 3 v9 H fun v74=>
 bS_ tab 24 1 [(0,v74)] H (wkK fun v75 H15=>
 (lV_ tab 3 v70 H15 fun v9071=>
 v71=v9071)∧
 (lV_ tab 24 v72 H15 fun v9073=>
 v73=v9073)∧
 CallT Tryz.prog 77 [v12,v73,v75] H15 fun v76 H16=>
 lenV tab 24 v10 fun v79=>
 binV tab .sub 3 v79 (AV.p (.int .i64 1)) fun v80=>
 sliceV tab 24 v10 none (some v80) none fun v81=>
 lenV tab 24 v76 fun v85=>
 binV tab .sub 3 v85 (AV.p (.int .i64 1)) fun v86=>
 sliceV tab 24 v76 none (some v86) none fun v87=>
 aP_ tab 24 24 v13 v87 H16 (wkK fun v88 H17=>
 K (.tup [v81,v88,(AV.p (.bool true))]) H17)))
def W30 (v0:AV) (v1:AV) (v2:AV) (H:Heap) (K:AV→Heap→Prop):Prop:=
 CallT Tryz.prog 41 [v0,v1,v2] H fun v22 H1=>
 allocV tab 3 H1 fun v9 H2=>
 sV_ tab 3 v9 v22 H2 fun H3=>
 lV_ tab 3 v9 H3 fun v23=>
 binV tab .lss 3 v23 (AV.p (.int .i64 0)) fun v24=>
 cV_ v24 (K (.tup [(AV.p .nil),(AV.p .nil),(AV.p (.bool false))]) H3)
 (lV_ tab 3 v9 H3 fun v27=>
 bS_ tab 24 1 [(0,v27)] H3 (wkK fun v28 H4=>
 CallT Tryz.prog 77 [v0,v1,v28] H4 fun v29 H5=>
 CallT Tryz.prog 78 [v0] H5 fun v31 H6=>
 allocV tab 24 H6 fun v11 H7=>
 sV_ tab 24 v11 v31 H7 fun H8=>
 lV_ tab 24 v11 H8 fun v33=>
 lV_ tab 24 v11 H8 fun v34=>
 lV_ tab 3 v9 H8 fun v35=>
 iA_ tab 24 v34 v35 fun v36=>
 lV_ tab 3 v36 H8 fun v37=>
 lV_ tab 3 v9 H8 fun v39=>
 safeV (buildN tab 24 1 [(0,v39)])∧
 CallT Tryz.prog 79 [v0,v33,v37] H8 fun v38 H9=>
 (lV_ tab 3 v9 H9 fun v9039=>
 v39=v9039)∧
 newV (buildN tab 24 1 [(0,v39)]) H9 fun v40 H10=>
 lenV tab 26 v2 fun v42=>
 L30_0 K v9 v29 v11 v38 v40 v2 v42 (AV.p (.int .i64 0)) H10))
theorem W30_wp (v0:AV) (v1:AV) (v2:AV) (H:Heap) (K:AV→Heap→Prop):wpC Tryz.prog tab D30 (bO_ Tryz.f30) (retF tab [.tmp 6,.tmp 7,.tmp 8] K) (nthA [v0,v1,v2]) H=W30 v0 v1 v2 H K:=by kernel_rfl
theorem W30_ok {v0 v1 v2:AV} {H:Heap} {K:AV→Heap→Prop} (h:W30 v0 v1 v2 H K):CallT Tryz.prog 30 [v0,v1,v2] H K:=
 CallT.of_wp (D:=D30) tO_ mixed Tryz.func30 (c:=bO_ Tryz.f30) (by kernel_rfl) rfl (by kernel_rfl) (rs:=#[.tmp 6,.tmp 7,.tmp 8]) rfl (by decide +kernel) (by kernel_rfl) (W30_wp v0 v1 v2 H K) h
theorem L30_0_rule {K:AV→Heap→Prop} {v9 v10 v11 v12 v13 v41 v42 v43:AV} {H:Heap} {σ:Type} (s0:σ) (f13:σ→AV) (f43:σ→AV) (TH:σ→Heap) (pre:σ→Prop) (μ:σ→Nat)
  (h0:pre s0∧AV.wk v13 (f13 s0)∧AV.wk v43 (f43 s0)∧Heap.le (TH s0) H)
  (round:∀s,pre s→B30_0 K (fun w13 w43 H'=>∃s',pre s'∧μ s' < μ s∧AV.wk w13 (f13 s')∧AV.wk w43 (f43 s')∧Heap.le (TH s') H') v9 v10 v11 v12 (f13 s) v41 v42 (f43 s) (TH s)) :
  L30_0 K v9 v10 v11 v12 v13 v41 v42 v43 H:=by
 unfold L30_0
 exact LoopV.mk s0 (fun s=>[f13 s,f43 s]) TH pre μ (fun _=>rfl) (Eq.mp (by kernel_rfl) h0) (fun s hs=>Eq.mp (by kernel_rfl) (round s hs))
def D31:Info:=⟨51,fun i=>if i=5 then ([[],[],[1],[],[],[4],[3,4,5],[3,4,5,6],[],[8],[8,9],[3,4,5,6,7,8,9,10],[0,1,2,3,4,5,6,7,8,9,10,11],[0,1,2,3,4,5,6,7,8,9,10,11,12]],[(0,[]),(1,[]),(2,[]),(3,[]),(4,[]),(5,[]),(6,[]),(7,[]),(8,[]),(9,[]),(10,[2,5,7]),(11,[2]),(12,[]),(13,[])]) else ([],[]),fun i=>if i=3 then ([3,11,12],[13]) else if i=8 then ([3,32],[33]) else ([],[])⟩
def L31_0 (K:AV→Heap→Prop) (v3:AV) (v11:AV) (v12:AV) (v13:AV) (H:Heap):Prop:=LoopV (wpC Tryz.prog tab D31 (cAt [1,1,0,1,0,0] (bO_ Tryz.f31))) [3,11,12] (PostF.block 0 (PostF.thenA (wpC Tryz.prog tab D31 (cAt [1,1,1] (bO_ Tryz.f31))) (retF tab [.tmp 2] K))) [13] [Q_,Q_,Q_,v3,Q_,Q_,Q_,Q_,Q_,Q_,Q_,v11,v12,v13,Q_,Q_,Q_,Q_,Q_,Q_,Q_,Q_,Q_,Q_,Q_,Q_,Q_,Q_,Q_,Q_,Q_,Q_,Q_,Q_,Q_,Q_,Q_,Q_,Q_,Q_,Q_,Q_,Q_,Q_,Q_,Q_,Q_,Q_,Q_,Q_,Q_] H
def L31_1 (K:AV→Heap→Prop) (v3:AV) (v32:AV) (v33:AV) (H:Heap):Prop:=LoopV (wpC Tryz.prog tab D31 (cAt [1,1,1,0,1,0,0] (bO_ Tryz.f31))) [3,32] (PostF.block 2 (PostF.thenA (wpC Tryz.prog tab D31 (cAt [1,1,1,1] (bO_ Tryz.f31))) (retF tab [.tmp 2] K))) [33] [Q_,Q_,Q_,v3,Q_,Q_,Q_,Q_,Q_,Q_,Q_,Q_,Q_,Q_,Q_,Q_,Q_,Q_,Q_,Q_,Q_,Q_,Q_,Q_,Q_,Q_,Q_,Q_,Q_,Q_,Q_,Q_,v32,v33,Q_,Q_,Q_,Q_,Q_,Q_,Q_,Q_,Q_,Q_,Q_,Q_,Q_,Q_,Q_,Q_,Q_] H
def B31_1 (K:AV→Heap→Prop) (N1:AV→Heap→Prop) (v3:AV) (v32:AV) (v33:AV) (H:Heap):Prop:=
 binV tab .lss 3 v33 v32 fun v34=>
 cV_ v34 (iA_ tab 26 v3 v33 fun v38=>
 lV_ tab 24 v38 H fun v39=>
 CallT Tryz.prog 82 [v39] H fun v40 H8=>
 iA_ tab 26 v3 v33 fun v45=>
 lV_ tab 24 v45 H8 fun v46=>
 CallT Tryz.prog 83 [v46] H8 fun v47 H9=>
 iA_ tab 26 v3 v33 fun v48=>
 sV_ tab 24 v48 v47 H9 fun H10=>
 binV tab .add 3 v33 (AV.p (.int .i64 1)) fun v49=>
 N1 v49 H10)
 (K v3 H)
def B31_0 (K:AV→Heap→Prop) (N1:AV→Heap→Prop) (v3:AV) (v11:AV) (v12:AV) (v13:AV) (H:Heap):Prop:=
 binV tab .lss 3 v13 v12 fun v14=>
 cV_ v14 (iA_ tab 25 v11 v13 fun v15=>
 lV_ tab 66 v15 H fun v16=>
 allocV tab 66 H fun v5 H3=>
 sV_ tab 66 v5 v16 H3 fun H4=>
 fA_ tab 66 v5 0 fun v18=>
 lV_ tab 3 v18 H4 fun v19=>
 fA_ tab 66 v5 0 fun v21=>
 lV_ tab 3 v21 H4 fun v22=>
 iA_ tab 26 v3 v22 fun v23=>
 lV_ tab 24 v23 H4 fun v24=>
 fA_ tab 66 v5 2 fun v25=>
 lV_ tab 3 v25 H4 fun v26=>
 bS_ tab 24 1 [(0,v26)] H4 (wkK fun v27 H5=>
 (lV_ tab 3 v18 H5 fun v9019=>
 v19=v9019)∧
 (lV_ tab 3 v21 H5 fun v9022=>
 v22=v9022)∧
 (lV_ tab 24 v23 H5 fun v9024=>
 v24=v9024)∧
 aP_ tab 24 24 v24 v27 H5 (wkK fun v28 H6=>
 (lV_ tab 3 v18 H6 fun v9019=>
 v19=v9019)∧
 iA_ tab 26 v3 v19 fun v29=>
 sV_ tab 24 v29 v28 H6 fun H7=>
 binV tab .add 3 v13 (AV.p (.int .i64 1)) fun v30=>
 N1 v30 H7)))
 (lenV tab 26 v3 fun v32=>
 L31_1 K v3 v32 (AV.p (.int .i64 0)) H)
def W31 (v0:AV) (H:Heap) (K:AV→Heap→Prop):Prop:=
 boxV v0 H fun v1 H1=>
 fA_ tab 28 v1 0 fun v7=>
 lV_ tab 3 v7 H1 fun v8=>
 mS_ tab 26 v8 v8 H1 fun v9 H2=>
 fA_ tab 28 v1 2 fun v10=>
 lV_ tab 25 v10 H2 fun v11=>
 lenV tab 25 v11 fun v12=>
 L31_0 K v9 v11 v12 (AV.p (.int .i64 0)) H2
theorem W31_wp (v0:AV) (H:Heap) (K:AV→Heap→Prop):wpC Tryz.prog tab D31 (bO_ Tryz.f31) (retF tab [.tmp 2] K) (nthA [v0]) H=W31 v0 H K:=by kernel_rfl
theorem W31_ok {v0:AV} {H:Heap} {K:AV→Heap→Prop} (h:W31 v0 H K):CallT Tryz.prog 31 [v0] H K:=
 CallT.of_wp (D:=D31) tO_ mixed Tryz.func31 (c:=bO_ Tryz.f31) (by kernel_rfl) rfl (by kernel_rfl) (rs:=#[.tmp 2]) rfl (by decide +kernel) (by kernel_rfl) (W31_wp v0 H K) h
theorem L31_1_rule {K:AV→Heap→Prop} {v3 v32 v33:AV} {H:Heap} {σ:Type} (s0:σ) (f33:σ→AV) (TH:σ→Heap) (pre:σ→Prop) (μ:σ→Nat)
  (h0:pre s0∧AV.wk v33 (f33 s0)∧Heap.le (TH s0) H)
  (round:∀s,pre s→B31_1 K (fun w33 H'=>∃s',pre s'∧μ s' < μ s∧AV.wk w33 (f33 s')∧Heap.le (TH s') H') v3 v32 (f33 s) (TH s)) :
  L31_1 K v3 v32 v33 H:=by
 unfold L31_1
 exact LoopV.mk s0 (fun s=>[f33 s]) TH pre μ (fun _=>rfl) (Eq.mp (by kernel_rfl) h0) (fun s hs=>Eq.mp (by kernel_rfl) (round s hs))
theorem L31_0_rule {K:AV→Heap→Prop} {v3 v11 v12 v13:AV} {H:Heap} {σ:Type} (s0:σ) (f13:σ→AV) (TH:σ→Heap) (pre:σ→Prop) (μ:σ→Nat)
  (h0:pre s0∧AV.wk v13 (f13 s0)∧Heap.le (TH s0) H)
  (round:∀s,pre s→B31_0 K (fun w13 H'=>∃s',pre s'∧μ s' < μ s∧AV.wk w13 (f13 s')∧Heap.le (TH s') H') v3 v11 v12 (f13 s) (TH s)) :
  L31_0 K v3 v11 v12 v13 H:=by
 unfold L31_0
 exact LoopV.mk s0 (fun s=>[f13 s]) TH pre μ (fun _=>rfl) (Eq.mp (by kernel_rfl) h0) (fun s hs=>Eq.mp (by kernel_rfl) (round s hs))
def D32:Info:=⟨36,fun i=>([],[]),fun i=>if i=3 then ([0,9,10],[3,11]) else if i=11 then ([25,26],[6,27]) else ([],[])⟩
def L32_0 (K:AV→Heap→Prop) (v0:AV) (v3:AV) (v9:AV) (v10:AV) (v11:AV) (H:Heap):Prop:=LoopV (wpC Tryz.prog tab D32 (cAt [1,1,0,1,0,0] (bO_ Tryz.f32))) [0,9,10] (PostF.block 0 (PostF.thenA (wpC Tryz.prog tab D32 (cAt [1,1,1] (bO_ Tryz.f32))) (retF tab [.tmp 2] K))) [3,11] [v0,Q_,Q_,v3,Q_,Q_,Q_,Q_,Q_,v9,v10,v11,Q_,Q_,Q_,Q_,Q_,Q_,Q_,Q_,Q_,Q_,Q_,Q_,Q_,Q_,Q_,Q_,Q_,Q_,Q_,Q_,Q_,Q_,Q_,Q_] H
def L32_1 (K:AV→Heap→Prop) (v6:AV) (v25:AV) (v26:AV) (v27:AV) (H:Heap):Prop:=LoopV (wpC Tryz.prog tab D32 (cAt [1,1,1,1,0,1,0,0] (bO_ Tryz.f32))) [25,26] (PostF.block 2 (PostF.thenA (wpC Tryz.prog tab D32 (cAt [1,1,1,1,1] (bO_ Tryz.f32))) (retF tab [.tmp 2] K))) [6,27] [Q_,Q_,Q_,Q_,Q_,Q_,v6,Q_,Q_,Q_,Q_,Q_,Q_,Q_,Q_,Q_,Q_,Q_,Q_,Q_,Q_,Q_,Q_,Q_,Q_,v25,v26,v27,Q_,Q_,Q_,Q_,Q_,Q_,Q_,Q_] H
def B32_1 (K:AV→Heap→Prop) (N1:AV→AV→Heap→Prop) (v6:AV) (v25:AV) (v26:AV) (v27:AV) (H:Heap):Prop:=
 binV tab .lss 3 v27 v26 fun v28=>
 cV_ v28 (iA_ tab 26 v25 v27 fun v29=>
 lV_ tab 24 v29 H fun v30=>
 aP_ tab 24 24 v6 v30 H (wkK fun v33 H2=>
 binV tab .add 3 v27 (AV.p (.int .i64 1)) fun v34=>
 N1 v33 v34 H2))
 (K v6 H)
def B32_0 (K:AV→Heap→Prop) (N1:AV→AV→Heap→Prop) (v0:AV) (v3:AV) (v9:AV) (v10:AV) (v11:AV) (H:Heap):Prop:=
 binV tab .lss 3 v11 v10 fun v12=>
 cV_ v12 (iA_ tab 26 v9 v11 fun v13=>
 lV_ tab 24 v13 H fun v14=>
 lenV tab 24 v14 fun v17=>
 binV tab .add 3 v3 v17 fun v18=>
 binV tab .lss 3 v18 (AV.p (.int .i64 0)) fun v20=>
 cV_ v20 (False)
 (binV tab .add 3 v11 (AV.p (.int .i64 1)) fun v22=>
 N1 v18 v22 H))
 (CallT Tryz.prog 84 [(AV.p .nil),v3] H fun v24 H1=>
 lenV tab 26 v0 fun v26=>
 L32_1 K v24 v0 v26 (AV.p (.int .i64 0)) H1)
def W32 (v0:AV) (H:Heap) (K:AV→Heap→Prop):Prop:=
 lenV tab 26 v0 fun v10=>
 L32_0 K v0 (AV.p (.int .i64 0)) v0 v10 (AV.p (.int .i64 0)) H
theorem W32_wp (v0:AV) (H:Heap) (K:AV→Heap→Prop):wpC Tryz.prog tab D32 (bO_ Tryz.f32) (retF tab [.tmp 2] K) (nthA [v0]) H=W32 v0 H K:=by kernel_rfl
theorem W32_ok {v0:AV} {H:Heap} {K:AV→Heap→Prop} (h:W32 v0 H K):CallT Tryz.prog 32 [v0] H K:=
 CallT.of_wp (D:=D32) tO_ mixed Tryz.func32 (c:=bO_ Tryz.f32) (by kernel_rfl) rfl (by kernel_rfl) (rs:=#[.tmp 2]) rfl (by decide +kernel) (by kernel_rfl) (W32_wp v0 H K) h
theorem W32_hb:HasBody Tryz.prog 32:=⟨_,bO_ Tryz.f32,Tryz.func32,by kernel_rfl,rfl⟩
theorem L32_1_rule {K:AV→Heap→Prop} {v6 v25 v26 v27:AV} {H:Heap} {σ:Type} (s0:σ) (f6:σ→AV) (f27:σ→AV) (TH:σ→Heap) (pre:σ→Prop) (μ:σ→Nat)
  (h0:pre s0∧AV.wk v6 (f6 s0)∧AV.wk v27 (f27 s0)∧Heap.le (TH s0) H)
  (round:∀s,pre s→B32_1 K (fun w6 w27 H'=>∃s',pre s'∧μ s' < μ s∧AV.wk w6 (f6 s')∧AV.wk w27 (f27 s')∧Heap.le (TH s') H') (f6 s) v25 v26 (f27 s) (TH s)) :
  L32_1 K v6 v25 v26 v27 H:=by
 unfold L32_1
 exact LoopV.mk s0 (fun s=>[f6 s,f27 s]) TH pre μ (fun _=>rfl) (Eq.mp (by kernel_rfl) h0) (fun s hs=>Eq.mp (by kernel_rfl) (round s hs))
theorem L32_0_rule {K:AV→Heap→Prop} {v0 v3 v9 v10 v11:AV} {H:Heap} {σ:Type} (s0:σ) (f3:σ→AV) (f11:σ→AV) (TH:σ→Heap) (pre:σ→Prop) (μ:σ→Nat)
  (h0:pre s0∧AV.wk v3 (f3 s0)∧AV.wk v11 (f11 s0)∧Heap.le (TH s0) H)
  (round:∀s,pre s→B32_0 K (fun w3 w11 H'=>∃s',pre s'∧μ s' < μ s∧AV.wk w3 (f3 s')∧AV.wk w11 (f11 s')∧Heap.le (TH s') H') v0 (f3 s) v9 v10 (f11 s) (TH s)) :
  L32_0 K v0 v3 v9 v10 v11 H:=by
 unfold L32_0
 exact LoopV.mk s0 (fun s=>[f3 s,f11 s]) TH pre μ (fun _=>rfl) (Eq.mp (by kernel_rfl) h0) (fun s hs=>Eq.mp (by kernel_rfl) (round s hs))
def D33:Info:=⟨51,fun i=>if i=5 then ([[],[0],[],[0,1,2],[0,1,2,3],[0,1,2,3,4],[0,1,2,3,4,5],[0,1,2,3,4],[0,1,2,3,4,5,6,7],[0,1,2,3,4,5,6,7,8],[0,1,2,3,4,5,6,7,8,9],[0,1,2,3,4,5,6,7,8,9,10],[0,1,2,3,4,5,6,7,8,9,10,11],[0,1,2,3,4,5,6,7,8,9,10],[0,1,2,3,4,5,6,7,8,9,10,13],[0,1,2,3,4,5,6,7,8,9,10],[0,1,2,3,4,5,6,7,8,9,10,13,14,15],[0,1,2,3,4,5,6,7,8,9,10,13,14,15,16],[0,1,2,3,4,5,6,7,8,9,10,13,14,15,16,17],[0,1,2,3,4,5,6,7,8,9,10,11,12,13,14,15,16,17,18],[0,1,2,3,4,5,6,7,8,9,10,11,12,13,14,15,16,17,18,19]],[(0,[]),(1,[]),(2,[]),(3,[]),(4,[]),(5,[]),(6,[]),(7,[]),(8,[]),(9,[]),(10,[]),(11,[]),(12,[]),(13,[]),(14,[]),(15,[]),(16,[]),(17,[]),(18,[]),(19,[]),(20,[])]) else ([],[]),fun i=>if i=3 then ([3,4,5,7,15,16],[17]) else ([],[])⟩
def L33_0 (K:AV→Heap→Prop) (v3:AV) (v4:AV) (v5:AV) (v7:AV) (v15:AV) (v16:AV) (v17:AV) (H:Heap):Prop:=LoopV (wpC Tryz.prog tab D33 (cAt [1,1,0,1,0,0] (bO_ Tryz.f33))) [3,4,5,7,15,16] (PostF.block 0 (PostF.thenA (wpC Tryz.prog tab D33 (cAt [1,1,1] (bO_ Tryz.f33))) (retF tab [.tmp 6] K))) [17] [Q_,Q_,Q_,v3,v4,v5,Q_,v7,Q_,Q_,Q_,Q_,Q_,Q_,Q_,v15,v16,v17,Q_,Q_,Q_,Q_,Q_,Q_,Q_,Q_,Q_,Q_,Q_,Q_,Q_,Q_,Q_,Q_,Q_,Q_,Q_,Q_,Q_,Q_,Q_,Q_,Q_,Q_,Q_,Q_,Q_,Q_,Q_,Q_,Q_] H
def B33_0 (K:AV→Heap→Prop) (N1:AV→Heap→Prop) (v3:AV) (v4:AV) (v5:AV) (v7:AV) (v15:AV) (v16:AV) (v17:AV) (H:Heap):Prop:=
 binV tab .lss 3 v17 v16 fun v18=>
 cV_ v18 (iA_ tab 25 v15 v17 fun v19=>
 lV_ tab 66 v19 H fun v20=>
 allocV tab 66 H fun v9 H5=>
 sV_ tab 66 v9 v20 H5 fun H6=>
 fA_ tab 66 v9 0 fun v21=>
 lV_ tab 3 v21 H6 fun v22=>
 lV_ tab 3 v4 H6 fun v23=>
 binV tab .eql 3 v22 v23 fun v24=>
 grdV v24 true (fA_ tab 66 v9 2 fun v26=>
 lV_ tab 3 v26 H6 fun v27=>
 lV_ tab 3 v5 H6 fun v28=>
 binV tab .eql 3 v27 v28 fun v29=>
 grdV v29 true (fA_ tab 66 v9 1 fun v32=>
 lV_ tab 3 v32 H6 fun v33=>
 fA_ tab 28 v3 2 fun v34=>
 lV_ tab 25 v34 H6 fun v35=>
 iA_ tab 25 v35 v7 fun v37=>
 fA_ tab 66 v37 1 fun v38=>
 lV_ tab 3 v38 H6 fun v39=>
 binV tab .lss 3 v33 v39 fun v40=>
 cV_ v40 (fA_ tab 66 v9 1 fun v42=>
 lV_ tab 3 v42 H6 fun v43=>
 K v43 H6)
 (binV tab .add 3 v17 (AV.p (.int .i64 1)) fun v44=>
 N1 v44 H6))
 (binV tab .add 3 v17 (AV.p (.int .i64 1)) fun v44=>
 N1 v44 H6))
 (binV tab .add 3 v17 (AV.p (.int .i64 1)) fun v44=>
 N1 v44 H6))
 (fA_ tab 28 v3 2 fun v45=>
 lV_ tab 25 v45 H fun v46=>
 iA_ tab 25 v46 v7 fun v48=>
 fA_ tab 66 v48 1 fun v49=>
 lV_ tab 3 v49 H fun v50=>
 K v50 H)
def W33 (v0:AV) (v1:AV) (v2:AV) (H:Heap) (K:AV→Heap→Prop):Prop:=
 boxV v0 H fun v3 H1=>
 boxV v1 H1 fun v4 H2=>
 boxV v2 H2 fun v5 H3=>
 fA_ tab 28 v3 2 fun v10=>
 lV_ tab 25 v10 H3 fun v11=>
 CallT Tryz.prog 85 [v11,(.fn 86 [v4,v5])] H3 fun v13 H4=>
 fA_ tab 28 v3 2 fun v14=>
 lV_ tab 25 v14 H4 fun v15=>
 lenV tab 25 v15 fun v16=>
 L33_0 K v3 v4 v5 v13 v15 v16 (AV.p (.int .i64 0)) H4
theorem W33_wp (v0:AV) (v1:AV) (v2:AV) (H:Heap) (K:AV→Heap→Prop):wpC Tryz.prog tab D33 (bO_ Tryz.f33) (retF tab [.tmp 6] K) (nthA [v0,v1,v2]) H=W33 v0 v1 v2 H K:=by kernel_rfl
theorem W33_ok {v0 v1 v2:AV} {H:Heap} {K:AV→Heap→Prop} (h:W33 v0 v1 v2 H K):CallT Tryz.prog 33 [v0,v1,v2] H K:=
 CallT.of_wp (D:=D33) tO_ mixed Tryz.func33 (c:=bO_ Tryz.f33) (by kernel_rfl) rfl (by kernel_rfl) (rs:=#[.tmp 6]) rfl (by decide +kernel) (by kernel_rfl) (W33_wp v0 v1 v2 H K) h
theorem L33_0_rule {K:AV→Heap→Prop} {v3 v4 v5 v7 v15 v16 v17:AV} {H:Heap} {σ:Type} (s0:σ) (f17:σ→AV) (TH:σ→Heap) (pre:σ→Prop) (μ:σ→Nat)
  (h0:pre s0∧AV.wk v17 (f17 s0)∧Heap.le (TH s0) H)
  (round:∀s,pre s→B33_0 K (fun w17 H'=>∃s',pre s'∧μ s' < μ s∧AV.wk w17 (f17 s')∧Heap.le (TH s') H') v3 v4 v5 v7 v15 v16 (f17 s) (TH s)) :
  L33_0 K v3 v4 v5 v7 v15 v16 v17 H:=by
 unfold L33_0
 exact LoopV.mk s0 (fun s=>[f17 s]) TH pre μ (fun _=>rfl) (Eq.mp (by kernel_rfl) h0) (fun s hs=>Eq.mp (by kernel_rfl) (round s hs))
def D34:Info:=⟨9,fun i=>([],[]),fun i=>([],[])⟩
def W34 (v0:AV) (H:Heap) (K:AV→Heap→Prop):Prop:=
 boxV v0 H fun v1 H1=>
 allocV tab 31 H1 fun v2 H2=>
 lV_ tab 31 v1 H2 fun v4=>
 CallT Tryz.prog 42 [v4] H2 fun v5 H3=>
 unV .not v5 fun v6=>
 cV_ v6 (buildV tab 31 [] fun v7=>
 sV_ tab 31 v2 v7 H3 fun H4=>
 lV_ tab 31 v2 H4 fun r0=>
 K (.tup [r0,(AV.p (.bool false))]) H4)
 (lV_ tab 31 v1 H3 fun v8=>
 sV_ tab 31 v2 v8 H3 fun H5=>
 lV_ tab 31 v2 H5 fun r0=>
 K (.tup [r0,(AV.p (.bool true))]) H5)
theorem W34_wp (v0:AV) (H:Heap) (K:AV→Heap→Prop):wpC Tryz.prog tab D34 (bO_ Tryz.f34) (retF tab [.cell 2 31,.tmp 3] K) (nthA [v0]) H=W34 v0 H K:=by kernel_rfl
theorem W34_ok {v0:AV} {H:Heap} {K:AV→Heap→Prop} (h:W34 v0 H K):CallT Tryz.prog 34 [v0] H K:=
 CallT.of_wp (D:=D34) tO_ mixed Tryz.func34 (c:=bO_ Tryz.f34) (by kernel_rfl) rfl (by kernel_rfl) (rs:=#[.cell 2 31,.tmp 3]) rfl (by decide +kernel) (by kernel_rfl) (W34_wp v0 H K) h
end Go.Proofs.YtohkciilfkhomaaGreat
namespace Go.Proofs.YtohkciilfkhomaaGreat
open Go Go.Sep
attribute [local irreducible] wpC headF
def D35:Info:=⟨77,fun i=>if i=6 then ([[],[0],[],[2],[2,3],[0,1,2,3,4],[0,1,2,3,4,5],[0,1,2,3,4,5,6],[0,1,2,3,4,5,6,7],[0,1,2,3,4,5,6,7,8],[0,1,2,3,4,5,6,7,8,9],[0,1,2,3,4,5,6,7,8,9,10],[0,1,2,3,4,5,6,7,8,9,10,11],[0,1,2,3,4,5,6,7,8,9,10,11,12],[0,1,2,3,4,5,6,7,8,9,10,11,12,13],[0,1,2,3,4,5,6,7,8,9,10,11,12,13,14],[0,1,2,3,4,5,6,7,8,9,10,11,12,13],[0,1,2,3,4,5,6,7,8,9,10,11,12,13,16],[0,1,2,3,4,5,6,7,8,9,10,11,12,13,16,17],[0,1,2,3,4,5,6,7,8,9,10,11,12,13,14,15,16,17,18],[0,1,2,3,4,5,6,7,8,9,10,11,12,13,14,15,16,17,18,19],[0,1,2,3,4,5,6,7,8,9,10,11,12,13,14,15,16,17,18,19,20],[0,1,2,3,4,5,6,7,8,9,10,11,12,13,14,15,16,17,18,19,20,21],[0,1,2,3,4,5,6,7,8,9,10,11,12,13,14,15,16,17,18,19,20,21,22],[0,1,2,3,4,5,6,7,8,9,10,11,12,13,14,15,16,17,18,19,20,21,22,23],[0,1,2,3,4,5,6,7,8,9,10,11,12,13,14,15,16,17,18,19,20,21,22,23,24],[0,1,2,3,4,5,6,7,8,9,10,11,12,13,14,15,16,17,18,19,20,21,22,23,24,25],[0,1,2,3,4,5,6,7,8,9,10,11,12,13,14,15,16,17,18,19,20,21,22,23,24,25,26],[0,1,2,3,4,5,6,7,8,9,10,11,12,13,14,15,16,17,18,19,20,21,22,23,24,25],[0,1,2,3,4,5,6,7,8,9,10,11,12,13,14,15,16,17,18,19,20,21,22,23,24,25,28],[0,1,2,3,4,5,6,7,8,9,10,11,12,13,14,15,16,17,18,19,20,21,22,23,24,25,26,27,28,29],[0,1,2,3,4,5,6,7,8,9,10,11,12,13,14,15,16,17,18,19,20,21,22,23,24,25,26,27,28,29,30],[0,1,2,3,4,5,6,7,8,9,10,11,12,13,14,15,16,17,18,19,20,21,22,23,24,25],[0,1,2,3,4,5,6,7,8,9,10,11,12,13,14,15,16,17,18,19,20,21,22,23,24,25,26,27,28,29,30,31,32],[0,1,2,3,4,5,6,7,8,9,10,11,12,13,14,15,16,17,18,19,20,21,22,23,24,25,26,27,28,29,30,31,32,33],[0,1,2,3,4,5,6,7,8,9,10,11,12,13,14,15,16,17,18,19,20,21,22,23,24,25,26,27,28,29,30,31,32,33,34],[0,1,2,3,4,5,6,7,8,9,10,11,12,13,14,15,16,17,18,19,20,21,22,23,24,25,26,27,28,29,30,31,32,33,34,35]],[(0,[]),(1,[]),(2,[]),(3,[]),(4,[]),(5,[]),(6,[]),(7,[]),(8,[]),(9,[]),(10,[]),(11,[]),(12,[]),(13,[]),(14,[]),(15,[]),(16,[]),(17,[]),(18,[]),(19,[]),(20,[]),(21,[]),(22,[]),(23,[]),(24,[]),(25,[]),(26,[]),(27,[]),(28,[]),(29,[]),(30,[]),(31,[]),(32,[]),(33,[]),(34,[]),(35,[]),(36,[])]) else ([],[]),fun i=>if i=4 then ([1,32,33],[34]) else ([],[])⟩
def L35_0 (K:AV→Heap→Prop) (v1:AV) (v32:AV) (v33:AV) (v34:AV) (H:Heap):Prop:=LoopV (wpC Tryz.prog tab D35 (cAt [1,1,0,1,0,0] (bO_ Tryz.f35))) [1,32,33] (PostF.block 0 (PostF.thenA (wpC Tryz.prog tab D35 (cAt [1,1,1] (bO_ Tryz.f35))) (retF tab [.tmp 2] K))) [34] [Q_,v1,Q_,Q_,Q_,Q_,Q_,Q_,Q_,Q_,Q_,Q_,Q_,Q_,Q_,Q_,Q_,Q_,Q_,Q_,Q_,Q_,Q_,Q_,Q_,Q_,Q_,Q_,Q_,Q_,Q_,Q_,v32,v33,v34,Q_,Q_,Q_,Q_,Q_,Q_,Q_,Q_,Q_,Q_,Q_,Q_,Q_,Q_,Q_,Q_,Q_,Q_,Q_,Q_,Q_,Q_,Q_,Q_,Q_,Q_,Q_,Q_,Q_,Q_,Q_,Q_,Q_,Q_,Q_,Q_,Q_,Q_,Q_,Q_,Q_,Q_] H
def B35_0 (K:AV→Heap→Prop) (N1:AV→Heap→Prop) (v1:AV) (v32:AV) (v33:AV) (v34:AV) (H:Heap):Prop:=
 binV tab .lss 3 v34 v33 fun v35=>
 cV_ v35 (iA_ tab 25 v32 v34 fun v37=>
 lV_ tab 66 v37 H fun v38=>
 allocV tab 66 H fun v4 H5=>
 sV_ tab 66 v4 v38 H5 fun H6=>
 fA_ tab 66 v4 0 fun v39=>
 lV_ tab 3 v39 H6 fun v40=>
 fA_ tab 28 v1 0 fun v41=>
 lV_ tab 3 v41 H6 fun v42=>
 binV tab .sub 3 v42 (AV.p (.int .i64 1)) fun v43=>
 CallT Tryz.prog 48 [v40,(AV.p (.int .i64 0)),v43] H6 fun v44 H7=>
 unV .not v44 fun v45=>
 grdV v45 false (fA_ tab 66 v4 1 fun v47=>
 lV_ tab 3 v47 H7 fun v48=>
 CallT Tryz.prog 48 [v48,(AV.p (.int .i64 0)),(AV.p (.int .i64 7))] H7 fun v49 H8=>
 unV .not v49 fun v50=>
 grdV v50 false (fA_ tab 66 v4 2 fun v53=>
 lV_ tab 3 v53 H8 fun v54=>
 fA_ tab 28 v1 0 fun v55=>
 lV_ tab 3 v55 H8 fun v56=>
 binV tab .sub 3 v56 (AV.p (.int .i64 1)) fun v57=>
 CallT Tryz.prog 48 [v54,(AV.p (.int .i64 0)),v57] H8 fun v58 H9=>
 unV .not v58 fun v59=>
 grdV v59 false (binV tab .gtr 3 v34 (AV.p (.int .i64 0)) fun v63=>
 grdV v63 true (fA_ tab 28 v1 2 fun v65=>
 lV_ tab 25 v65 H9 fun v66=>
 binV tab .sub 3 v34 (AV.p (.int .i64 1)) fun v68=>
 iA_ tab 25 v66 v68 fun v69=>
 lV_ tab 66 v69 H9 fun v70=>
 lV_ tab 66 v4 H9 fun v71=>
 CallT Tryz.prog 88 [v70,v71] H9 fun v72 H10=>
 unV .not v72 fun v73=>
 cV_ v73 (K (AV.p (.bool false)) H10)
 (binV tab .add 3 v34 (AV.p (.int .i64 1)) fun v76=>
 N1 v76 H10))
 (binV tab .add 3 v34 (AV.p (.int .i64 1)) fun v76=>
 N1 v76 H9))
 (K (AV.p (.bool false)) H9))
 (K (AV.p (.bool false)) H8))
 (K (AV.p (.bool false)) H7))
 (K (AV.p (.bool true)) H)
def W35 (v0:AV) (H:Heap) (K:AV→Heap→Prop):Prop:=
 boxV v0 H fun v1 H1=>
 fA_ tab 28 v1 0 fun v5=>
 lV_ tab 3 v5 H1 fun v6=>
 CallT Tryz.prog 48 [v6,(AV.p (.int .i64 1)),(AV.p (.int .i64 96))] H1 fun v7 H2=>
 unV .not v7 fun v8=>
 grdV v8 false (fA_ tab 28 v1 1 fun v10=>
 lV_ tab 24 v10 H2 fun v11=>
 fA_ tab 28 v1 0 fun v12=>
 lV_ tab 3 v12 H2 fun v13=>
 CallT Tryz.prog 73 [v11,v13] H2 fun v14 H3=>
 unV .not v14 fun v15=>
 grdV v15 false (fA_ tab 28 v1 2 fun v18=>
 lV_ tab 25 v18 H3 fun v19=>
 lenV tab 25 v19 fun v20=>
 binV tab .gtr 3 v20 (AV.p (.int .i64 2400)) fun v21=>
 grdV v21 false (fA_ tab 28 v1 3 fun v24=>
 lV_ tab 26 v24 H3 fun v25=>
 fA_ tab 28 v1 0 fun v26=>
 lV_ tab 3 v26 H3 fun v27=>
 CallT Tryz.prog 87 [v25,v27] H3 fun v28 H4=>
 unV .not v28 fun v29=>
 cV_ v29 (K (AV.p (.bool false)) H4)
 (fA_ tab 28 v1 2 fun v31=>
 lV_ tab 25 v31 H4 fun v32=>
 lenV tab 25 v32 fun v33=>
 L35_0 K v1 v32 v33 (AV.p (.int .i64 0)) H4))
 (K (AV.p (.bool false)) H3))
 (K (AV.p (.bool false)) H3))
 (K (AV.p (.bool false)) H2)
theorem W35_wp (v0:AV) (H:Heap) (K:AV→Heap→Prop):wpC Tryz.prog tab D35 (bO_ Tryz.f35) (retF tab [.tmp 2] K) (nthA [v0]) H=W35 v0 H K:=by kernel_rfl
theorem W35_ok {v0:AV} {H:Heap} {K:AV→Heap→Prop} (h:W35 v0 H K):CallT Tryz.prog 35 [v0] H K:=
 CallT.of_wp (D:=D35) tO_ mixed Tryz.func35 (c:=bO_ Tryz.f35) (by kernel_rfl) rfl (by kernel_rfl) (rs:=#[.tmp 2]) rfl (by decide +kernel) (by kernel_rfl) (W35_wp v0 H K) h
theorem L35_0_rule {K:AV→Heap→Prop} {v1 v32 v33 v34:AV} {H:Heap} {σ:Type} (s0:σ) (f34:σ→AV) (TH:σ→Heap) (pre:σ→Prop) (μ:σ→Nat)
  (h0:pre s0∧AV.wk v34 (f34 s0)∧Heap.le (TH s0) H)
  (round:∀s,pre s→B35_0 K (fun w34 H'=>∃s',pre s'∧μ s' < μ s∧AV.wk w34 (f34 s')∧Heap.le (TH s') H') v1 v32 v33 (f34 s) (TH s)) :
  L35_0 K v1 v32 v33 v34 H:=by
 unfold L35_0
 exact LoopV.mk s0 (fun s=>[f34 s]) TH pre μ (fun _=>rfl) (Eq.mp (by kernel_rfl) h0) (fun s hs=>Eq.mp (by kernel_rfl) (round s hs))
def D36:Info:=⟨147,fun i=>if i=6 then ([[],[],[0,1],[0,1,2],[0,1,2,3],[0,1,2,3,4],[0,1,2,3,4,5],[0,1,2,3,4,5,6],[0,1,2,3,4,5,6,7],[0,1,2,3,4,5,6,7,8],[0,1,2,3,4,5,6,7,8],[0,1,2,3,4,5,6,7,8,9,10],[0,1,2,3,4,5,6,7,8,9,10,11],[0,1,2,3,4,5,6,7,8],[0,1,2,3,4,5,6,7,8],[0,1,2,3,4,5,6,7,8,13,14],[0,1,2,3,4,5,6,7,8,13,14,15],[0,1,2,3,4,5,6,7,8,9,10,11,12,13,14,15,16],[0,1,2,3,4,5,6,7,8,9,10,11,12,13,14,15,16,17],[0,1,2,3,4,5,6,7,8,9,10,11,12,13,14,15,16,17,18]],[(0,[]),(1,[]),(2,[]),(3,[]),(4,[]),(5,[]),(6,[]),(7,[]),(8,[]),(9,[]),(10,[]),(11,[]),(12,[]),(13,[]),(14,[]),(15,[]),(16,[]),(17,[]),(18,[]),(19,[])]) else if i=22 then ([[],[],[0,1],[0,1,2],[],[],[4,5],[4,5,6],[0,1,2,3,4,5,6,7]],[(0,[]),(1,[]),(2,[]),(3,[]),(4,[]),(5,[]),(6,[]),(7,[]),(8,[])]) else if i=29 then ([[],[],[1],[1,2],[0,1,2,3],[],[],[],[7],[7,8],[6,7,8,9],[5,6,7,8,9,10],[0,1,2,3,4,5,6,7,8,9,10,11],[0,1,2,3,4,5,6,7,8,9,10,11,12],[0,1,2,3,4,5,6,7,8,9,10,11,12,13]],[(0,[]),(1,[]),(2,[]),(3,[]),(4,[]),(5,[]),(6,[]),(7,[]),(8,[]),(9,[]),(10,[]),(11,[]),(12,[]),(13,[]),(14,[])]) else ([],[]),fun i=>if i=4 then ([0,1,2,9,32,33],[10,34]) else if i=16 then ([10,13,15,16,77,78],[17,79]) else if i=20 then ([10,13,15,16,17,77,78,79,83,84],[20,85]) else ([],[])⟩
def L36_0 (K:AV→Heap→Prop) (v0:AV) (v1:AV) (v2:AV) (v9:AV) (v10:AV) (v32:AV) (v33:AV) (v34:AV) (H:Heap):Prop:=LoopV (wpC Tryz.prog tab D36 (cAt [1,1,1,0,1,0,0] (bO_ Tryz.f36))) [0,1,2,9,32,33] (PostF.block 0 (PostF.thenA (wpC Tryz.prog tab D36 (cAt [1,1,1,1] (bO_ Tryz.f36))) (retF tab [.tmp 6,.tmp 7,.tmp 8] K))) [10,34] [v0,v1,v2,Q_,Q_,Q_,Q_,Q_,Q_,v9,v10,Q_,Q_,Q_,Q_,Q_,Q_,Q_,Q_,Q_,Q_,Q_,Q_,Q_,Q_,Q_,Q_,Q_,Q_,Q_,Q_,Q_,v32,v33,v34,Q_,Q_,Q_,Q_,Q_,Q_,Q_,Q_,Q_,Q_,Q_,Q_,Q_,Q_,Q_,Q_,Q_,Q_,Q_,Q_,Q_,Q_,Q_,Q_,Q_,Q_,Q_,Q_,Q_,Q_,Q_,Q_,Q_,Q_,Q_,Q_,Q_,Q_,Q_,Q_,Q_,Q_,Q_,Q_,Q_,Q_,Q_,Q_,Q_,Q_,Q_,Q_,Q_,Q_,Q_,Q_,Q_,Q_,Q_,Q_,Q_,Q_,Q_,Q_,Q_,Q_,Q_,Q_,Q_,Q_,Q_,Q_,Q_,Q_,Q_,Q_,Q_,Q_,Q_,Q_,Q_,Q_,Q_,Q_,Q_,Q_,Q_,Q_,Q_,Q_,Q_,Q_,Q_,Q_,Q_,Q_,Q_,Q_,Q_,Q_,Q_,Q_,Q_,Q_,Q_,Q_,Q_,Q_,Q_,Q_,Q_,Q_] H
def L36_1 (K:AV→Heap→Prop) (v10:AV) (v13:AV) (v15:AV) (v16:AV) (v17:AV) (v77:AV) (v78:AV) (v79:AV) (H:Heap):Prop:=LoopV (wpC Tryz.prog tab D36 (cAt [1,1,1,1,1,1,1,1,1,0,1,0,0] (bO_ Tryz.f36))) [10,13,15,16,77,78] (PostF.block 2 (PostF.thenA (wpC Tryz.prog tab D36 (cAt [1,1,1,1,1,1,1,1,1,1] (bO_ Tryz.f36))) (retF tab [.tmp 6,.tmp 7,.tmp 8] K))) [17,79] [Q_,Q_,Q_,Q_,Q_,Q_,Q_,Q_,Q_,Q_,v10,Q_,Q_,v13,Q_,v15,v16,v17,Q_,Q_,Q_,Q_,Q_,Q_,Q_,Q_,Q_,Q_,Q_,Q_,Q_,Q_,Q_,Q_,Q_,Q_,Q_,Q_,Q_,Q_,Q_,Q_,Q_,Q_,Q_,Q_,Q_,Q_,Q_,Q_,Q_,Q_,Q_,Q_,Q_,Q_,Q_,Q_,Q_,Q_,Q_,Q_,Q_,Q_,Q_,Q_,Q_,Q_,Q_,Q_,Q_,Q_,Q_,Q_,Q_,Q_,Q_,v77,v78,v79,Q_,Q_,Q_,Q_,Q_,Q_,Q_,Q_,Q_,Q_,Q_,Q_,Q_,Q_,Q_,Q_,Q_,Q_,Q_,Q_,Q_,Q_,Q_,Q_,Q_,Q_,Q_,Q_,Q_,Q_,Q_,Q_,Q_,Q_,Q_,Q_,Q_,Q_,Q_,Q_,Q_,Q_,Q_,Q_,Q_,Q_,Q_,Q_,Q_,Q_,Q_,Q_,Q_,Q_,Q_,Q_,Q_,Q_,Q_,Q_,Q_,Q_,Q_,Q_,Q_,Q_,Q_] H
def L36_2 (K:AV→Heap→Prop) (N1:AV→AV→Heap→Prop) (v10:AV) (v13:AV) (v15:AV) (v16:AV) (v17:AV) (v20:AV) (v77:AV) (v78:AV) (v79:AV) (v83:AV) (v84:AV) (v85:AV) (H:Heap):Prop:=LoopV (wpC Tryz.prog tab D36 (cAt [1,1,1,1,1,1,1,1,1,0,1,0,0,1,1,0,0,1,1,0,1,0,0] (bO_ Tryz.f36))) [10,13,15,16,17,77,78,79,83,84] (PostF.block 4 (PostF.thenA (wpC Tryz.prog tab D36 (cAt [1,1,1,1,1,1,1,1,1,0,1,0,0,1,1,0,0,1,1,1] (bO_ Tryz.f36))) (PostF.block 3 (PostF.thenA (wpC Tryz.prog tab D36 (cAt [1,1,1,1,1,1,1,1,1,0,1,0,0,1,1,1] (bO_ Tryz.f36))) (loopF (PostF.block 2 (PostF.thenA (wpC Tryz.prog tab D36 (cAt [1,1,1,1,1,1,1,1,1,1] (bO_ Tryz.f36))) (retF tab [.tmp 6,.tmp 7,.tmp 8] K))) (fun e h=>N1 (e 17) (e 79) h)))))) [20,85] [Q_,Q_,Q_,Q_,Q_,Q_,Q_,Q_,Q_,Q_,v10,Q_,Q_,v13,Q_,v15,v16,v17,Q_,Q_,v20,Q_,Q_,Q_,Q_,Q_,Q_,Q_,Q_,Q_,Q_,Q_,Q_,Q_,Q_,Q_,Q_,Q_,Q_,Q_,Q_,Q_,Q_,Q_,Q_,Q_,Q_,Q_,Q_,Q_,Q_,Q_,Q_,Q_,Q_,Q_,Q_,Q_,Q_,Q_,Q_,Q_,Q_,Q_,Q_,Q_,Q_,Q_,Q_,Q_,Q_,Q_,Q_,Q_,Q_,Q_,Q_,v77,v78,v79,Q_,Q_,Q_,v83,v84,v85,Q_,Q_,Q_,Q_,Q_,Q_,Q_,Q_,Q_,Q_,Q_,Q_,Q_,Q_,Q_,Q_,Q_,Q_,Q_,Q_,Q_,Q_,Q_,Q_,Q_,Q_,Q_,Q_,Q_,Q_,Q_,Q_,Q_,Q_,Q_,Q_,Q_,Q_,Q_,Q_,Q_,Q_,Q_,Q_,Q_,Q_,Q_,Q_,Q_,Q_,Q_,Q_,Q_,Q_,Q_,Q_,Q_,Q_,Q_,Q_,Q_] H
def B36_2 (K:AV→Heap→Prop) (N1:AV→AV→Heap→Prop) (N2:AV→AV→Heap→Prop) (v10:AV) (v13:AV) (v15:AV) (v16:AV) (v17:AV) (v20:AV) (v77:AV) (v78:AV) (v79:AV) (v83:AV) (v84:AV) (v85:AV) (H:Heap):Prop:=
 binV tab .lss 3 v85 v84 fun v86=>
 cV_ v86 (iA_ tab 24 v83 v85 fun v87=>
 lV_ tab 3 v87 H fun v88=>
 iA_ tab 24 v15 v88 fun v91=>
 lV_ tab 3 v91 H fun v92=>
 iA_ tab 24 v15 v10 fun v95=>
 lV_ tab 3 v95 H fun v96=>
 binV tab .eql 3 v92 v96 fun v97=>
 cV_ v97 (bS_ tab 24 1 [(0,v88)] H (wkK fun v100 H8=>
 aP_ tab 24 24 v20 v100 H8 (wkK fun v101 H9=>
 binV tab .add 3 v85 (AV.p (.int .i64 1)) fun v102=>
 N2 v101 v102 H9)))
 (binV tab .add 3 v85 (AV.p (.int .i64 1)) fun v102=>
 N2 v20 v102 H))
 (lenV tab 24 v17 fun v107=>
 binV tab .sub 3 v107 (AV.p (.int .i64 1)) fun v108=>
 sliceV tab 24 v17 (some v108) none none fun v109=>
 CallT Tryz.prog 90 [v16,v109,v20] H fun v111 H10=>
 xV_ v111 0 fun v112=>
 xV_ v111 1 fun v113=>
 sliceV tab 24 v112 (some (AV.p (.int .i64 1))) none none fun v116=>
 aP_ tab 24 24 v17 v116 H10 (wkK fun v117 H11=>
 binV tab .add 3 v79 (AV.p (.int .i64 1)) fun v118=>
 N1 v117 v118 H11))
def B36_1 (K:AV→Heap→Prop) (N1:AV→AV→Heap→Prop) (v10:AV) (v13:AV) (v15:AV) (v16:AV) (v17:AV) (v77:AV) (v78:AV) (v79:AV) (H:Heap):Prop:=
 binV tab .lss 3 v79 v78 fun v80=>
 cV_ v80 (iA_ tab 26 v77 v79 fun v81=>
 lV_ tab 24 v81 H fun v82=>
 lenV tab 24 v82 fun v84=>
 L36_2 K N1 v10 v13 v15 v16 v17 (AV.p .nil) v77 v78 v79 v82 v84 (AV.p (.int .i64 0)) H)
 (lenV tab 24 v17 fun v124=>
 binV tab .sub 3 v124 (AV.p (.int .i64 1)) fun v125=>
 iA_ tab 24 v17 v125 fun v126=>
 lV_ tab 3 v126 H fun v127=>
 iA_ tab 26 v16 v127 fun v128=>
 lV_ tab 24 v128 H fun v129=>
 bS_ tab 24 1 [(0,v10)] H (wkK fun v131 H12=>
 CallT Tryz.prog 90 [v16,v129,v131] H12 fun v132 H13=>
 xV_ v132 0 fun v133=>
 xV_ v132 1 fun v134=>
 lenV tab 24 v13 fun v137=>
 binV tab .sub 3 v137 (AV.p (.int .i64 1)) fun v138=>
 sliceV tab 24 v13 none (some v138) none fun v139=>
 lenV tab 24 v133 fun v143=>
 binV tab .sub 3 v143 (AV.p (.int .i64 1)) fun v144=>
 sliceV tab 24 v133 none (some v144) none fun v145=>
 aP_ tab 24 24 v17 v145 H13 (wkK fun v146 H14=>
 K (.tup [v139,v146,(AV.p (.bool true))]) H14)))
def B36_0 (K:AV→Heap→Prop) (N1:AV→AV→Heap→Prop) (v0:AV) (v1:AV) (v2:AV) (v9:AV) (v10:AV) (v32:AV) (v33:AV) (v34:AV) (H:Heap):Prop:=
 binV tab .lss 3 v34 v33 fun v35=>
 cV_ v35 (iA_ tab 24 v32 v34 fun v36=>
 lV_ tab 3 v36 H fun v37=>
 iA_ tab 24 v9 v37 fun v40=>
 lV_ tab 3 v40 H fun v41=>
 binV tab .geq 3 v41 (AV.p (.int .i64 0)) fun v42=>
 grdV v42 true (binV tab .lss 3 v10 (AV.p (.int .i64 0)) fun v45=>
 grdV v45 false (iA_ tab 24 v9 v37 fun v49=>
 lV_ tab 3 v49 H fun v50=>
 iA_ tab 24 v9 v10 fun v53=>
 lV_ tab 3 v53 H fun v54=>
 binV tab .lss 3 v50 v54 fun v55=>
 cV_ v55 (binV tab .add 3 v34 (AV.p (.int .i64 1)) fun v59=>
 N1 v37 v59 H)
 (binV tab .add 3 v34 (AV.p (.int .i64 1)) fun v59=>
 N1 v10 v59 H))
 (binV tab .add 3 v34 (AV.p (.int .i64 1)) fun v59=>
 N1 v37 v59 H))
 (binV tab .add 3 v34 (AV.p (.int .i64 1)) fun v59=>
 N1 v10 v59 H))
 (binV tab .lss 3 v10 (AV.p (.int .i64 0)) fun v61=>
 cV_ v61 (K (.tup [(AV.p .nil),(AV.p .nil),(AV.p (.bool false))]) H)
 (bS_ tab 24 1 [(0,v10)] H (wkK fun v66 H3=>
 CallT Tryz.prog 90 [v0,v1,v66] H3 fun v67 H4=>
 xV_ v67 0 fun v68=>
 xV_ v67 1 fun v69=>
 CallT Tryz.prog 91 [v0] H4 fun v71 H5=>
 CallT Tryz.prog 92 [v0,v71] H5 fun v74 H6=>
 bS_ tab 24 1 [(0,v10)] H6 (wkK fun v76 H7=>
 lenV tab 26 v2 fun v78=>
 L36_1 K v10 v68 v71 v74 v76 v2 v78 (AV.p (.int .i64 0)) H7))))
def W36 (v0:AV) (v1:AV) (v2:AV) (H:Heap) (K:AV→Heap→Prop):Prop:=
 CallT Tryz.prog 89 [v0,v1] H fun v29 H1=>
 CallT Tryz.prog 66 [v0,v2] H1 fun v32 H2=>
 lenV tab 24 v32 fun v33=>
 L36_0 K v0 v1 v2 v29 (AV.p (.int .i64 (-1))) v32 v33 (AV.p (.int .i64 0)) H2
theorem W36_wp (v0:AV) (v1:AV) (v2:AV) (H:Heap) (K:AV→Heap→Prop):wpC Tryz.prog tab D36 (bO_ Tryz.f36) (retF tab [.tmp 6,.tmp 7,.tmp 8] K) (nthA [v0,v1,v2]) H=W36 v0 v1 v2 H K:=by kernel_rfl
theorem W36_ok {v0 v1 v2:AV} {H:Heap} {K:AV→Heap→Prop} (h:W36 v0 v1 v2 H K):CallT Tryz.prog 36 [v0,v1,v2] H K:=
 CallT.of_wp (D:=D36) tO_ mixed Tryz.func36 (c:=bO_ Tryz.f36) (by kernel_rfl) rfl (by kernel_rfl) (rs:=#[.tmp 6,.tmp 7,.tmp 8]) rfl (by decide +kernel) (by kernel_rfl) (W36_wp v0 v1 v2 H K) h
theorem L36_2_rule {K:AV→Heap→Prop} {N1:AV→AV→Heap→Prop} {v10 v13 v15 v16 v17 v20 v77 v78 v79 v83 v84 v85:AV} {H:Heap} {σ:Type} (s0:σ) (f20:σ→AV) (f85:σ→AV) (TH:σ→Heap) (pre:σ→Prop) (μ:σ→Nat)
  (h0:pre s0∧AV.wk v20 (f20 s0)∧AV.wk v85 (f85 s0)∧Heap.le (TH s0) H)
  (round:∀s,pre s→B36_2 K N1 (fun w20 w85 H'=>∃s',pre s'∧μ s' < μ s∧AV.wk w20 (f20 s')∧AV.wk w85 (f85 s')∧Heap.le (TH s') H') v10 v13 v15 v16 v17 (f20 s) v77 v78 v79 v83 v84 (f85 s) (TH s)) :
  L36_2 K N1 v10 v13 v15 v16 v17 v20 v77 v78 v79 v83 v84 v85 H:=by
 unfold L36_2
 exact LoopV.mk s0 (fun s=>[f20 s,f85 s]) TH pre μ (fun _=>rfl) (Eq.mp (by kernel_rfl) h0) (fun s hs=>Eq.mp (by kernel_rfl) (round s hs))
theorem L36_1_rule {K:AV→Heap→Prop} {v10 v13 v15 v16 v17 v77 v78 v79:AV} {H:Heap} {σ:Type} (s0:σ) (f17:σ→AV) (f79:σ→AV) (TH:σ→Heap) (pre:σ→Prop) (μ:σ→Nat)
  (h0:pre s0∧AV.wk v17 (f17 s0)∧AV.wk v79 (f79 s0)∧Heap.le (TH s0) H)
  (round:∀s,pre s→B36_1 K (fun w17 w79 H'=>∃s',pre s'∧μ s' < μ s∧AV.wk w17 (f17 s')∧AV.wk w79 (f79 s')∧Heap.le (TH s') H') v10 v13 v15 v16 (f17 s) v77 v78 (f79 s) (TH s)) :
  L36_1 K v10 v13 v15 v16 v17 v77 v78 v79 H:=by
 unfold L36_1
 exact LoopV.mk s0 (fun s=>[f17 s,f79 s]) TH pre μ (fun _=>rfl) (Eq.mp (by kernel_rfl) h0) (fun s hs=>Eq.mp (by kernel_rfl) (round s hs))
theorem L36_0_rule {K:AV→Heap→Prop} {v0 v1 v2 v9 v10 v32 v33 v34:AV} {H:Heap} {σ:Type} (s0:σ) (f10:σ→AV) (f34:σ→AV) (TH:σ→Heap) (pre:σ→Prop) (μ:σ→Nat)
  (h0:pre s0∧AV.wk v10 (f10 s0)∧AV.wk v34 (f34 s0)∧Heap.le (TH s0) H)
  (round:∀s,pre s→B36_0 K (fun w10 w34 H'=>∃s',pre s'∧μ s' < μ s∧AV.wk w10 (f10 s')∧AV.wk w34 (f34 s')∧Heap.le (TH s') H') v0 v1 v2 v9 (f10 s) v32 v33 (f34 s) (TH s)) :
  L36_0 K v0 v1 v2 v9 v10 v32 v33 v34 H:=by
 unfold L36_0
 exact LoopV.mk s0 (fun s=>[f10 s,f34 s]) TH pre μ (fun _=>rfl) (Eq.mp (by kernel_rfl) h0) (fun s hs=>Eq.mp (by kernel_rfl) (round s hs))
def D37:Info:=⟨30,fun i=>if i=5 then ([[],[],[1],[],[],[4],[3,4,5],[3,4,5,6],[],[8],[3,4,5,6,7,8,9],[0,1,2,3,4,5,6,7,8,9,10],[0,1,2,3,4,5,6,7,8,9,10,11]],[(0,[]),(1,[]),(2,[]),(3,[]),(4,[]),(5,[]),(6,[]),(7,[]),(8,[]),(9,[]),(10,[2]),(11,[]),(12,[])]) else ([],[]),fun i=>if i=3 then ([3,10,11],[12]) else ([],[])⟩
def L37_0 (K:AV→Heap→Prop) (v3:AV) (v10:AV) (v11:AV) (v12:AV) (H:Heap):Prop:=LoopV (wpC Tryz.prog tab D37 (cAt [1,1,0,1,0,0] (bO_ Tryz.f37))) [3,10,11] (PostF.block 0 (PostF.thenA (wpC Tryz.prog tab D37 (cAt [1,1,1] (bO_ Tryz.f37))) (retF tab [.tmp 2] K))) [12] [Q_,Q_,Q_,v3,Q_,Q_,Q_,Q_,Q_,Q_,v10,v11,v12,Q_,Q_,Q_,Q_,Q_,Q_,Q_,Q_,Q_,Q_,Q_,Q_,Q_,Q_,Q_,Q_,Q_] H
def B37_0 (K:AV→Heap→Prop) (N1:AV→Heap→Prop) (v3:AV) (v10:AV) (v11:AV) (v12:AV) (H:Heap):Prop:=
 binV tab .lss 3 v12 v11 fun v13=>
 cV_ v13 (iA_ tab 25 v10 v12 fun v14=>
 lV_ tab 66 v14 H fun v15=>
 allocV tab 66 H fun v5 H3=>
 sV_ tab 66 v5 v15 H3 fun H4=>
 fA_ tab 66 v5 0 fun v17=>
 lV_ tab 3 v17 H4 fun v18=>
 fA_ tab 66 v5 0 fun v20=>
 lV_ tab 3 v20 H4 fun v21=>
 iA_ tab 26 v3 v21 fun v22=>
 lV_ tab 24 v22 H4 fun v23=>
 fA_ tab 66 v5 2 fun v24=>
 lV_ tab 3 v24 H4 fun v25=>
 CallT Tryz.prog 93 [v23,v25] H4 fun v26 H5=>
 (lV_ tab 3 v17 H5 fun v9018=>
 v18=v9018)∧
 iA_ tab 26 v3 v18 fun v27=>
 sV_ tab 24 v27 v26 H5 fun H6=>
 binV tab .add 3 v12 (AV.p (.int .i64 1)) fun v28=>
 N1 v28 H6)
 (K v3 H)
def W37 (v0:AV) (H:Heap) (K:AV→Heap→Prop):Prop:=
 boxV v0 H fun v1 H1=>
 fA_ tab 28 v1 0 fun v6=>
 lV_ tab 3 v6 H1 fun v7=>
 mS_ tab 26 v7 v7 H1 fun v8 H2=>
 fA_ tab 28 v1 2 fun v9=>
 lV_ tab 25 v9 H2 fun v10=>
 lenV tab 25 v10 fun v11=>
 L37_0 K v8 v10 v11 (AV.p (.int .i64 0)) H2
theorem W37_wp (v0:AV) (H:Heap) (K:AV→Heap→Prop):wpC Tryz.prog tab D37 (bO_ Tryz.f37) (retF tab [.tmp 2] K) (nthA [v0]) H=W37 v0 H K:=by kernel_rfl
theorem W37_ok {v0:AV} {H:Heap} {K:AV→Heap→Prop} (h:W37 v0 H K):CallT Tryz.prog 37 [v0] H K:=
 CallT.of_wp (D:=D37) tO_ mixed Tryz.func37 (c:=bO_ Tryz.f37) (by kernel_rfl) rfl (by kernel_rfl) (rs:=#[.tmp 2]) rfl (by decide +kernel) (by kernel_rfl) (W37_wp v0 H K) h
theorem L37_0_rule {K:AV→Heap→Prop} {v3 v10 v11 v12:AV} {H:Heap} {σ:Type} (s0:σ) (f12:σ→AV) (TH:σ→Heap) (pre:σ→Prop) (μ:σ→Nat)
  (h0:pre s0∧AV.wk v12 (f12 s0)∧Heap.le (TH s0) H)
  (round:∀s,pre s→B37_0 K (fun w12 H'=>∃s',pre s'∧μ s' < μ s∧AV.wk w12 (f12 s')∧Heap.le (TH s') H') v3 v10 v11 (f12 s) (TH s)) :
  L37_0 K v3 v10 v11 v12 H:=by
 unfold L37_0
 exact LoopV.mk s0 (fun s=>[f12 s]) TH pre μ (fun _=>rfl) (Eq.mp (by kernel_rfl) h0) (fun s hs=>Eq.mp (by kernel_rfl) (round s hs))
def D38:Info:=⟨6,fun i=>([],[]),fun i=>([],[])⟩
def W38 (v0:AV) (H:Heap) (K:AV→Heap→Prop):Prop:=
 bS_ tab 24 0 [] H (wkK fun v3 H1=>
 aP_ tab 24 24 v3 v0 H1 (wkK fun v5 H2=>
 K v5 H2))
theorem W38_wp (v0:AV) (H:Heap) (K:AV→Heap→Prop):wpC Tryz.prog tab D38 (bO_ Tryz.f38) (retF tab [.tmp 2] K) (nthA [v0]) H=W38 v0 H K:=by kernel_rfl
theorem W38_ok {v0:AV} {H:Heap} {K:AV→Heap→Prop} (h:W38 v0 H K):CallT Tryz.prog 38 [v0] H K:=
 CallT.of_wp (D:=D38) tO_ mixed Tryz.func38 (c:=bO_ Tryz.f38) (by kernel_rfl) rfl (by kernel_rfl) (rs:=#[.tmp 2]) rfl (by decide +kernel) (by kernel_rfl) (W38_wp v0 H K) h
def D39:Info:=⟨29,fun i=>([],[]),fun i=>if i=2 then ([1,2,10,11],[12]) else ([],[])⟩
def L39_0 (K:AV→Heap→Prop) (v1:AV) (v2:AV) (v10:AV) (v11:AV) (v12:AV) (H:Heap):Prop:=LoopV (wpC Tryz.prog tab D39 (cAt [1,0,1,0,0] (bO_ Tryz.f39))) [1,2,10,11] (PostF.block 0 (PostF.thenA (wpC Tryz.prog tab D39 (cAt [1,1] (bO_ Tryz.f39))) (retF tab [.tmp 6] K))) [12] [Q_,v1,v2,Q_,Q_,Q_,Q_,Q_,Q_,Q_,v10,v11,v12,Q_,Q_,Q_,Q_,Q_,Q_,Q_,Q_,Q_,Q_,Q_,Q_,Q_,Q_,Q_,Q_] H
def B39_0 (K:AV→Heap→Prop) (N1:AV→Heap→Prop) (v1:AV) (v2:AV) (v10:AV) (v11:AV) (v12:AV) (H:Heap):Prop:=
 binV tab .lss 3 v12 v11 fun v13=>
 cV_ v13 (iA_ tab 25 v10 v12 fun v14=>
 lV_ tab 66 v14 H fun v15=>
 allocV tab 66 H fun v8 H2=>
 sV_ tab 66 v8 v15 H2 fun H3=>
 fA_ tab 66 v8 0 fun v16=>
 lV_ tab 3 v16 H3 fun v17=>
 binV tab .eql 3 v17 v1 fun v19=>
 grdV v19 true (fA_ tab 66 v8 2 fun v21=>
 lV_ tab 3 v21 H3 fun v22=>
 binV tab .eql 3 v22 v2 fun v24=>
 cV_ v24 (fA_ tab 66 v8 1 fun v26=>
 lV_ tab 3 v26 H3 fun v27=>
 K v27 H3)
 (binV tab .add 3 v12 (AV.p (.int .i64 1)) fun v28=>
 N1 v28 H3))
 (binV tab .add 3 v12 (AV.p (.int .i64 1)) fun v28=>
 N1 v28 H3))
 (K (AV.p (.int .i64 0)) H)
def W39 (v0:AV) (v1:AV) (v2:AV) (H:Heap) (K:AV→Heap→Prop):Prop:=
 boxV v0 H fun v3 H1=>
 fA_ tab 28 v3 2 fun v9=>
 lV_ tab 25 v9 H1 fun v10=>
 lenV tab 25 v10 fun v11=>
 L39_0 K v1 v2 v10 v11 (AV.p (.int .i64 0)) H1
theorem W39_wp (v0:AV) (v1:AV) (v2:AV) (H:Heap) (K:AV→Heap→Prop):wpC Tryz.prog tab D39 (bO_ Tryz.f39) (retF tab [.tmp 6] K) (nthA [v0,v1,v2]) H=W39 v0 v1 v2 H K:=by kernel_rfl
theorem W39_ok {v0 v1 v2:AV} {H:Heap} {K:AV→Heap→Prop} (h:W39 v0 v1 v2 H K):CallT Tryz.prog 39 [v0,v1,v2] H K:=
 CallT.of_wp (D:=D39) tO_ mixed Tryz.func39 (c:=bO_ Tryz.f39) (by kernel_rfl) rfl (by kernel_rfl) (rs:=#[.tmp 6]) rfl (by decide +kernel) (by kernel_rfl) (W39_wp v0 v1 v2 H K) h
theorem L39_0_rule {K:AV→Heap→Prop} {v1 v2 v10 v11 v12:AV} {H:Heap} {σ:Type} (s0:σ) (f12:σ→AV) (TH:σ→Heap) (pre:σ→Prop) (μ:σ→Nat)
  (h0:pre s0∧AV.wk v12 (f12 s0)∧Heap.le (TH s0) H)
  (round:∀s,pre s→B39_0 K (fun w12 H'=>∃s',pre s'∧μ s' < μ s∧AV.wk w12 (f12 s')∧Heap.le (TH s') H') v1 v2 v10 v11 (f12 s) (TH s)) :
  L39_0 K v1 v2 v10 v11 v12 H:=by
 unfold L39_0
 exact LoopV.mk s0 (fun s=>[f12 s]) TH pre μ (fun _=>rfl) (Eq.mp (by kernel_rfl) h0) (fun s hs=>Eq.mp (by kernel_rfl) (round s hs))
def D40:Info:=⟨9,fun i=>([],[]),fun i=>([],[])⟩
def W40 (v0:AV) (H:Heap) (K:AV→Heap→Prop):Prop:=
 boxV v0 H fun v1 H1=>
 allocV tab 31 H1 fun v2 H2=>
 lV_ tab 31 v1 H2 fun v4=>
 CallT Tryz.prog 14 [v4] H2 fun v5 H3=>
 unV .not v5 fun v6=>
 cV_ v6 (buildV tab 31 [] fun v7=>
 sV_ tab 31 v2 v7 H3 fun H4=>
 lV_ tab 31 v2 H4 fun r0=>
 K (.tup [r0,(AV.p (.bool false))]) H4)
 (lV_ tab 31 v1 H3 fun v8=>
 sV_ tab 31 v2 v8 H3 fun H5=>
 lV_ tab 31 v2 H5 fun r0=>
 K (.tup [r0,(AV.p (.bool true))]) H5)
theorem W40_wp (v0:AV) (H:Heap) (K:AV→Heap→Prop):wpC Tryz.prog tab D40 (bO_ Tryz.f40) (retF tab [.cell 2 31,.tmp 3] K) (nthA [v0]) H=W40 v0 H K:=by kernel_rfl
theorem W40_ok {v0:AV} {H:Heap} {K:AV→Heap→Prop} (h:W40 v0 H K):CallT Tryz.prog 40 [v0] H K:=
 CallT.of_wp (D:=D40) tO_ mixed Tryz.func40 (c:=bO_ Tryz.f40) (by kernel_rfl) rfl (by kernel_rfl) (rs:=#[.cell 2 31,.tmp 3]) rfl (by decide +kernel) (by kernel_rfl) (W40_wp v0 H K) h
def D41:Info:=⟨49,fun i=>if i=5 then ([[],[0],[0,1],[0,1],[0,1,2,3],[0,1,2,3,4],[0,1,2,3,4,5],[0,1,2,3,4,5,6],[0,1,2,3,4,5,6,7],[0,1,2,3,4,5,6,7,8],[0,1,2,3,4,5,6,7,8,9],[0,1,2,3,4,5,6,7,8,9,10],[0,1,2,3,4,5,6,7,8,9,10,11],[0,1,2,3,4,5,6,7,8,9,10,11],[0,1,2,3,4,5,6,7,8,9,10,11,12,13],[0,1,2,3,4,5,6,7,8,9,10,11,12,13,14],[0,1,2,3,4,5,6,7,8,9,10,11],[0,1,2,3,4,5,6,7,8,9,10,11],[0,1,2,3,4,5,6,7,8,9,10,11,16,17],[0,1,2,3,4,5,6,7,8,9,10,11,16,17,18],[0,1,2,3,4,5,6,7,8,9,10,11,12,13,14,15,16,17,18,19],[0,1,2,3,4,5,6,7,8,9,10,11,12,13,14,15,16,17,18,19,20],[0,1,2,3,4,5,6,7,8,9,10,11,12,13,14,15,16,17,18,19,20,21]],[(0,[]),(1,[]),(2,[]),(3,[]),(4,[]),(5,[]),(6,[]),(7,[]),(8,[]),(9,[]),(10,[]),(11,[]),(12,[]),(13,[]),(14,[]),(15,[]),(16,[]),(17,[]),(18,[]),(19,[]),(20,[]),(21,[]),(22,[])]) else ([],[]),fun i=>if i=3 then ([7,16,17],[8,18]) else ([],[])⟩
def L41_0 (K:AV→Heap→Prop) (v7:AV) (v8:AV) (v16:AV) (v17:AV) (v18:AV) (H:Heap):Prop:=LoopV (wpC Tryz.prog tab D41 (cAt [1,1,0,1,0,0] (bO_ Tryz.f41))) [7,16,17] (PostF.block 0 (PostF.thenA (wpC Tryz.prog tab D41 (cAt [1,1,1] (bO_ Tryz.f41))) (retF tab [.tmp 6] K))) [8,18] [Q_,Q_,Q_,Q_,Q_,Q_,Q_,v7,v8,Q_,Q_,Q_,Q_,Q_,Q_,Q_,v16,v17,v18,Q_,Q_,Q_,Q_,Q_,Q_,Q_,Q_,Q_,Q_,Q_,Q_,Q_,Q_,Q_,Q_,Q_,Q_,Q_,Q_,Q_,Q_,Q_,Q_,Q_,Q_,Q_,Q_,Q_,Q_] H
def B41_0 (K:AV→Heap→Prop) (N1:AV→AV→Heap→Prop) (v7:AV) (v8:AV) (v16:AV) (v17:AV) (v18:AV) (H:Heap):Prop:=
 binV tab .lss 3 v18 v17 fun v19=>
 cV_ v19 (iA_ tab 87 v16 v18 fun v21=>
 lV_ tab 4 v21 H fun v22=>
 grdV v22 true (iA_ tab 24 v7 v18 fun v27=>
 lV_ tab 3 v27 H fun v28=>
 binV tab .geq 3 v28 (AV.p (.int .i64 0)) fun v29=>
 grdV v29 true (binV tab .lss 3 v8 (AV.p (.int .i64 0)) fun v33=>
 grdV v33 false (iA_ tab 24 v7 v18 fun v37=>
 lV_ tab 3 v37 H fun v38=>
 iA_ tab 24 v7 v8 fun v41=>
 lV_ tab 3 v41 H fun v42=>
 binV tab .lss 3 v38 v42 fun v43=>
 cV_ v43 (binV tab .add 3 v18 (AV.p (.int .i64 1)) fun v47=>
 N1 v18 v47 H)
 (binV tab .add 3 v18 (AV.p (.int .i64 1)) fun v47=>
 N1 v8 v47 H))
 (binV tab .add 3 v18 (AV.p (.int .i64 1)) fun v47=>
 N1 v18 v47 H))
 (binV tab .add 3 v18 (AV.p (.int .i64 1)) fun v47=>
 N1 v8 v47 H))
 (binV tab .add 3 v18 (AV.p (.int .i64 1)) fun v47=>
 N1 v8 v47 H))
 (K v8 H)
def W41 (v0:AV) (v1:AV) (v2:AV) (H:Heap) (K:AV→Heap→Prop):Prop:=
 CallT Tryz.prog 60 [v0,v1] H fun v13 H1=>
 CallT Tryz.prog 94 [v0,v2] H1 fun v16 H2=>
 lenV tab 87 v16 fun v17=>
 L41_0 K v13 (AV.p (.int .i64 (-1))) v16 v17 (AV.p (.int .i64 0)) H2
theorem W41_wp (v0:AV) (v1:AV) (v2:AV) (H:Heap) (K:AV→Heap→Prop):wpC Tryz.prog tab D41 (bO_ Tryz.f41) (retF tab [.tmp 6] K) (nthA [v0,v1,v2]) H=W41 v0 v1 v2 H K:=by kernel_rfl
theorem W41_ok {v0 v1 v2:AV} {H:Heap} {K:AV→Heap→Prop} (h:W41 v0 v1 v2 H K):CallT Tryz.prog 41 [v0,v1,v2] H K:=
 CallT.of_wp (D:=D41) tO_ mixed Tryz.func41 (c:=bO_ Tryz.f41) (by kernel_rfl) rfl (by kernel_rfl) (rs:=#[.tmp 6]) rfl (by decide +kernel) (by kernel_rfl) (W41_wp v0 v1 v2 H K) h
theorem L41_0_rule {K:AV→Heap→Prop} {v7 v8 v16 v17 v18:AV} {H:Heap} {σ:Type} (s0:σ) (f8:σ→AV) (f18:σ→AV) (TH:σ→Heap) (pre:σ→Prop) (μ:σ→Nat)
  (h0:pre s0∧AV.wk v8 (f8 s0)∧AV.wk v18 (f18 s0)∧Heap.le (TH s0) H)
  (round:∀s,pre s→B41_0 K (fun w8 w18 H'=>∃s',pre s'∧μ s' < μ s∧AV.wk w8 (f8 s')∧AV.wk w18 (f18 s')∧Heap.le (TH s') H') v7 (f8 s) v16 v17 (f18 s) (TH s)) :
  L41_0 K v7 v8 v16 v17 v18 H:=by
 unfold L41_0
 exact LoopV.mk s0 (fun s=>[f8 s,f18 s]) TH pre μ (fun _=>rfl) (Eq.mp (by kernel_rfl) h0) (fun s hs=>Eq.mp (by kernel_rfl) (round s hs))
def D42:Info:=⟨29,fun i=>([],[]),fun i=>([],[])⟩
def W42 (v0:AV) (H:Heap) (K:AV→Heap→Prop):Prop:=
 boxV v0 H fun v1 H1=>
 fA_ tab 31 v1 0 fun v3=>
 lV_ tab 24 v3 H1 fun v4=>
 lenV tab 24 v4 fun v5=>
 binV tab .leq 3 v5 (AV.p (.int .i64 24)) fun v6=>
 grdV v6 true (fA_ tab 31 v1 1 fun v8=>
 lV_ tab 24 v8 H1 fun v9=>
 lenV tab 24 v9 fun v10=>
 binV tab .geq 3 v10 (AV.p (.int .i64 1)) fun v11=>
 grdV v11 true (fA_ tab 31 v1 1 fun v14=>
 lV_ tab 24 v14 H1 fun v15=>
 lenV tab 24 v15 fun v16=>
 binV tab .leq 3 v16 (AV.p (.int .i64 24)) fun v17=>
 grdV v17 true (fA_ tab 31 v1 0 fun v20=>
 lV_ tab 24 v20 H1 fun v21=>
 CallT Tryz.prog 95 [v21] H1 fun v22 H2=>
 grdV v22 true (fA_ tab 31 v1 1 fun v25=>
 lV_ tab 24 v25 H2 fun v26=>
 CallT Tryz.prog 95 [v26] H2 fun v27 H3=>
 K v27 H3)
 (K (AV.p (.bool false)) H2))
 (K (AV.p (.bool false)) H1))
 (K (AV.p (.bool false)) H1))
 (K (AV.p (.bool false)) H1)
theorem W42_wp (v0:AV) (H:Heap) (K:AV→Heap→Prop):wpC Tryz.prog tab D42 (bO_ Tryz.f42) (retF tab [.tmp 2] K) (nthA [v0]) H=W42 v0 H K:=by kernel_rfl
theorem W42_ok {v0:AV} {H:Heap} {K:AV→Heap→Prop} (h:W42 v0 H K):CallT Tryz.prog 42 [v0] H K:=
 CallT.of_wp (D:=D42) tO_ mixed Tryz.func42 (c:=bO_ Tryz.f42) (by kernel_rfl) rfl (by kernel_rfl) (rs:=#[.tmp 2]) rfl (by decide +kernel) (by kernel_rfl) (W42_wp v0 H K) h
def D43:Info:=⟨28,fun i=>if i=3 then ([[],[0],[],[],[3],[3,4],[2,3,4,5],[],[7],[7,8],[2,3,4,5,6,7,8,9],[0,1,2,3,4,5,6,7,8,9,10],[0,1,2,3,4,5,6,7,8,9,10,11],[0,1,2,3,4,5,6,7,8,9,10,11,12]],[(0,[]),(1,[]),(2,[]),(3,[]),(4,[]),(5,[]),(6,[]),(7,[]),(8,[]),(9,[]),(10,[]),(11,[]),(12,[]),(13,[])]) else ([],[]),fun i=>([],[])⟩
def W43 (v0:AV) (v1:AV) (H:Heap) (K:AV→Heap→Prop):Prop:=
 boxV v0 H fun v2 H1=>
 fA_ tab 31 v2 0 fun v6=>
 lV_ tab 24 v6 H1 fun v7=>
 lenV tab 24 v7 fun v8=>
 binV tab .lss 3 v1 v8 fun v9=>
 cV_ v9 (fA_ tab 31 v2 0 fun v10=>
 lV_ tab 24 v10 H1 fun v11=>
 iA_ tab 24 v11 v1 fun v13=>
 lV_ tab 3 v13 H1 fun v14=>
 K v14 H1)
 (fA_ tab 31 v2 1 fun v15=>
 lV_ tab 24 v15 H1 fun v16=>
 fA_ tab 31 v2 0 fun v18=>
 lV_ tab 24 v18 H1 fun v19=>
 lenV tab 24 v19 fun v20=>
 binV tab .sub 3 v1 v20 fun v21=>
 fA_ tab 31 v2 1 fun v22=>
 lV_ tab 24 v22 H1 fun v23=>
 lenV tab 24 v23 fun v24=>
 binV tab .rem 3 v21 v24 fun v25=>
 iA_ tab 24 v16 v25 fun v26=>
 lV_ tab 3 v26 H1 fun v27=>
 K v27 H1)
theorem W43_wp (v0:AV) (v1:AV) (H:Heap) (K:AV→Heap→Prop):wpC Tryz.prog tab D43 (bO_ Tryz.f43) (retF tab [.tmp 4] K) (nthA [v0,v1]) H=W43 v0 v1 H K:=by kernel_rfl
theorem W43_ok {v0 v1:AV} {H:Heap} {K:AV→Heap→Prop} (h:W43 v0 v1 H K):CallT Tryz.prog 43 [v0,v1] H K:=
 CallT.of_wp (D:=D43) tO_ mixed Tryz.func43 (c:=bO_ Tryz.f43) (by kernel_rfl) rfl (by kernel_rfl) (rs:=#[.tmp 4]) rfl (by decide +kernel) (by kernel_rfl) (W43_wp v0 v1 H K) h
def D44:Info:=⟨20,fun i=>([],[]),fun i=>([],[])⟩
def W44 (v0:AV) (v1:AV) (H:Heap) (K:AV→Heap→Prop):Prop:=
 boxV v0 H fun v2 H1=>
 binV tab .add 3 v1 (AV.p (.int .i64 1)) fun v6=>
 fA_ tab 31 v2 0 fun v7=>
 lV_ tab 24 v7 H1 fun v8=>
 lenV tab 24 v8 fun v9=>
 fA_ tab 31 v2 1 fun v10=>
 lV_ tab 24 v10 H1 fun v11=>
 lenV tab 24 v11 fun v12=>
 binV tab .add 3 v9 v12 fun v13=>
 binV tab .lss 3 v6 v13 fun v14=>
 cV_ v14 (binV tab .add 3 v1 (AV.p (.int .i64 1)) fun v16=>
 K v16 H1)
 (fA_ tab 31 v2 0 fun v17=>
 lV_ tab 24 v17 H1 fun v18=>
 lenV tab 24 v18 fun v19=>
 K v19 H1)
theorem W44_wp (v0:AV) (v1:AV) (H:Heap) (K:AV→Heap→Prop):wpC Tryz.prog tab D44 (bO_ Tryz.f44) (retF tab [.tmp 4] K) (nthA [v0,v1]) H=W44 v0 v1 H K:=by kernel_rfl
theorem W44_ok {v0 v1:AV} {H:Heap} {K:AV→Heap→Prop} (h:W44 v0 v1 H K):CallT Tryz.prog 44 [v0,v1] H K:=
 CallT.of_wp (D:=D44) tO_ mixed Tryz.func44 (c:=bO_ Tryz.f44) (by kernel_rfl) rfl (by kernel_rfl) (rs:=#[.tmp 4]) rfl (by decide +kernel) (by kernel_rfl) (W44_wp v0 v1 H K) h
end Go.Proofs.YtohkciilfkhomaaGreat
