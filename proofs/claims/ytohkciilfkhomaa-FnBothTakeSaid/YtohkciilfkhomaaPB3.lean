/- Texts laid together: Lr0 Tab W0 W1 W2 W3. -/
import Derived.Test.YtohkciilfkhomaaPB2
import Derived.Test.YtohkciilfkhomaaProg
import Derived.KernelRfl
set_option linter.unusedVariables false
set_option linter.unusedSimpArgs false
open Go.Sep.AV renaming any → Q_
open Nat renaming reduceAdd→ν1,reduceLeDiff→ν2,reduceLT→ν3,reduceMul→ν4,reduceSub→ν5
open Int renaming reduceToNat→ι1,reduceSub→ι2,reduceAdd→ι3,reduceNeg→ι4
open Array renaming toList→ι5
open Ne renaming symm→ν6
open List renaming forall_mem_cons→ν7
namespace Go.Sep
open Go Go.RowKit
theorem args_cons {P:Program} {t:TypeId} {ts:List TypeId} {avs:List AV} (h:ArgsT P (t::ts) avs):∃v vs,avs=v::vs∧ArgT P t v∧ArgsT P ts vs:=by
 cases h with
 | cons h r=>exact ⟨_,_,rfl,h,r⟩
theorem args_nil {P:Program} {avs:List AV} (h:ArgsT P [] avs):avs=[]:=by cases h;rfl
end Go.Sep
namespace Go.Proofs.Ytohkciilfkhomaa
open Go Go.Sep
def td1:TD:=⟨.func,1,8,[.nilfn]⟩
def td2:TD:=⟨.int .i64,1,8,[(.p (.int .i64 0))]⟩
def td3:TD:=⟨.int .i64,1,8,[(.p (.int .i64 0))]⟩
def td4:TD:=⟨.bool,1,1,[(.p (.bool false))]⟩
def td5:TD:=⟨.int .u8,1,1,[(.p (.int .u8 0))]⟩
def td22:TD:=⟨.slice 5,1,24,[(.p .nil)]⟩
def td24:TD:=⟨.slice 3,1,24,[(.p .nil)]⟩
def td25:TD:=⟨.slice 46,1,24,[(.p .nil)]⟩
def td26:TD:=⟨.slice 24,1,24,[(.p .nil)]⟩
def td28:TD:=⟨.struct [(0,3),(1,24),(2,25),(3,26)],4,80,[(.p (.int .i64 0)),(.p .nil),(.p .nil),(.p .nil)]⟩
def td35:TD:=⟨.struct [(0,24),(1,24)],2,48,[(.p .nil),(.p .nil)]⟩
def td46:TD:=⟨.struct [(0,3),(1,3),(2,3)],3,24,[(.p (.int .i64 0)),(.p (.int .i64 0)),(.p (.int .i64 0))]⟩
def td54:TD:=⟨.int .u64,1,8,[(.p (.int .u64 0))]⟩
def td56:TD:=⟨.struct [(0,22),(1,3),(2,54)],3,40,[(.p .nil),(.p (.int .i64 0)),(.p (.int .u64 0))]⟩
def td81:TD:=⟨.slice 4,1,24,[(.p .nil)]⟩
def td98:TD:=⟨.int .u64,1,8,[(.p (.int .u64 0))]⟩
def td103:TD:=⟨.struct [(0,26),(1,81),(2,24)],3,72,[(.p .nil),(.p .nil),(.p .nil)]⟩
def td110:TD:=⟨.struct [(0,26),(1,24),(2,24),(3,24),(4,24),(5,3)],6,128,[(.p .nil),(.p .nil),(.p .nil),(.p .nil),(.p .nil),(.p (.int .i64 0))]⟩
def tabL:List (Nat×TD):=[(1,td1),(2,td2),(3,td3),(4,td4),(5,td5),(22,td22),(24,td24),(25,td25),(26,td26),(28,td28),(35,td35),(46,td46),(54,td54),(56,td56),(81,td81),(98,td98),(103,td103),(110,td110)]
def tab:Tab:=fun t=>(tabL.find? (fun p=>p.1==t)).map (·.2)
theorem tab_1:tab 1=some ⟨.func,1,8,[.nilfn]⟩:=rfl
theorem tab_2:tab 2=some ⟨.int .i64,1,8,[(.p (.int .i64 0))]⟩:=rfl
theorem tab_3:tab 3=some ⟨.int .i64,1,8,[(.p (.int .i64 0))]⟩:=rfl
theorem tab_4:tab 4=some ⟨.bool,1,1,[(.p (.bool false))]⟩:=rfl
theorem tab_5:tab 5=some ⟨.int .u8,1,1,[(.p (.int .u8 0))]⟩:=rfl
theorem tab_22:tab 22=some ⟨.slice 5,1,24,[(.p .nil)]⟩:=rfl
theorem tab_24:tab 24=some ⟨.slice 3,1,24,[(.p .nil)]⟩:=rfl
theorem tab_25:tab 25=some ⟨.slice 46,1,24,[(.p .nil)]⟩:=rfl
theorem tab_26:tab 26=some ⟨.slice 24,1,24,[(.p .nil)]⟩:=rfl
theorem tab_28:tab 28=some ⟨.struct [(0,3),(1,24),(2,25),(3,26)],4,80,[(.p (.int .i64 0)),(.p .nil),(.p .nil),(.p .nil)]⟩:=rfl
theorem tab_35:tab 35=some ⟨.struct [(0,24),(1,24)],2,48,[(.p .nil),(.p .nil)]⟩:=rfl
theorem tab_46:tab 46=some ⟨.struct [(0,3),(1,3),(2,3)],3,24,[(.p (.int .i64 0)),(.p (.int .i64 0)),(.p (.int .i64 0))]⟩:=rfl
theorem tab_54:tab 54=some ⟨.int .u64,1,8,[(.p (.int .u64 0))]⟩:=rfl
theorem tab_56:tab 56=some ⟨.struct [(0,22),(1,3),(2,54)],3,40,[(.p .nil),(.p (.int .i64 0)),(.p (.int .u64 0))]⟩:=rfl
theorem tab_81:tab 81=some ⟨.slice 4,1,24,[(.p .nil)]⟩:=rfl
theorem tab_98:tab 98=some ⟨.int .u64,1,8,[(.p (.int .u64 0))]⟩:=rfl
theorem tab_103:tab 103=some ⟨.struct [(0,26),(1,81),(2,24)],3,72,[(.p .nil),(.p .nil),(.p .nil)]⟩:=rfl
theorem tab_110:tab 110=some ⟨.struct [(0,26),(1,24),(2,24),(3,24),(4,24),(5,3)],6,128,[(.p .nil),(.p .nil),(.p .nil),(.p .nil),(.p .nil),(.p (.int .i64 0))]⟩:=rfl
set_option maxRecDepth 100000 in
theorem tabs:tab 1=some ⟨.func,1,8,[.nilfn]⟩∧tab 2=some ⟨.int .i64,1,8,[(.p (.int .i64 0))]⟩∧tab 3=some ⟨.int .i64,1,8,[(.p (.int .i64 0))]⟩∧tab 4=some ⟨.bool,1,1,[(.p (.bool false))]⟩∧tab 5=some ⟨.int .u8,1,1,[(.p (.int .u8 0))]⟩∧tab 22=some ⟨.slice 5,1,24,[(.p .nil)]⟩∧tab 24=some ⟨.slice 3,1,24,[(.p .nil)]⟩∧tab 25=some ⟨.slice 46,1,24,[(.p .nil)]⟩∧tab 26=some ⟨.slice 24,1,24,[(.p .nil)]⟩∧tab 28=some ⟨.struct [(0,3),(1,24),(2,25),(3,26)],4,80,[(.p (.int .i64 0)),(.p .nil),(.p .nil),(.p .nil)]⟩∧tab 35=some ⟨.struct [(0,24),(1,24)],2,48,[(.p .nil),(.p .nil)]⟩∧tab 46=some ⟨.struct [(0,3),(1,3),(2,3)],3,24,[(.p (.int .i64 0)),(.p (.int .i64 0)),(.p (.int .i64 0))]⟩∧tab 54=some ⟨.int .u64,1,8,[(.p (.int .u64 0))]⟩∧tab 56=some ⟨.struct [(0,22),(1,3),(2,54)],3,40,[(.p .nil),(.p (.int .i64 0)),(.p (.int .u64 0))]⟩∧tab 81=some ⟨.slice 4,1,24,[(.p .nil)]⟩∧tab 98=some ⟨.int .u64,1,8,[(.p (.int .u64 0))]⟩∧tab 103=some ⟨.struct [(0,26),(1,81),(2,24)],3,72,[(.p .nil),(.p .nil),(.p .nil)]⟩∧tab 110=some ⟨.struct [(0,26),(1,24),(2,24),(3,24),(4,24),(5,3)],6,128,[(.p .nil),(.p .nil),(.p .nil),(.p .nil),(.p .nil),(.p (.int .i64 0))]⟩:=⟨tab_1,tab_2,tab_3,tab_4,tab_5,tab_22,tab_24,tab_25,tab_26,tab_28,tab_35,tab_46,tab_54,tab_56,tab_81,tab_98,tab_103,tab_110⟩
theorem info1:(Try.prog.info? 1).map (fun i=>(i.zero,i.size,i.bytes))=some (some .nilFunc,1,8):=by kernel_rfl
theorem td1_ok:TD.Ok Try.prog 1 td1:=TD.Ok.of ⟨_,_,_,Try.underlying1⟩ info1 rfl rfl (by decide) (fun _=>rfl)
theorem info2:(Try.prog.info? 2).map (fun i=>(i.zero,i.size,i.bytes))=some (some (.int .i64 0),1,8):=by kernel_rfl
theorem td2_ok:TD.Ok Try.prog 2 td2:=TD.Ok.of Try.underlying2 info2 rfl rfl (by decide) (fun _=>rfl)
theorem info3:(Try.prog.info? 3).map (fun i=>(i.zero,i.size,i.bytes))=some (some (.int .i64 0),1,8):=by kernel_rfl
theorem td3_ok:TD.Ok Try.prog 3 td3:=TD.Ok.of Try.underlying3 info3 rfl rfl (by decide) (fun _=>rfl)
theorem info4:(Try.prog.info? 4).map (fun i=>(i.zero,i.size,i.bytes))=some (some (.bool false),1,1):=by kernel_rfl
theorem td4_ok:TD.Ok Try.prog 4 td4:=TD.Ok.of Try.underlying4 info4 rfl rfl (by decide) (fun _=>rfl)
theorem info5:(Try.prog.info? 5).map (fun i=>(i.zero,i.size,i.bytes))=some (some (.int .u8 0),1,1):=by kernel_rfl
theorem td5_ok:TD.Ok Try.prog 5 td5:=TD.Ok.of Try.underlying5 info5 rfl rfl (by decide) (fun _=>rfl)
theorem info22:(Try.prog.info? 22).map (fun i=>(i.zero,i.size,i.bytes))=some (some (.slice none 0 0),1,24):=by kernel_rfl
theorem td22_ok:TD.Ok Try.prog 22 td22:=TD.Ok.of Try.underlying22 info22 rfl rfl (by decide) (fun _=>rfl)
theorem info24:(Try.prog.info? 24).map (fun i=>(i.zero,i.size,i.bytes))=some (some (.slice none 0 0),1,24):=by kernel_rfl
theorem td24_ok:TD.Ok Try.prog 24 td24:=TD.Ok.of Try.underlying24 info24 rfl rfl (by decide) (fun _=>rfl)
theorem info25:(Try.prog.info? 25).map (fun i=>(i.zero,i.size,i.bytes))=some (some (.slice none 0 0),1,24):=by kernel_rfl
theorem td25_ok:TD.Ok Try.prog 25 td25:=TD.Ok.of Try.underlying25 info25 rfl rfl (by decide) (fun _=>rfl)
theorem info26:(Try.prog.info? 26).map (fun i=>(i.zero,i.size,i.bytes))=some (some (.slice none 0 0),1,24):=by kernel_rfl
theorem td26_ok:TD.Ok Try.prog 26 td26:=TD.Ok.of Try.underlying26 info26 rfl rfl (by decide) (fun _=>rfl)
theorem info28:(Try.prog.info? 28).map (fun i=>(i.zero,i.size,i.bytes))=some (some (.agg #[(.int .i64 0),(.slice none 0 0),(.slice none 0 0),(.slice none 0 0)]),4,80):=by kernel_rfl
theorem td28_ok:TD.Ok Try.prog 28 td28:=TD.Ok.of ⟨_,Try.underlying28,rfl,Try.stoodInHeld28,Try.eqGuardType28,by decide⟩ info28 rfl rfl (by decide) (fun h=>by cases h)
theorem info35:(Try.prog.info? 35).map (fun i=>(i.zero,i.size,i.bytes))=some (some (.agg #[(.slice none 0 0),(.slice none 0 0)]),2,48):=by kernel_rfl
theorem td35_ok:TD.Ok Try.prog 35 td35:=TD.Ok.of ⟨_,Try.underlying35,rfl,Try.stoodInHeld35,Try.eqGuardType35,by decide⟩ info35 rfl rfl (by decide) (fun h=>by cases h)
theorem info46:(Try.prog.info? 46).map (fun i=>(i.zero,i.size,i.bytes))=some (some (.agg #[(.int .i64 0),(.int .i64 0),(.int .i64 0)]),3,24):=by kernel_rfl
theorem td46_ok:TD.Ok Try.prog 46 td46:=TD.Ok.of ⟨_,Try.underlying46,rfl,Try.stoodInHeld46,Try.eqGuardType46,by decide⟩ info46 rfl rfl (by decide) (fun h=>by cases h)
theorem info54:(Try.prog.info? 54).map (fun i=>(i.zero,i.size,i.bytes))=some (some (.int .u64 0),1,8):=by kernel_rfl
theorem td54_ok:TD.Ok Try.prog 54 td54:=TD.Ok.of Try.underlying54 info54 rfl rfl (by decide) (fun _=>rfl)
theorem info56:(Try.prog.info? 56).map (fun i=>(i.zero,i.size,i.bytes))=some (some (.agg #[(.slice none 0 0),(.int .i64 0),(.int .u64 0)]),3,40):=by kernel_rfl
theorem td56_ok:TD.Ok Try.prog 56 td56:=TD.Ok.of ⟨_,Try.underlying56,rfl,Try.stoodInHeld56,Try.eqGuardType56,by decide⟩ info56 rfl rfl (by decide) (fun h=>by cases h)
theorem info81:(Try.prog.info? 81).map (fun i=>(i.zero,i.size,i.bytes))=some (some (.slice none 0 0),1,24):=by kernel_rfl
theorem td81_ok:TD.Ok Try.prog 81 td81:=TD.Ok.of Try.underlying81 info81 rfl rfl (by decide) (fun _=>rfl)
theorem info98:(Try.prog.info? 98).map (fun i=>(i.zero,i.size,i.bytes))=some (some (.int .u64 0),1,8):=by kernel_rfl
theorem td98_ok:TD.Ok Try.prog 98 td98:=TD.Ok.of Try.underlying98 info98 rfl rfl (by decide) (fun _=>rfl)
theorem info103:(Try.prog.info? 103).map (fun i=>(i.zero,i.size,i.bytes))=some (some (.agg #[(.slice none 0 0),(.slice none 0 0),(.slice none 0 0)]),3,72):=by kernel_rfl
theorem td103_ok:TD.Ok Try.prog 103 td103:=TD.Ok.of ⟨_,Try.underlying103,rfl,Try.stoodInHeld103,Try.eqGuardType103,by decide⟩ info103 rfl rfl (by decide) (fun h=>by cases h)
theorem info110:(Try.prog.info? 110).map (fun i=>(i.zero,i.size,i.bytes))=some (some (.agg #[(.slice none 0 0),(.slice none 0 0),(.slice none 0 0),(.slice none 0 0),(.slice none 0 0),(.int .i64 0)]),6,128):=by kernel_rfl
theorem td110_ok:TD.Ok Try.prog 110 td110:=TD.Ok.of ⟨_,Try.underlying110,rfl,Try.stoodInHeld110,Try.eqGuardType110,by decide⟩ info110 rfl rfl (by decide) (fun h=>by cases h)
set_option maxRecDepth 100000 in
theorem tabL_ok:∀p∈tabL,TD.Ok Try.prog p.1 p.2:=
 (ν7.2 ⟨td1_ok,(ν7.2 ⟨td2_ok,(ν7.2 ⟨td3_ok,(ν7.2 ⟨td4_ok,(ν7.2 ⟨td5_ok,(ν7.2 ⟨td22_ok,(ν7.2 ⟨td24_ok,(ν7.2 ⟨td25_ok,(ν7.2 ⟨td26_ok,(ν7.2 ⟨td28_ok,(ν7.2 ⟨td35_ok,(ν7.2 ⟨td46_ok,(ν7.2 ⟨td54_ok,(ν7.2 ⟨td56_ok,(ν7.2 ⟨td81_ok,(ν7.2 ⟨td98_ok,(ν7.2 ⟨td103_ok,(ν7.2 ⟨td110_ok,(fun _ h=>by cases h)⟩)⟩)⟩)⟩)⟩)⟩)⟩)⟩)⟩)⟩)⟩)⟩)⟩)⟩)⟩)⟩)⟩)⟩)
theorem mixed:Try.prog.follows .mixedOrders=true:=by kernel_rfl
theorem tO_:tab.Ok Try.prog:=Tab.Ok.of_list tabL_ok
end Go.Proofs.Ytohkciilfkhomaa
namespace Go.Proofs.Ytohkciilfkhomaa
open Go Go.Sep
attribute [local irreducible] wpC headF
def D3:Info:=⟨91,fun i=>([],[]),fun i=>([],[])⟩
def D4:Info:=⟨98,fun i=>if i=6 then ([[],[],[0,1],[0,1,2],[0,1,2,3],[0,1,2,3],[0,1,2,3,4,5],[0,1,2,3,4,5,6],[0,1,2,3,4,5,6,7],[0,1,2,3,4,5,6,7,8],[0,1,2,3,4,5,6,7,8,9],[0,1,2,3,4,5,6,7,8,9,10],[0,1,2,3,4,5,6,7,8,9],[0,1,2,3,4,5,6,7,8,9,10,11,12],[0,1,2,3,4,5,6,7,8,9,10,11,12,13],[0,1,2,3,4,5,6,7,8,9,10,11,12,13,14]],[(0,[]),(1,[]),(2,[]),(3,[]),(4,[]),(5,[]),(6,[]),(7,[]),(8,[]),(9,[]),(10,[]),(12,[]),(11,[12]),(13,[]),(14,[]),(15,[])]) else ([],[]),fun i=>([],[])⟩
def W4 (v0:AV) (v1:AV) (H:Heap) (K:AV→Heap→Prop):Prop:=
 CallT Try.prog 5 [v0,v1] H fun v21 H1=>
 cV_ v21 (K (AV.p (.bool true)) H1)
 (CallT Try.prog 13 [v0] H1 fun v24 H2=>
 xV_ v24 0 fun v25=>
 xV_ v24 1 fun v26=>
 allocV tab 28 H2 fun v5 H3=>
 allocV tab 28 H3 fun v6 H4=>
 sV_ tab 28 v5 v25 H4 fun H5=>
 sV_ tab 28 v6 v26 H5 fun H6=>
 lV_ tab 28 v5 H6 fun v28=>
 lV_ tab 28 v6 H6 fun v29=>
 CallT Try.prog 14 [v28,v29] H6 fun v30 H7=>
 xV_ v30 0 fun v31=>
 xV_ v30 1 fun v32=>
 allocV tab 28 H7 fun v7 H8=>
 sV_ tab 28 v7 v31 H8 fun H9=>
 lV_ tab 28 v5 H9 fun v34=>
 lV_ tab 28 v6 H9 fun v35=>
 CallT Try.prog 15 [v34,v35] H9 fun v36 H10=>
 xV_ v36 0 fun v37=>
 xV_ v36 1 fun v38=>
 allocV tab 28 H10 fun v9 H11=>
 sV_ tab 28 v9 v37 H11 fun H12=>
 binV tab .neq 4 v32 v38 fun v41=>
 grdV v41 false (lV_ tab 28 v7 H12 fun v43=>
 lV_ tab 28 v9 H12 fun v44=>
 CallT Try.prog 9 [v43,v44] H12 fun v45 H13=>
 unV .not v45 fun v46=>
 grdV v46 false (lV_ tab 28 v5 H13 fun v49=>
 lV_ tab 28 v5 H13 fun v51=>
 CallT Try.prog 16 [v49] H13 fun v50 H14=>
 (lV_ tab 28 v5 H14 fun v9051=>
 v51=v9051)∧
 CallT Try.prog 17 [v51] H14 fun v52 H15=>
 binV tab .neq 4 v50 v52 fun v53=>
 cV_ v53 (K (AV.p (.bool false)) H15)
 (CallT Try.prog 10 [v1] H15 fun v57 H16=>
 xV_ v57 0 fun v58=>
 xV_ v57 1 fun v59=>
 allocV tab 28 H16 fun v11 H17=>
 allocV tab 35 H17 fun v12 H18=>
 sV_ tab 28 v11 v58 H18 fun H19=>
 sV_ tab 35 v12 v59 H19 fun H20=>
 grdV v32 true (lV_ tab 35 v12 H20 fun v62=>
 CallT Try.prog 11 [v62] H20 fun v63 H21=>
 cV_ v63 (lV_ tab 28 v5 H21 fun v66=>
 lV_ tab 35 v12 H21 fun v67=>
 CallT Try.prog 12 [v66,v67] H21 fun v68 H22=>
 xV_ v68 0 fun v69=>
 xV_ v68 1 fun v70=>
 lV_ tab 28 v6 H22 fun v72=>
 lV_ tab 35 v12 H22 fun v73=>
 CallT Try.prog 12 [v72,v73] H22 fun v74 H23=>
 xV_ v74 0 fun v75=>
 xV_ v74 1 fun v76=>
 lV_ tab 28 v7 H23 fun v78=>
 lV_ tab 35 v12 H23 fun v79=>
 CallT Try.prog 12 [v78,v79] H23 fun v80 H24=>
 xV_ v80 0 fun v81=>
 xV_ v80 1 fun v82=>
 grdV v70 true (grdV v76 true (grdV v82 true (grdV v69 true (binV tab .eql 4 v81 v75 fun v96=>
 K v96 H24)
 (binV tab .eql 4 v81 (AV.p (.bool false)) fun v96=>
 K v96 H24))
 (K (AV.p (.bool false)) H24))
 (K (AV.p (.bool false)) H24))
 (K (AV.p (.bool false)) H24))
 (K (AV.p (.bool true)) H21))
 (K (AV.p (.bool true)) H20)))
 ((AV.und=AV.und)∧
 K (AV.p (.bool false)) H13))
 ((AV.und=AV.und)∧
 K (AV.p (.bool false)) H12))
theorem W4_wp (v0:AV) (v1:AV) (H:Heap) (K:AV→Heap→Prop):wpC Try.prog tab D4 (bO_ Try.f4) (retF tab [.tmp 4] K) (nthA [v0,v1]) H=W4 v0 v1 H K:=by kernel_rfl
theorem W4_ok {v0 v1:AV} {H:Heap} {K:AV→Heap→Prop} (h:W4 v0 v1 H K):CallT Try.prog 4 [v0,v1] H K:=
 CallT.of_wp (D:=D4) tO_ mixed Try.func4 (c:=bO_ Try.f4) (by kernel_rfl) rfl (by kernel_rfl) (rs:=#[.tmp 4]) rfl (by decide +kernel) (by kernel_rfl) (W4_wp v0 v1 H K) h
def D5:Info:=⟨16,fun i=>([],[]),fun i=>([],[])⟩
def W5 (v0:AV) (v1:AV) (H:Heap) (K:AV→Heap→Prop):Prop:=
 lenV tab 22 v0 fun v6=>
 binV tab .gtr 3 v6 (AV.p (.int .i64 1048576)) fun v7=>
 grdV v7 false (lenV tab 22 v1 fun v10=>
 lenV tab 22 v0 fun v12=>
 binV tab .sub 3 (AV.p (.int .i64 1048576)) v12 fun v13=>
 binV tab .gtr 3 v10 v13 fun v14=>
 K v14 H)
 (K (AV.p (.bool true)) H)
theorem W5_wp (v0:AV) (v1:AV) (H:Heap) (K:AV→Heap→Prop):wpC Try.prog tab D5 (bO_ Try.f5) (retF tab [.tmp 4] K) (nthA [v0,v1]) H=W5 v0 v1 H K:=by kernel_rfl
theorem W5_ok {v0 v1:AV} {H:Heap} {K:AV→Heap→Prop} (h:W5 v0 v1 H K):CallT Try.prog 5 [v0,v1] H K:=
 CallT.of_wp (D:=D5) tO_ mixed Try.func5 (c:=bO_ Try.f5) (by kernel_rfl) rfl (by kernel_rfl) (rs:=#[.tmp 4]) rfl (by decide +kernel) (by kernel_rfl) (W5_wp v0 v1 H K) h
def D7:Info:=⟨94,fun i=>if i=3 then ([[],[0],[],[2],[0,1,2,3],[],[5],[],[7],[],[9],[7,8,9,10],[5,6,7,8,9,10,11],[5,6,7,8,9,10,11,12],[],[14],[5,6,7,8,9,10,11,12,13,14,15],[0,1,2,3,4,5,6,7,8,9,10,11,12,13,14,15,16],[],[0,1,2,3,4,5,6,7,8,9,10,11,12,13,14,15,16,17,18]],[(0,[]),(1,[]),(2,[]),(3,[]),(4,[]),(5,[]),(6,[]),(7,[]),(8,[]),(9,[]),(10,[]),(14,[]),(15,[]),(11,[1,3,6,15]),(12,[1,3,15]),(13,[1,3,15]),(16,[1,3]),(17,[]),(18,[]),(19,[])]) else if i=12 then ([[],[0],[],[],[2,3],[],[],[2,3,4,5,6],[],[8],[2,3,4,5,6,7,8,9],[2,3,4,5,6,7,8,9,10],[2,3,4,5,6,7,8,9,10,11],[2,3,4,5,6,7,8,9,10,11,12],[0,1,2,3,4,5,6,7,8,9,10,11,12,13],[0,1,2,3,4,5,6,7,8,9,10,11,12,13,14],[0,1,2,3,4,5,6,7,8,9,10,11,12,13,14,15]],[(0,[]),(1,[]),(2,[]),(3,[]),(5,[]),(6,[]),(8,[]),(9,[]),(4,[1,5,9]),(7,[1,9]),(10,[1]),(11,[1]),(12,[1]),(13,[1]),(14,[]),(15,[]),(16,[])]) else ([],[]),fun i=>if i=5 then ([2,3,4,6,38,39],[40]) else if i=10 then ([2,3,4,6,69],[70]) else ([],[])⟩
def D9:Info:=⟨54,fun i=>if i=6 then ([[],[0],[],[0,1,2],[0,1,2,3],[],[5],[],[5,6,7],[5,6,7,8],[0,1,2,3,4,5,6,7,8,9]],[(0,[]),(1,[]),(2,[]),(3,[]),(4,[]),(5,[]),(6,[]),(7,[]),(8,[]),(9,[]),(10,[])]) else ([],[]),fun i=>if i=4 then ([2,3,38],[39]) else ([],[])⟩
def L9_0 (K:AV→Heap→Prop) (v2:AV) (v3:AV) (v38:AV) (v39:AV) (H:Heap):Prop:=LoopV (wpC Try.prog tab D9 (cAt [1,1,0,1,0,0] (bO_ Try.f9))) [2,3,38] (PostF.block 0 (PostF.thenA (wpC Try.prog tab D9 (cAt [1,1,1] (bO_ Try.f9))) (retF tab [.tmp 4] K))) [39] [Q_,Q_,v2,v3,Q_,Q_,Q_,Q_,Q_,Q_,Q_,Q_,Q_,Q_,Q_,Q_,Q_,Q_,Q_,Q_,Q_,Q_,Q_,Q_,Q_,Q_,Q_,Q_,Q_,Q_,Q_,Q_,Q_,Q_,Q_,Q_,Q_,Q_,v38,v39,Q_,Q_,Q_,Q_,Q_,Q_,Q_,Q_,Q_,Q_,Q_,Q_,Q_,Q_] H
def B9_0 (K:AV→Heap→Prop) (N1:AV→Heap→Prop) (v2:AV) (v3:AV) (v38:AV) (v39:AV) (H:Heap):Prop:=
 binV tab .lss 3 v39 v38 fun v40=>
 cV_ v40 (fA_ tab 28 v2 2 fun v42=>
 lV_ tab 25 v42 H fun v43=>
 iA_ tab 25 v43 v39 fun v45=>
 lV_ tab 46 v45 H fun v46=>
 fA_ tab 28 v3 2 fun v47=>
 lV_ tab 25 v47 H fun v48=>
 iA_ tab 25 v48 v39 fun v50=>
 lV_ tab 46 v50 H fun v51=>
 binV tab .neq 46 v46 v51 fun v52=>
 cV_ v52 (K (AV.p (.bool false)) H)
 (binV tab .add 3 v39 (AV.p (.int .i64 1)) fun v53=>
 N1 v53 H))
 (K (AV.p (.bool true)) H)
def W9 (v0:AV) (v1:AV) (H:Heap) (K:AV→Heap→Prop):Prop:=
 boxV v0 H fun v2 H1=>
 boxV v1 H1 fun v3 H2=>
 fA_ tab 28 v2 0 fun v6=>
 lV_ tab 3 v6 H2 fun v7=>
 fA_ tab 28 v3 0 fun v8=>
 lV_ tab 3 v8 H2 fun v9=>
 binV tab .neq 3 v7 v9 fun v10=>
 grdV v10 false (fA_ tab 28 v2 1 fun v12=>
 lV_ tab 24 v12 H2 fun v13=>
 fA_ tab 28 v3 1 fun v14=>
 lV_ tab 24 v14 H2 fun v15=>
 CallT Try.prog 26 [v13,v15] H2 fun v16 H3=>
 unV .not v16 fun v17=>
 grdV v17 false (fA_ tab 28 v2 2 fun v20=>
 lV_ tab 25 v20 H3 fun v21=>
 lenV tab 25 v21 fun v22=>
 fA_ tab 28 v3 2 fun v23=>
 lV_ tab 25 v23 H3 fun v24=>
 lenV tab 25 v24 fun v25=>
 binV tab .neq 3 v22 v25 fun v26=>
 grdV v26 false (fA_ tab 28 v2 3 fun v29=>
 lV_ tab 26 v29 H3 fun v30=>
 fA_ tab 28 v3 3 fun v31=>
 lV_ tab 26 v31 H3 fun v32=>
 CallT Try.prog 27 [v30,v32] H3 fun v33 H4=>
 unV .not v33 fun v34=>
 cV_ v34 (K (AV.p (.bool false)) H4)
 (fA_ tab 28 v2 2 fun v36=>
 lV_ tab 25 v36 H4 fun v37=>
 lenV tab 25 v37 fun v38=>
 L9_0 K v2 v3 v38 (AV.p (.int .i64 0)) H4))
 (K (AV.p (.bool false)) H3))
 (K (AV.p (.bool false)) H3))
 (K (AV.p (.bool false)) H2)
theorem W9_wp (v0:AV) (v1:AV) (H:Heap) (K:AV→Heap→Prop):wpC Try.prog tab D9 (bO_ Try.f9) (retF tab [.tmp 4] K) (nthA [v0,v1]) H=W9 v0 v1 H K:=by kernel_rfl
theorem W9_ok {v0 v1:AV} {H:Heap} {K:AV→Heap→Prop} (h:W9 v0 v1 H K):CallT Try.prog 9 [v0,v1] H K:=
 CallT.of_wp (D:=D9) tO_ mixed Try.func9 (c:=bO_ Try.f9) (by kernel_rfl) rfl (by kernel_rfl) (rs:=#[.tmp 4]) rfl (by decide +kernel) (by kernel_rfl) (W9_wp v0 v1 H K) h
theorem L9_0_rule {K:AV→Heap→Prop} {v2 v3 v38 v39:AV} {H:Heap} {σ:Type} (s0:σ) (f39:σ→AV) (TH:σ→Heap) (pre:σ→Prop) (μ:σ→Nat)
  (h0:pre s0∧AV.wk v39 (f39 s0)∧Heap.le (TH s0) H)
  (round:∀s,pre s→B9_0 K (fun w39 H'=>∃s',pre s'∧μ s' < μ s∧AV.wk w39 (f39 s')∧Heap.le (TH s') H') v2 v3 v38 (f39 s) (TH s)) :
  L9_0 K v2 v3 v38 v39 H:=by
 unfold L9_0
 exact LoopV.mk s0 (fun s=>[f39 s]) TH pre μ (fun _=>rfl) (Eq.mp (by kernel_rfl) h0) (fun s hs=>Eq.mp (by kernel_rfl) (round s hs))
def D10:Info:=⟨30,fun i=>if i=6 then ([[],[],[0],[0,1,2]],[(0,[]),(1,[]),(2,[1]),(3,[])]) else if i=7 then ([[],[],[0],[0,1,2]],[(0,[]),(1,[]),(2,[1]),(3,[])]) else ([],[]),fun i=>([],[])⟩
def J10_0 (K:AV→Heap→Prop) (v2:AV) (v3:AV) (v5:AV) (v6:AV) (H:Heap):Prop:=
 lV_ tab 28 v5 H fun v28=>
 lV_ tab 35 v6 H fun v29=>
 sV_ tab 28 v2 v28 H fun H16=>
 (lV_ tab 35 v6 H16 fun v9029=>
 v29=v9029)∧
 sV_ tab 35 v3 v29 H16 fun H17=>
 lV_ tab 28 v2 H17 fun r0=>
 lV_ tab 35 v3 H17 fun r1=>
 K (.tup [r0,r1]) H17
def W10 (v0:AV) (H:Heap) (K:AV→Heap→Prop):Prop:=
 allocV tab 28 H fun v2 H1=>
 allocV tab 35 H1 fun v3 H2=>
 buildV tab 56 [(0,v0)] fun v10=>
 boxV v10 H2 fun v11 H3=>
 CallT Try.prog 28 [v11,(AV.p (.int .i64 5))] H3 fun v13 H4=>
 allocV tab 28 H4 fun v5 H5=>
 sV_ tab 28 v5 v13 H5 fun H6=>
 CallT Try.prog 29 [v11] H6 fun v15 H7=>
 allocV tab 35 H7 fun v6 H8=>
 sV_ tab 35 v6 v15 H8 fun H9=>
 lV_ tab 28 v5 H9 fun v17=>
 CallT Try.prog 30 [v17] H9 fun v18 H10=>
 xV_ v18 0 fun v19=>
 xV_ v18 1 fun v20=>
 allocV tab 35 H10 fun v7 H11=>
 sV_ tab 35 v7 v19 H11 fun H12=>
 grdV v20 true (CallT Try.prog 31 [v11,(AV.p (.int .i64 2))] H12 fun v24 H13=>
 cV_ v24 (lV_ tab 28 v5 H13 fun v26=>
 lV_ tab 35 v7 H13 fun v27=>
 sV_ tab 28 v2 v26 H13 fun H14=>
 (lV_ tab 35 v7 H14 fun v9027=>
 v27=v9027)∧
 sV_ tab 35 v3 v27 H14 fun H15=>
 lV_ tab 28 v2 H15 fun r0=>
 lV_ tab 35 v3 H15 fun r1=>
 K (.tup [r0,r1]) H15)
 (J10_0 K v2 v3 v5 v6 H13))
 (J10_0 K v2 v3 v5 v6 H12)
theorem W10_wp (v0:AV) (H:Heap) (K:AV→Heap→Prop):wpC Try.prog tab D10 (bO_ Try.f10) (retF tab [.cell 2 28,.cell 3 35] K) (nthA [v0]) H=W10 v0 H K:=by kernel_rfl
theorem W10_ok {v0:AV} {H:Heap} {K:AV→Heap→Prop} (h:W10 v0 H K):CallT Try.prog 10 [v0] H K:=
 CallT.of_wp (D:=D10) tO_ mixed Try.func10 (c:=bO_ Try.f10) (by kernel_rfl) rfl (by kernel_rfl) (rs:=#[.cell 2 28,.cell 3 35]) rfl (by decide +kernel) (by kernel_rfl) (W10_wp v0 H K) h
def D11:Info:=⟨23,fun i=>([],[]),fun i=>([],[])⟩
def W11 (v0:AV) (H:Heap) (K:AV→Heap→Prop):Prop:=
 boxV v0 H fun v1 H1=>
 fA_ tab 35 v1 0 fun v3=>
 lV_ tab 24 v3 H1 fun v4=>
 lenV tab 24 v4 fun v5=>
 binV tab .leq 3 v5 (AV.p (.int .i64 24)) fun v6=>
 grdV v6 true (fA_ tab 35 v1 1 fun v8=>
 lV_ tab 24 v8 H1 fun v9=>
 lenV tab 24 v9 fun v10=>
 CallT Try.prog 32 [v10,(AV.p (.int .i64 1)),(AV.p (.int .i64 24))] H1 fun v11 H2=>
 grdV v11 true (fA_ tab 35 v1 0 fun v14=>
 lV_ tab 24 v14 H2 fun v15=>
 CallT Try.prog 33 [v15,(AV.p (.int .i64 0)),(AV.p (.int .i64 7))] H2 fun v16 H3=>
 grdV v16 true (fA_ tab 35 v1 1 fun v19=>
 lV_ tab 24 v19 H3 fun v20=>
 CallT Try.prog 33 [v20,(AV.p (.int .i64 0)),(AV.p (.int .i64 7))] H3 fun v21 H4=>
 K v21 H4)
 (K (AV.p (.bool false)) H3))
 (K (AV.p (.bool false)) H2))
 (K (AV.p (.bool false)) H1)
theorem W11_wp (v0:AV) (H:Heap) (K:AV→Heap→Prop):wpC Try.prog tab D11 (bO_ Try.f11) (retF tab [.tmp 2] K) (nthA [v0]) H=W11 v0 H K:=by kernel_rfl
theorem W11_ok {v0:AV} {H:Heap} {K:AV→Heap→Prop} (h:W11 v0 H K):CallT Try.prog 11 [v0] H K:=
 CallT.of_wp (D:=D11) tO_ mixed Try.func11 (c:=bO_ Try.f11) (by kernel_rfl) rfl (by kernel_rfl) (rs:=#[.tmp 2]) rfl (by decide +kernel) (by kernel_rfl) (W11_wp v0 H K) h
end Go.Proofs.Ytohkciilfkhomaa
namespace Go.Proofs.Ytohkciilfkhomaa
open Go Go.Sep
attribute [local irreducible] wpC headF
def D12:Info:=⟨124,fun i=>if i=11 then ([[],[0],[],[],[2,3],[0,1,2,3,4]],[(0,[]),(1,[]),(2,[]),(3,[]),(4,[1]),(5,[])]) else if i=13 then ([[],[],[],[],[2,3],[2,3,4],[],[],[6,7],[],[9],[6,7,8,9,10],[],[12],[6,7,8,9,10,11,12,13],[6,7,8,9,10,11,12,13,14],[2,3,4,5,6,7,8,9,10,11,12,13,14,15],[0,1,2,3,4,5,6,7,8,9,10,11,12,13,14,15,16],[0,1,2,3,4,5,6,7,8,9,10,11,12,13,14,15,16,17]],[(0,[]),(1,[]),(2,[]),(3,[]),(4,[]),(5,[]),(6,[]),(7,[]),(9,[]),(10,[]),(12,[]),(13,[]),(8,[5,10,13]),(11,[]),(14,[]),(15,[5]),(16,[]),(17,[]),(18,[])]) else ([],[]),fun i=>if i=6 then ([2,3,6,7,8,40],[41]) else if i=9 then ([2,3,6,7,8,9,40,41,45,46],[47]) else if i=17 then ([2,6,7,85,86],[8,87]) else if i=21 then ([2,6,7,8,14,85,86,87,92],[15,93]) else if i=24 then ([2,6,7,8,14,16,85,86,87,92,93,96,97],[15,98]) else ([],[])⟩
def L12_0 (K:AV→Heap→Prop) (v2:AV) (v3:AV) (v6:AV) (v7:AV) (v8:AV) (v40:AV) (v41:AV) (H:Heap):Prop:=LoopV (wpC Try.prog tab D12 (cAt [1,1,1,1,0,1,0,0] (bO_ Try.f12))) [2,3,6,7,8,40] (PostF.block 0 (PostF.thenA (wpC Try.prog tab D12 (cAt [1,1,1,1,1] (bO_ Try.f12))) (retF tab [.tmp 4,.tmp 5] K))) [41] [Q_,Q_,v2,v3,Q_,Q_,v6,v7,v8,Q_,Q_,Q_,Q_,Q_,Q_,Q_,Q_,Q_,Q_,Q_,Q_,Q_,Q_,Q_,Q_,Q_,Q_,Q_,Q_,Q_,Q_,Q_,Q_,Q_,Q_,Q_,Q_,Q_,Q_,Q_,v40,v41,Q_,Q_,Q_,Q_,Q_,Q_,Q_,Q_,Q_,Q_,Q_,Q_,Q_,Q_,Q_,Q_,Q_,Q_,Q_,Q_,Q_,Q_,Q_,Q_,Q_,Q_,Q_,Q_,Q_,Q_,Q_,Q_,Q_,Q_,Q_,Q_,Q_,Q_,Q_,Q_,Q_,Q_,Q_,Q_,Q_,Q_,Q_,Q_,Q_,Q_,Q_,Q_,Q_,Q_,Q_,Q_,Q_,Q_,Q_,Q_,Q_,Q_,Q_,Q_,Q_,Q_,Q_,Q_,Q_,Q_,Q_,Q_,Q_,Q_,Q_,Q_,Q_,Q_,Q_,Q_,Q_,Q_] H
def L12_1 (K:AV→Heap→Prop) (N1:AV→Heap→Prop) (v2:AV) (v3:AV) (v6:AV) (v7:AV) (v8:AV) (v9:AV) (v40:AV) (v41:AV) (v45:AV) (v46:AV) (v47:AV) (H:Heap):Prop:=LoopV (wpC Try.prog tab D12 (cAt [1,1,1,1,0,1,0,0,1,1,0,0,1,1,0,0] (bO_ Try.f12))) [2,3,6,7,8,9,40,41,45,46] (PostF.block 2 (PostF.block 1 (PostF.thenA (wpC Try.prog tab D12 (cAt [1,1,1,1,0,1,0,0,1,1,1] (bO_ Try.f12))) (loopF (PostF.block 0 (PostF.thenA (wpC Try.prog tab D12 (cAt [1,1,1,1,1] (bO_ Try.f12))) (retF tab [.tmp 4,.tmp 5] K))) (fun e h=>N1 (e 41) h))))) [47] [Q_,Q_,v2,v3,Q_,Q_,v6,v7,v8,v9,Q_,Q_,Q_,Q_,Q_,Q_,Q_,Q_,Q_,Q_,Q_,Q_,Q_,Q_,Q_,Q_,Q_,Q_,Q_,Q_,Q_,Q_,Q_,Q_,Q_,Q_,Q_,Q_,Q_,Q_,v40,v41,Q_,Q_,Q_,v45,v46,v47,Q_,Q_,Q_,Q_,Q_,Q_,Q_,Q_,Q_,Q_,Q_,Q_,Q_,Q_,Q_,Q_,Q_,Q_,Q_,Q_,Q_,Q_,Q_,Q_,Q_,Q_,Q_,Q_,Q_,Q_,Q_,Q_,Q_,Q_,Q_,Q_,Q_,Q_,Q_,Q_,Q_,Q_,Q_,Q_,Q_,Q_,Q_,Q_,Q_,Q_,Q_,Q_,Q_,Q_,Q_,Q_,Q_,Q_,Q_,Q_,Q_,Q_,Q_,Q_,Q_,Q_,Q_,Q_,Q_,Q_,Q_,Q_,Q_,Q_,Q_,Q_] H
def B12_1 (K:AV→Heap→Prop) (N1:AV→Heap→Prop) (N2:AV→Heap→Prop) (v2:AV) (v3:AV) (v6:AV) (v7:AV) (v8:AV) (v9:AV) (v40:AV) (v41:AV) (v45:AV) (v46:AV) (v47:AV) (H:Heap):Prop:=
 binV tab .lss 3 v47 v46 fun v48=>
 cV_ v48 (iA_ tab 25 v45 v47 fun v49=>
 lV_ tab 46 v49 H fun v50=>
 allocV tab 46 H fun v11 H7=>
 sV_ tab 46 v11 v50 H7 fun H8=>
 fA_ tab 46 v11 1 fun v51=>
 lV_ tab 3 v51 H8 fun v52=>
 lV_ tab 35 v3 H8 fun v53=>
 CallT Try.prog 35 [v53,v9] H8 fun v55 H9=>
 (lV_ tab 3 v51 H9 fun v9052=>
 v52=v9052)∧
 binV tab .eql 3 v52 v55 fun v56=>
 cV_ v56 (fA_ tab 28 v2 0 fun v58=>
 lV_ tab 3 v58 H9 fun v59=>
 binV tab .mul 3 v9 v59 fun v60=>
 fA_ tab 46 v11 0 fun v61=>
 lV_ tab 3 v61 H9 fun v62=>
 binV tab .add 3 v60 v62 fun v63=>
 iA_ tab 26 v7 v63 fun v68=>
 lV_ tab 24 v68 H9 fun v69=>
 lV_ tab 35 v3 H9 fun v70=>
 fA_ tab 28 v2 0 fun v73=>
 lV_ tab 3 v73 H9 fun v74=>
 fA_ tab 46 v11 2 fun v76=>
 lV_ tab 3 v76 H9 fun v77=>
 CallT Try.prog 36 [v70,v9] H9 fun v72 H10=>
 (lV_ tab 24 v68 H10 fun v9069=>
 v69=v9069)∧
 (lV_ tab 3 v73 H10 fun v9074=>
 v74=v9074)∧
 (lV_ tab 3 v76 H10 fun v9077=>
 v77=v9077)∧
 binV tab .mul 3 v72 v74 fun v75=>
 binV tab .add 3 v75 v77 fun v78=>
 bS_ tab 24 1 [(0,v78)] H10 (wkK fun v79 H11=>
 (lV_ tab 24 v68 H11 fun v9069=>
 v69=v9069)∧
 aP_ tab 24 24 v69 v79 H11 (wkK fun v80 H12=>
 iA_ tab 26 v7 v63 fun v81=>
 sV_ tab 24 v81 v80 H12 fun H13=>
 binV tab .add 3 v47 (AV.p (.int .i64 1)) fun v82=>
 N2 v82 H13)))
 (binV tab .add 3 v47 (AV.p (.int .i64 1)) fun v82=>
 N2 v82 H9))
 (binV tab .add 3 v41 (AV.p (.int .i64 1)) fun v83=>
 N1 v83 H)
def L12_2 (K:AV→Heap→Prop) (v2:AV) (v6:AV) (v7:AV) (v8:AV) (v85:AV) (v86:AV) (v87:AV) (H:Heap):Prop:=LoopV (wpC Try.prog tab D12 (cAt [1,1,1,1,1,0,1,0,0] (bO_ Try.f12))) [2,6,7,85,86] (PostF.block 4 (PostF.thenA (wpC Try.prog tab D12 (cAt [1,1,1,1,1,1] (bO_ Try.f12))) (retF tab [.tmp 4,.tmp 5] K))) [8,87] [Q_,Q_,v2,Q_,Q_,Q_,v6,v7,v8,Q_,Q_,Q_,Q_,Q_,Q_,Q_,Q_,Q_,Q_,Q_,Q_,Q_,Q_,Q_,Q_,Q_,Q_,Q_,Q_,Q_,Q_,Q_,Q_,Q_,Q_,Q_,Q_,Q_,Q_,Q_,Q_,Q_,Q_,Q_,Q_,Q_,Q_,Q_,Q_,Q_,Q_,Q_,Q_,Q_,Q_,Q_,Q_,Q_,Q_,Q_,Q_,Q_,Q_,Q_,Q_,Q_,Q_,Q_,Q_,Q_,Q_,Q_,Q_,Q_,Q_,Q_,Q_,Q_,Q_,Q_,Q_,Q_,Q_,Q_,Q_,v85,v86,v87,Q_,Q_,Q_,Q_,Q_,Q_,Q_,Q_,Q_,Q_,Q_,Q_,Q_,Q_,Q_,Q_,Q_,Q_,Q_,Q_,Q_,Q_,Q_,Q_,Q_,Q_,Q_,Q_,Q_,Q_,Q_,Q_,Q_,Q_,Q_,Q_] H
def L12_3 (K:AV→Heap→Prop) (N1:AV→AV→Heap→Prop) (v2:AV) (v6:AV) (v7:AV) (v8:AV) (v14:AV) (v15:AV) (v85:AV) (v86:AV) (v87:AV) (v92:AV) (v93:AV) (H:Heap):Prop:=LoopV (wpC Try.prog tab D12 (cAt [1,1,1,1,1,0,1,0,0,1,1,0,0,1,1,0,1,0,0] (bO_ Try.f12))) [2,6,7,8,14,85,86,87,92] (PostF.block 6 (PostF.thenA (wpC Try.prog tab D12 (cAt [1,1,1,1,1,0,1,0,0,1,1,0,0,1,1,1] (bO_ Try.f12))) (PostF.block 5 (PostF.thenA (wpC Try.prog tab D12 (cAt [1,1,1,1,1,0,1,0,0,1,1,1] (bO_ Try.f12))) (loopF (PostF.block 4 (PostF.thenA (wpC Try.prog tab D12 (cAt [1,1,1,1,1,1] (bO_ Try.f12))) (retF tab [.tmp 4,.tmp 5] K))) (fun e h=>N1 (e 8) (e 87) h)))))) [15,93] [Q_,Q_,v2,Q_,Q_,Q_,v6,v7,v8,Q_,Q_,Q_,Q_,Q_,v14,v15,Q_,Q_,Q_,Q_,Q_,Q_,Q_,Q_,Q_,Q_,Q_,Q_,Q_,Q_,Q_,Q_,Q_,Q_,Q_,Q_,Q_,Q_,Q_,Q_,Q_,Q_,Q_,Q_,Q_,Q_,Q_,Q_,Q_,Q_,Q_,Q_,Q_,Q_,Q_,Q_,Q_,Q_,Q_,Q_,Q_,Q_,Q_,Q_,Q_,Q_,Q_,Q_,Q_,Q_,Q_,Q_,Q_,Q_,Q_,Q_,Q_,Q_,Q_,Q_,Q_,Q_,Q_,Q_,Q_,v85,v86,v87,Q_,Q_,Q_,Q_,v92,v93,Q_,Q_,Q_,Q_,Q_,Q_,Q_,Q_,Q_,Q_,Q_,Q_,Q_,Q_,Q_,Q_,Q_,Q_,Q_,Q_,Q_,Q_,Q_,Q_,Q_,Q_,Q_,Q_,Q_,Q_] H
def L12_4 (K:AV→Heap→Prop) (N1:AV→AV→Heap→Prop) (N2:AV→AV→Heap→Prop) (v2:AV) (v6:AV) (v7:AV) (v8:AV) (v14:AV) (v15:AV) (v16:AV) (v85:AV) (v86:AV) (v87:AV) (v92:AV) (v93:AV) (v96:AV) (v97:AV) (v98:AV) (H:Heap):Prop:=LoopV (wpC Try.prog tab D12 (cAt [1,1,1,1,1,0,1,0,0,1,1,0,0,1,1,0,1,0,0,1,1,0,0,1,1,0,0] (bO_ Try.f12))) [2,6,7,8,14,16,85,86,87,92,93,96,97] (PostF.block 8 (PostF.block 7 (PostF.thenA (wpC Try.prog tab D12 (cAt [1,1,1,1,1,0,1,0,0,1,1,0,0,1,1,0,1,0,0,1,1,1] (bO_ Try.f12))) (loopF (PostF.block 6 (PostF.thenA (wpC Try.prog tab D12 (cAt [1,1,1,1,1,0,1,0,0,1,1,0,0,1,1,1] (bO_ Try.f12))) (PostF.block 5 (PostF.thenA (wpC Try.prog tab D12 (cAt [1,1,1,1,1,0,1,0,0,1,1,1] (bO_ Try.f12))) (loopF (PostF.block 4 (PostF.thenA (wpC Try.prog tab D12 (cAt [1,1,1,1,1,1] (bO_ Try.f12))) (retF tab [.tmp 4,.tmp 5] K))) (fun e h=>N1 (e 8) (e 87) h)))))) (fun e h=>N2 (e 15) (e 93) h))))) [15,98] [Q_,Q_,v2,Q_,Q_,Q_,v6,v7,v8,Q_,Q_,Q_,Q_,Q_,v14,v15,v16,Q_,Q_,Q_,Q_,Q_,Q_,Q_,Q_,Q_,Q_,Q_,Q_,Q_,Q_,Q_,Q_,Q_,Q_,Q_,Q_,Q_,Q_,Q_,Q_,Q_,Q_,Q_,Q_,Q_,Q_,Q_,Q_,Q_,Q_,Q_,Q_,Q_,Q_,Q_,Q_,Q_,Q_,Q_,Q_,Q_,Q_,Q_,Q_,Q_,Q_,Q_,Q_,Q_,Q_,Q_,Q_,Q_,Q_,Q_,Q_,Q_,Q_,Q_,Q_,Q_,Q_,Q_,Q_,v85,v86,v87,Q_,Q_,Q_,Q_,v92,v93,Q_,Q_,v96,v97,v98,Q_,Q_,Q_,Q_,Q_,Q_,Q_,Q_,Q_,Q_,Q_,Q_,Q_,Q_,Q_,Q_,Q_,Q_,Q_,Q_,Q_,Q_,Q_,Q_,Q_] H
def B12_4 (K:AV→Heap→Prop) (N1:AV→AV→Heap→Prop) (N2:AV→AV→Heap→Prop) (N3:AV→AV→Heap→Prop) (v2:AV) (v6:AV) (v7:AV) (v8:AV) (v14:AV) (v15:AV) (v16:AV) (v85:AV) (v86:AV) (v87:AV) (v92:AV) (v93:AV) (v96:AV) (v97:AV) (v98:AV) (H:Heap):Prop:=
 binV tab .lss 3 v98 v97 fun v99=>
 cV_ v99 (iA_ tab 24 v96 v98 fun v100=>
 lV_ tab 3 v100 H fun v101=>
 fA_ tab 28 v2 0 fun v104=>
 lV_ tab 3 v104 H fun v105=>
 binV tab .mul 3 v16 v105 fun v106=>
 binV tab .add 3 v106 v101 fun v108=>
 bS_ tab 24 1 [(0,v108)] H (wkK fun v109 H15=>
 aP_ tab 24 24 v15 v109 H15 (wkK fun v110 H16=>
 binV tab .add 3 v98 (AV.p (.int .i64 1)) fun v111=>
 N3 v110 v111 H16)))
 (binV tab .add 3 v93 (AV.p (.int .i64 1)) fun v112=>
 N2 v15 v112 H)
def B12_3 (K:AV→Heap→Prop) (N1:AV→AV→Heap→Prop) (N2:AV→AV→Heap→Prop) (v2:AV) (v6:AV) (v7:AV) (v8:AV) (v14:AV) (v15:AV) (v85:AV) (v86:AV) (v87:AV) (v92:AV) (v93:AV) (H:Heap):Prop:=
 binV tab .lss 3 v93 v92 fun v94=>
 cV_ v94 (lenV tab 24 v14 fun v97=>
 L12_4 K N1 N2 v2 v6 v7 v8 v14 v15 v93 v85 v86 v87 v92 v93 v14 v97 (AV.p (.int .i64 0)) H)
 (bS_ tab 26 1 [(0,v15)] H (wkK fun v115 H17=>
 aP_ tab 26 26 v8 v115 H17 (wkK fun v116 H18=>
 binV tab .add 3 v87 (AV.p (.int .i64 1)) fun v117=>
 N1 v116 v117 H18)))
def B12_2 (K:AV→Heap→Prop) (N1:AV→AV→Heap→Prop) (v2:AV) (v6:AV) (v7:AV) (v8:AV) (v85:AV) (v86:AV) (v87:AV) (H:Heap):Prop:=
 binV tab .lss 3 v87 v86 fun v88=>
 cV_ v88 (iA_ tab 26 v85 v87 fun v89=>
 lV_ tab 24 v89 H fun v90=>
 bS_ tab 24 0 [] H (wkK fun v91 H14=>
 L12_3 K N1 v2 v6 v7 v8 v90 v91 v85 v86 v87 v6 (AV.p (.int .i64 0)) H14))
 (fA_ tab 28 v2 1 fun v119=>
 lV_ tab 24 v119 H fun v120=>
 CallT Try.prog 37 [v7,v120,v8] H fun v122 H19=>
 binV tab .geq 3 v122 (AV.p (.int .i64 0)) fun v123=>
 K (.tup [v123,(AV.p (.bool true))]) H19)
def B12_0 (K:AV→Heap→Prop) (N1:AV→Heap→Prop) (v2:AV) (v3:AV) (v6:AV) (v7:AV) (v8:AV) (v40:AV) (v41:AV) (H:Heap):Prop:=
 binV tab .lss 3 v41 v40 fun v42=>
 cV_ v42 (fA_ tab 28 v2 2 fun v44=>
 lV_ tab 25 v44 H fun v45=>
 lenV tab 25 v45 fun v46=>
 L12_1 K N1 v2 v3 v6 v7 v8 v41 v40 v41 v45 v46 (AV.p (.int .i64 0)) H)
 (fA_ tab 28 v2 3 fun v84=>
 lV_ tab 26 v84 H fun v85=>
 lenV tab 26 v85 fun v86=>
 L12_2 K v2 v6 v7 v8 v85 v86 (AV.p (.int .i64 0)) H)
def W12 (v0:AV) (v1:AV) (H:Heap) (K:AV→Heap→Prop):Prop:=
 boxV v0 H fun v2 H1=>
 boxV v1 H1 fun v3 H2=>
 lV_ tab 28 v2 H2 fun v19=>
 CallT Try.prog 16 [v19] H2 fun v20 H3=>
 unV .not v20 fun v21=>
 grdV v21 false (lV_ tab 35 v3 H3 fun v23=>
 CallT Try.prog 34 [v23] H3 fun v24 H4=>
 unV .not v24 fun v25=>
 cV_ v25 (K (.tup [(AV.p (.bool false)),(AV.p (.bool false))]) H4)
 (fA_ tab 35 v3 0 fun v27=>
 lV_ tab 24 v27 H4 fun v28=>
 lenV tab 24 v28 fun v29=>
 fA_ tab 35 v3 1 fun v30=>
 lV_ tab 24 v30 H4 fun v31=>
 lenV tab 24 v31 fun v32=>
 binV tab .add 3 v29 v32 fun v33=>
 fA_ tab 28 v2 0 fun v35=>
 lV_ tab 3 v35 H4 fun v36=>
 binV tab .mul 3 v33 v36 fun v37=>
 mS_ tab 26 v37 v37 H4 fun v38 H5=>
 bS_ tab 26 0 [] H5 (wkK fun v39 H6=>
 L12_0 K v2 v3 v33 v38 v39 v33 (AV.p (.int .i64 0)) H6)))
 (K (.tup [(AV.p (.bool false)),(AV.p (.bool false))]) H3)
theorem W12_wp (v0:AV) (v1:AV) (H:Heap) (K:AV→Heap→Prop):wpC Try.prog tab D12 (bO_ Try.f12) (retF tab [.tmp 4,.tmp 5] K) (nthA [v0,v1]) H=W12 v0 v1 H K:=by kernel_rfl
theorem W12_ok {v0 v1:AV} {H:Heap} {K:AV→Heap→Prop} (h:W12 v0 v1 H K):CallT Try.prog 12 [v0,v1] H K:=
 CallT.of_wp (D:=D12) tO_ mixed Try.func12 (c:=bO_ Try.f12) (by kernel_rfl) rfl (by kernel_rfl) (rs:=#[.tmp 4,.tmp 5]) rfl (by decide +kernel) (by kernel_rfl) (W12_wp v0 v1 H K) h
theorem L12_1_rule {K:AV→Heap→Prop} {N1:AV→Heap→Prop} {v2 v3 v6 v7 v8 v9 v40 v41 v45 v46 v47:AV} {H:Heap} {σ:Type} (s0:σ) (f47:σ→AV) (TH:σ→Heap) (pre:σ→Prop) (μ:σ→Nat)
  (h0:pre s0∧AV.wk v47 (f47 s0)∧Heap.le (TH s0) H)
  (round:∀s,pre s→B12_1 K N1 (fun w47 H'=>∃s',pre s'∧μ s' < μ s∧AV.wk w47 (f47 s')∧Heap.le (TH s') H') v2 v3 v6 v7 v8 v9 v40 v41 v45 v46 (f47 s) (TH s)) :
  L12_1 K N1 v2 v3 v6 v7 v8 v9 v40 v41 v45 v46 v47 H:=by
 unfold L12_1
 exact LoopV.mk s0 (fun s=>[f47 s]) TH pre μ (fun _=>rfl) (Eq.mp (by kernel_rfl) h0) (fun s hs=>Eq.mp (by kernel_rfl) (round s hs))
theorem L12_4_rule {K:AV→Heap→Prop} {N1:AV→AV→Heap→Prop} {N2:AV→AV→Heap→Prop} {v2 v6 v7 v8 v14 v15 v16 v85 v86 v87 v92 v93 v96 v97 v98:AV} {H:Heap} {σ:Type} (s0:σ) (f15:σ→AV) (f98:σ→AV) (TH:σ→Heap) (pre:σ→Prop) (μ:σ→Nat)
  (h0:pre s0∧AV.wk v15 (f15 s0)∧AV.wk v98 (f98 s0)∧Heap.le (TH s0) H)
  (round:∀s,pre s→B12_4 K N1 N2 (fun w15 w98 H'=>∃s',pre s'∧μ s' < μ s∧AV.wk w15 (f15 s')∧AV.wk w98 (f98 s')∧Heap.le (TH s') H') v2 v6 v7 v8 v14 (f15 s) v16 v85 v86 v87 v92 v93 v96 v97 (f98 s) (TH s)) :
  L12_4 K N1 N2 v2 v6 v7 v8 v14 v15 v16 v85 v86 v87 v92 v93 v96 v97 v98 H:=by
 unfold L12_4
 exact LoopV.mk s0 (fun s=>[f15 s,f98 s]) TH pre μ (fun _=>rfl) (Eq.mp (by kernel_rfl) h0) (fun s hs=>Eq.mp (by kernel_rfl) (round s hs))
theorem L12_3_rule {K:AV→Heap→Prop} {N1:AV→AV→Heap→Prop} {v2 v6 v7 v8 v14 v15 v85 v86 v87 v92 v93:AV} {H:Heap} {σ:Type} (s0:σ) (f15:σ→AV) (f93:σ→AV) (TH:σ→Heap) (pre:σ→Prop) (μ:σ→Nat)
  (h0:pre s0∧AV.wk v15 (f15 s0)∧AV.wk v93 (f93 s0)∧Heap.le (TH s0) H)
  (round:∀s,pre s→B12_3 K N1 (fun w15 w93 H'=>∃s',pre s'∧μ s' < μ s∧AV.wk w15 (f15 s')∧AV.wk w93 (f93 s')∧Heap.le (TH s') H') v2 v6 v7 v8 v14 (f15 s) v85 v86 v87 v92 (f93 s) (TH s)) :
  L12_3 K N1 v2 v6 v7 v8 v14 v15 v85 v86 v87 v92 v93 H:=by
 unfold L12_3
 exact LoopV.mk s0 (fun s=>[f15 s,f93 s]) TH pre μ (fun _=>rfl) (Eq.mp (by kernel_rfl) h0) (fun s hs=>Eq.mp (by kernel_rfl) (round s hs))
theorem L12_2_rule {K:AV→Heap→Prop} {v2 v6 v7 v8 v85 v86 v87:AV} {H:Heap} {σ:Type} (s0:σ) (f8:σ→AV) (f87:σ→AV) (TH:σ→Heap) (pre:σ→Prop) (μ:σ→Nat)
  (h0:pre s0∧AV.wk v8 (f8 s0)∧AV.wk v87 (f87 s0)∧Heap.le (TH s0) H)
  (round:∀s,pre s→B12_2 K (fun w8 w87 H'=>∃s',pre s'∧μ s' < μ s∧AV.wk w8 (f8 s')∧AV.wk w87 (f87 s')∧Heap.le (TH s') H') v2 v6 v7 (f8 s) v85 v86 (f87 s) (TH s)) :
  L12_2 K v2 v6 v7 v8 v85 v86 v87 H:=by
 unfold L12_2
 exact LoopV.mk s0 (fun s=>[f8 s,f87 s]) TH pre μ (fun _=>rfl) (Eq.mp (by kernel_rfl) h0) (fun s hs=>Eq.mp (by kernel_rfl) (round s hs))
theorem L12_0_rule {K:AV→Heap→Prop} {v2 v3 v6 v7 v8 v40 v41:AV} {H:Heap} {σ:Type} (s0:σ) (f41:σ→AV) (TH:σ→Heap) (pre:σ→Prop) (μ:σ→Nat)
  (h0:pre s0∧AV.wk v41 (f41 s0)∧Heap.le (TH s0) H)
  (round:∀s,pre s→B12_0 K (fun w41 H'=>∃s',pre s'∧μ s' < μ s∧AV.wk w41 (f41 s')∧Heap.le (TH s') H') v2 v3 v6 v7 v8 v40 (f41 s) (TH s)) :
  L12_0 K v2 v3 v6 v7 v8 v40 v41 H:=by
 unfold L12_0
 exact LoopV.mk s0 (fun s=>[f41 s]) TH pre μ (fun _=>rfl) (Eq.mp (by kernel_rfl) h0) (fun s hs=>Eq.mp (by kernel_rfl) (round s hs))
def D13:Info:=⟨12,fun i=>([],[]),fun i=>([],[])⟩
def W13 (v0:AV) (H:Heap) (K:AV→Heap→Prop):Prop:=
 allocV tab 28 H fun v2 H1=>
 allocV tab 28 H1 fun v3 H2=>
 buildV tab 56 [(0,v0)] fun v6=>
 boxV v6 H2 fun v7 H3=>
 CallT Try.prog 28 [v7,(AV.p (.int .i64 4))] H3 fun v9 H4=>
 CallT Try.prog 28 [v7,(AV.p (.int .i64 3))] H4 fun v11 H5=>
 sV_ tab 28 v2 v9 H5 fun H6=>
 sV_ tab 28 v3 v11 H6 fun H7=>
 lV_ tab 28 v2 H7 fun r0=>
 lV_ tab 28 v3 H7 fun r1=>
 K (.tup [r0,r1]) H7
theorem W13_wp (v0:AV) (H:Heap) (K:AV→Heap→Prop):wpC Try.prog tab D13 (bO_ Try.f13) (retF tab [.cell 2 28,.cell 3 28] K) (nthA [v0]) H=W13 v0 H K:=by kernel_rfl
theorem W13_ok {v0:AV} {H:Heap} {K:AV→Heap→Prop} (h:W13 v0 H K):CallT Try.prog 13 [v0] H K:=
 CallT.of_wp (D:=D13) tO_ mixed Try.func13 (c:=bO_ Try.f13) (by kernel_rfl) rfl (by kernel_rfl) (rs:=#[.cell 2 28,.cell 3 28]) rfl (by decide +kernel) (by kernel_rfl) (W13_wp v0 H K) h
def D14:Info:=⟨29,fun i=>([],[]),fun i=>([],[])⟩
def W14 (v0:AV) (v1:AV) (H:Heap) (K:AV→Heap→Prop):Prop:=
 boxV v0 H fun v2 H1=>
 boxV v1 H1 fun v3 H2=>
 allocV tab 28 H2 fun v4 H3=>
 lV_ tab 28 v2 H3 fun v6=>
 CallT Try.prog 16 [v6] H3 fun v7 H4=>
 unV .not v7 fun v8=>
 grdV v8 false (lV_ tab 28 v3 H4 fun v10=>
 CallT Try.prog 16 [v10] H4 fun v11 H5=>
 unV .not v11 fun v12=>
 grdV v12 false (fA_ tab 28 v2 0 fun v15=>
 lV_ tab 3 v15 H5 fun v16=>
 fA_ tab 28 v3 0 fun v17=>
 lV_ tab 3 v17 H5 fun v18=>
 binV tab .mul 3 v16 v18 fun v19=>
 binV tab .gtr 3 v19 (AV.p (.int .i64 96)) fun v20=>
 cV_ v20 (buildV tab 28 [] fun v22=>
 sV_ tab 28 v4 v22 H5 fun H6=>
 lV_ tab 28 v4 H6 fun r0=>
 K (.tup [r0,(AV.p (.bool false))]) H6)
 (lV_ tab 28 v2 H5 fun v23=>
 lV_ tab 28 v3 H5 fun v24=>
 CallT Try.prog 38 [v23,v24] H5 fun v25 H7=>
 CallT Try.prog 22 [v25] H7 fun v26 H8=>
 xV_ v26 0 fun v27=>
 xV_ v26 1 fun v28=>
 sV_ tab 28 v4 v27 H8 fun H9=>
 lV_ tab 28 v4 H9 fun r0=>
 K (.tup [r0,v28]) H9))
 (buildV tab 28 [] fun v22=>
 sV_ tab 28 v4 v22 H5 fun H11=>
 lV_ tab 28 v4 H11 fun r0=>
 K (.tup [r0,(AV.p (.bool false))]) H11))
 (buildV tab 28 [] fun v22=>
 sV_ tab 28 v4 v22 H4 fun H12=>
 lV_ tab 28 v4 H12 fun r0=>
 K (.tup [r0,(AV.p (.bool false))]) H12)
theorem W14_wp (v0:AV) (v1:AV) (H:Heap) (K:AV→Heap→Prop):wpC Try.prog tab D14 (bO_ Try.f14) (retF tab [.cell 4 28,.tmp 5] K) (nthA [v0,v1]) H=W14 v0 v1 H K:=by kernel_rfl
theorem W14_ok {v0 v1:AV} {H:Heap} {K:AV→Heap→Prop} (h:W14 v0 v1 H K):CallT Try.prog 14 [v0,v1] H K:=
 CallT.of_wp (D:=D14) tO_ mixed Try.func14 (c:=bO_ Try.f14) (by kernel_rfl) rfl (by kernel_rfl) (rs:=#[.cell 4 28,.tmp 5]) rfl (by decide +kernel) (by kernel_rfl) (W14_wp v0 v1 H K) h
theorem W14_hb:HasBody Try.prog 14:=⟨_,bO_ Try.f14,Try.func14,by kernel_rfl,rfl⟩
def D15:Info:=⟨137,fun i=>if i=3 then ([[],[0],[],[2],[0,1,2,3],[],[5],[],[7],[],[9],[5,6,7,8,9,10],[0,1,2,3,4,5,6,7,8,9,10,11],[],[0,1,2,3,4,5,6,7,8,9,10,11,12,13]],[(0,[]),(1,[]),(2,[]),(3,[]),(4,[]),(5,[]),(6,[]),(7,[]),(8,[]),(9,[]),(10,[]),(11,[1,3]),(12,[]),(13,[]),(14,[])]) else if i=10 then ([[],[],[],[2],[1,2,3],[1,2,3,4],[],[0,1,2,3,4,5,6],[0,1,2,3,4,5,6,7]],[(0,[]),(1,[]),(2,[]),(3,[]),(4,[]),(6,[]),(5,[0]),(7,[]),(8,[])]) else if i=11 then ([[],[],[],[2],[1,2,3],[1,2,3,4],[],[0,1,2,3,4,5,6],[0,1,2,3,4,5,6,7]],[(0,[]),(1,[]),(2,[]),(3,[]),(4,[]),(6,[]),(5,[0]),(7,[]),(8,[])]) else if i=20 then ([[],[0],[],[],[3],[3,4],[],[6],[2,3,4,5,6,7],[2,3,4,5,6,7,8],[0,1,2,3,4,5,6,7,8,9],[0,1,2,3,4,5,6,7,8,9,10],[0,1,2,3,4,5,6,7,8,9,10,11]],[(0,[]),(1,[]),(2,[]),(3,[]),(4,[]),(6,[]),(7,[]),(5,[1,7]),(8,[1]),(9,[1]),(10,[]),(11,[]),(12,[])]) else if i=25 then ([[],[0],[],[2],[2,3],[],[],[6],[2,3,4,5,6,7],[2,3,4,5,6,7,8],[0,1,2,3,4,5,6,7,8,9],[0,1,2,3,4,5,6,7,8,9,10],[0,1,2,3,4,5,6,7,8,9,10,11]],[(0,[]),(1,[]),(2,[]),(3,[]),(5,[]),(6,[]),(7,[]),(4,[1,7]),(8,[1]),(9,[1]),(10,[]),(11,[]),(12,[])]) else ([],[]),fun i=>if i=5 then ([2,3,4,6],[7]) else if i=8 then ([2,3,4,6,7],[8]) else if i=13 then ([2,3,4,6,7,8,77,78],[79]) else if i=18 then ([2,3,4,6,94,95],[96]) else if i=23 then ([2,3,4,6,114,115],[116]) else ([],[])⟩
def L15_0 (K:AV→Heap→Prop) (v2:AV) (v3:AV) (v4:AV) (v6:AV) (v7:AV) (H:Heap):Prop:=LoopV (wpC Try.prog tab D15 (cAt [1,1,1,0,1,0,0] (bO_ Try.f15))) [2,3,4,6] (PostF.block 0 (PostF.thenA (wpC Try.prog tab D15 (cAt [1,1,1,1] (bO_ Try.f15))) (retF tab [.cell 4 28,.tmp 5] K))) [7] [Q_,Q_,v2,v3,v4,Q_,v6,v7,Q_,Q_,Q_,Q_,Q_,Q_,Q_,Q_,Q_,Q_,Q_,Q_,Q_,Q_,Q_,Q_,Q_,Q_,Q_,Q_,Q_,Q_,Q_,Q_,Q_,Q_,Q_,Q_,Q_,Q_,Q_,Q_,Q_,Q_,Q_,Q_,Q_,Q_,Q_,Q_,Q_,Q_,Q_,Q_,Q_,Q_,Q_,Q_,Q_,Q_,Q_,Q_,Q_,Q_,Q_,Q_,Q_,Q_,Q_,Q_,Q_,Q_,Q_,Q_,Q_,Q_,Q_,Q_,Q_,Q_,Q_,Q_,Q_,Q_,Q_,Q_,Q_,Q_,Q_,Q_,Q_,Q_,Q_,Q_,Q_,Q_,Q_,Q_,Q_,Q_,Q_,Q_,Q_,Q_,Q_,Q_,Q_,Q_,Q_,Q_,Q_,Q_,Q_,Q_,Q_,Q_,Q_,Q_,Q_,Q_,Q_,Q_,Q_,Q_,Q_,Q_,Q_,Q_,Q_,Q_,Q_,Q_,Q_,Q_,Q_,Q_,Q_,Q_,Q_] H
def L15_1 (K:AV→Heap→Prop) (N1:AV→Heap→Prop) (v2:AV) (v3:AV) (v4:AV) (v6:AV) (v7:AV) (v8:AV) (H:Heap):Prop:=LoopV (wpC Try.prog tab D15 (cAt [1,1,1,0,1,0,0,1,0,0,1,0,0] (bO_ Try.f15))) [2,3,4,6,7] (PostF.block 2 (PostF.block 1 (PostF.thenA (wpC Try.prog tab D15 (cAt [1,1,1,0,1,0,0,1,1] (bO_ Try.f15))) (loopF (PostF.block 0 (PostF.thenA (wpC Try.prog tab D15 (cAt [1,1,1,1] (bO_ Try.f15))) (retF tab [.cell 4 28,.tmp 5] K))) (fun e h=>N1 (e 7) h))))) [8] [Q_,Q_,v2,v3,v4,Q_,v6,v7,v8,Q_,Q_,Q_,Q_,Q_,Q_,Q_,Q_,Q_,Q_,Q_,Q_,Q_,Q_,Q_,Q_,Q_,Q_,Q_,Q_,Q_,Q_,Q_,Q_,Q_,Q_,Q_,Q_,Q_,Q_,Q_,Q_,Q_,Q_,Q_,Q_,Q_,Q_,Q_,Q_,Q_,Q_,Q_,Q_,Q_,Q_,Q_,Q_,Q_,Q_,Q_,Q_,Q_,Q_,Q_,Q_,Q_,Q_,Q_,Q_,Q_,Q_,Q_,Q_,Q_,Q_,Q_,Q_,Q_,Q_,Q_,Q_,Q_,Q_,Q_,Q_,Q_,Q_,Q_,Q_,Q_,Q_,Q_,Q_,Q_,Q_,Q_,Q_,Q_,Q_,Q_,Q_,Q_,Q_,Q_,Q_,Q_,Q_,Q_,Q_,Q_,Q_,Q_,Q_,Q_,Q_,Q_,Q_,Q_,Q_,Q_,Q_,Q_,Q_,Q_,Q_,Q_,Q_,Q_,Q_,Q_,Q_,Q_,Q_,Q_,Q_,Q_,Q_] H
def L15_2 (K:AV→Heap→Prop) (N1:AV→Heap→Prop) (N2:AV→Heap→Prop) (v2:AV) (v3:AV) (v4:AV) (v6:AV) (v7:AV) (v8:AV) (v77:AV) (v78:AV) (v79:AV) (H:Heap):Prop:=LoopV (wpC Try.prog tab D15 (cAt [1,1,1,0,1,0,0,1,0,0,1,0,0,1,0,0,1,1,1,0,0] (bO_ Try.f15))) [2,3,4,6,7,8,77,78] (PostF.block 4 (PostF.block 3 (PostF.thenA (wpC Try.prog tab D15 (cAt [1,1,1,0,1,0,0,1,0,0,1,0,0,1,1] (bO_ Try.f15))) (loopF (PostF.block 2 (PostF.block 1 (PostF.thenA (wpC Try.prog tab D15 (cAt [1,1,1,0,1,0,0,1,1] (bO_ Try.f15))) (loopF (PostF.block 0 (PostF.thenA (wpC Try.prog tab D15 (cAt [1,1,1,1] (bO_ Try.f15))) (retF tab [.cell 4 28,.tmp 5] K))) (fun e h=>N1 (e 7) h))))) (fun e h=>N2 (e 8) h))))) [79] [Q_,Q_,v2,v3,v4,Q_,v6,v7,v8,Q_,Q_,Q_,Q_,Q_,Q_,Q_,Q_,Q_,Q_,Q_,Q_,Q_,Q_,Q_,Q_,Q_,Q_,Q_,Q_,Q_,Q_,Q_,Q_,Q_,Q_,Q_,Q_,Q_,Q_,Q_,Q_,Q_,Q_,Q_,Q_,Q_,Q_,Q_,Q_,Q_,Q_,Q_,Q_,Q_,Q_,Q_,Q_,Q_,Q_,Q_,Q_,Q_,Q_,Q_,Q_,Q_,Q_,Q_,Q_,Q_,Q_,Q_,Q_,Q_,Q_,Q_,Q_,v77,v78,v79,Q_,Q_,Q_,Q_,Q_,Q_,Q_,Q_,Q_,Q_,Q_,Q_,Q_,Q_,Q_,Q_,Q_,Q_,Q_,Q_,Q_,Q_,Q_,Q_,Q_,Q_,Q_,Q_,Q_,Q_,Q_,Q_,Q_,Q_,Q_,Q_,Q_,Q_,Q_,Q_,Q_,Q_,Q_,Q_,Q_,Q_,Q_,Q_,Q_,Q_,Q_,Q_,Q_,Q_,Q_,Q_,Q_] H
def B15_2 (K:AV→Heap→Prop) (N1:AV→Heap→Prop) (N2:AV→Heap→Prop) (N3:AV→Heap→Prop) (v2:AV) (v3:AV) (v4:AV) (v6:AV) (v7:AV) (v8:AV) (v77:AV) (v78:AV) (v79:AV) (H:Heap):Prop:=
 binV tab .lss 3 v79 v78 fun v80=>
 cV_ v80 (iA_ tab 24 v77 v79 fun v81=>
 lV_ tab 3 v81 H fun v82=>
 fA_ tab 28 v6 2 fun v83=>
 lV_ tab 25 v83 H fun v84=>
 buildV tab 46 [(0,v7),(1,v8),(2,v82)] fun v88=>
 bS_ tab 25 1 [(0,v88)] H (wkK fun v89 H15=>
 aP_ tab 25 25 v84 v89 H15 (wkK fun v90 H16=>
 fA_ tab 28 v6 2 fun v91=>
 sV_ tab 25 v91 v90 H16 fun H17=>
 binV tab .add 3 v79 (AV.p (.int .i64 1)) fun v92=>
 N3 v92 H17)))
 (binV tab .add 3 v8 (AV.p (.int .i64 1)) fun v56=>
 N2 v56 H)
def B15_1 (K:AV→Heap→Prop) (N1:AV→Heap→Prop) (N2:AV→Heap→Prop) (v2:AV) (v3:AV) (v4:AV) (v6:AV) (v7:AV) (v8:AV) (H:Heap):Prop:=
 binV tab .lss 3 v8 (AV.p (.int .i64 8)) fun v54=>
 cV_ v54 (lV_ tab 28 v2 H fun v57=>
 fA_ tab 28 v3 0 fun v59=>
 lV_ tab 3 v59 H fun v60=>
 binV tab .quo 3 v7 v60 fun v61=>
 bS_ tab 24 1 [(0,v61)] H (wkK fun v62 H10=>
 (lV_ tab 28 v2 H10 fun v9057=>
 v57=v9057)∧
 CallT Try.prog 40 [v57,v62,v8] H10 fun v64 H11=>
 lV_ tab 28 v3 H11 fun v65=>
 fA_ tab 28 v3 0 fun v67=>
 lV_ tab 3 v67 H11 fun v68=>
 binV tab .rem 3 v7 v68 fun v69=>
 bS_ tab 24 1 [(0,v69)] H11 (wkK fun v70 H12=>
 (lV_ tab 28 v3 H12 fun v9065=>
 v65=v9065)∧
 CallT Try.prog 40 [v65,v70,v8] H12 fun v72 H13=>
 fA_ tab 28 v3 0 fun v75=>
 lV_ tab 3 v75 H13 fun v76=>
 CallT Try.prog 39 [v64,v72,v76] H13 fun v77 H14=>
 lenV tab 24 v77 fun v78=>
 L15_2 K N1 N2 v2 v3 v4 v6 v7 v8 v77 v78 (AV.p (.int .i64 0)) H14)))
 (binV tab .add 3 v7 (AV.p (.int .i64 1)) fun v52=>
 N1 v52 H)
def L15_3 (K:AV→Heap→Prop) (v2:AV) (v3:AV) (v4:AV) (v6:AV) (v94:AV) (v95:AV) (v96:AV) (H:Heap):Prop:=LoopV (wpC Try.prog tab D15 (cAt [1,1,1,1,0,1,0,0] (bO_ Try.f15))) [2,3,4,6,94,95] (PostF.block 6 (PostF.thenA (wpC Try.prog tab D15 (cAt [1,1,1,1,1] (bO_ Try.f15))) (retF tab [.cell 4 28,.tmp 5] K))) [96] [Q_,Q_,v2,v3,v4,Q_,v6,Q_,Q_,Q_,Q_,Q_,Q_,Q_,Q_,Q_,Q_,Q_,Q_,Q_,Q_,Q_,Q_,Q_,Q_,Q_,Q_,Q_,Q_,Q_,Q_,Q_,Q_,Q_,Q_,Q_,Q_,Q_,Q_,Q_,Q_,Q_,Q_,Q_,Q_,Q_,Q_,Q_,Q_,Q_,Q_,Q_,Q_,Q_,Q_,Q_,Q_,Q_,Q_,Q_,Q_,Q_,Q_,Q_,Q_,Q_,Q_,Q_,Q_,Q_,Q_,Q_,Q_,Q_,Q_,Q_,Q_,Q_,Q_,Q_,Q_,Q_,Q_,Q_,Q_,Q_,Q_,Q_,Q_,Q_,Q_,Q_,Q_,Q_,v94,v95,v96,Q_,Q_,Q_,Q_,Q_,Q_,Q_,Q_,Q_,Q_,Q_,Q_,Q_,Q_,Q_,Q_,Q_,Q_,Q_,Q_,Q_,Q_,Q_,Q_,Q_,Q_,Q_,Q_,Q_,Q_,Q_,Q_,Q_,Q_,Q_,Q_,Q_,Q_,Q_,Q_] H
def L15_4 (K:AV→Heap→Prop) (v2:AV) (v3:AV) (v4:AV) (v6:AV) (v114:AV) (v115:AV) (v116:AV) (H:Heap):Prop:=LoopV (wpC Try.prog tab D15 (cAt [1,1,1,1,1,0,1,0,0] (bO_ Try.f15))) [2,3,4,6,114,115] (PostF.block 8 (PostF.thenA (wpC Try.prog tab D15 (cAt [1,1,1,1,1,1] (bO_ Try.f15))) (retF tab [.cell 4 28,.tmp 5] K))) [116] [Q_,Q_,v2,v3,v4,Q_,v6,Q_,Q_,Q_,Q_,Q_,Q_,Q_,Q_,Q_,Q_,Q_,Q_,Q_,Q_,Q_,Q_,Q_,Q_,Q_,Q_,Q_,Q_,Q_,Q_,Q_,Q_,Q_,Q_,Q_,Q_,Q_,Q_,Q_,Q_,Q_,Q_,Q_,Q_,Q_,Q_,Q_,Q_,Q_,Q_,Q_,Q_,Q_,Q_,Q_,Q_,Q_,Q_,Q_,Q_,Q_,Q_,Q_,Q_,Q_,Q_,Q_,Q_,Q_,Q_,Q_,Q_,Q_,Q_,Q_,Q_,Q_,Q_,Q_,Q_,Q_,Q_,Q_,Q_,Q_,Q_,Q_,Q_,Q_,Q_,Q_,Q_,Q_,Q_,Q_,Q_,Q_,Q_,Q_,Q_,Q_,Q_,Q_,Q_,Q_,Q_,Q_,Q_,Q_,Q_,Q_,Q_,Q_,v114,v115,v116,Q_,Q_,Q_,Q_,Q_,Q_,Q_,Q_,Q_,Q_,Q_,Q_,Q_,Q_,Q_,Q_,Q_,Q_,Q_,Q_] H
def B15_4 (K:AV→Heap→Prop) (N1:AV→Heap→Prop) (v2:AV) (v3:AV) (v4:AV) (v6:AV) (v114:AV) (v115:AV) (v116:AV) (H:Heap):Prop:=
 binV tab .lss 3 v116 v115 fun v117=>
 cV_ v117 (iA_ tab 26 v114 v116 fun v118=>
 lV_ tab 24 v118 H fun v119=>
 fA_ tab 28 v6 3 fun v120=>
 lV_ tab 26 v120 H fun v121=>
 fA_ tab 28 v2 0 fun v122=>
 lV_ tab 3 v122 H fun v123=>
 fA_ tab 28 v3 0 fun v126=>
 lV_ tab 3 v126 H fun v127=>
 CallT Try.prog 41 [v123] H fun v124 H23=>
 (lV_ tab 26 v120 H23 fun v9121=>
 v121=v9121)∧
 (lV_ tab 3 v126 H23 fun v9127=>
 v127=v9127)∧
 CallT Try.prog 39 [v124,v119,v127] H23 fun v128 H24=>
 (lV_ tab 26 v120 H24 fun v9121=>
 v121=v9121)∧
 bS_ tab 26 1 [(0,v128)] H24 (wkK fun v129 H25=>
 (lV_ tab 26 v120 H25 fun v9121=>
 v121=v9121)∧
 aP_ tab 26 26 v121 v129 H25 (wkK fun v130 H26=>
 fA_ tab 28 v6 3 fun v131=>
 sV_ tab 26 v131 v130 H26 fun H27=>
 binV tab .add 3 v116 (AV.p (.int .i64 1)) fun v132=>
 N1 v132 H27)))
 (lV_ tab 28 v6 H fun v133=>
 CallT Try.prog 25 [v133] H fun v134 H28=>
 xV_ v134 0 fun v135=>
 xV_ v134 1 fun v136=>
 sV_ tab 28 v4 v135 H28 fun H29=>
 lV_ tab 28 v4 H29 fun r0=>
 K (.tup [r0,v136]) H29)
def B15_3 (K:AV→Heap→Prop) (N1:AV→Heap→Prop) (v2:AV) (v3:AV) (v4:AV) (v6:AV) (v94:AV) (v95:AV) (v96:AV) (H:Heap):Prop:=
 binV tab .lss 3 v96 v95 fun v97=>
 cV_ v97 (iA_ tab 26 v94 v96 fun v98=>
 lV_ tab 24 v98 H fun v99=>
 fA_ tab 28 v6 3 fun v100=>
 lV_ tab 26 v100 H fun v101=>
 fA_ tab 28 v3 0 fun v103=>
 lV_ tab 3 v103 H fun v104=>
 fA_ tab 28 v3 0 fun v106=>
 lV_ tab 3 v106 H fun v107=>
 CallT Try.prog 41 [v104] H fun v105 H18=>
 (lV_ tab 26 v100 H18 fun v9101=>
 v101=v9101)∧
 (lV_ tab 3 v106 H18 fun v9107=>
 v107=v9107)∧
 CallT Try.prog 39 [v99,v105,v107] H18 fun v108 H19=>
 (lV_ tab 26 v100 H19 fun v9101=>
 v101=v9101)∧
 bS_ tab 26 1 [(0,v108)] H19 (wkK fun v109 H20=>
 (lV_ tab 26 v100 H20 fun v9101=>
 v101=v9101)∧
 aP_ tab 26 26 v101 v109 H20 (wkK fun v110 H21=>
 fA_ tab 28 v6 3 fun v111=>
 sV_ tab 26 v111 v110 H21 fun H22=>
 binV tab .add 3 v96 (AV.p (.int .i64 1)) fun v112=>
 N1 v112 H22)))
 (fA_ tab 28 v3 3 fun v113=>
 lV_ tab 26 v113 H fun v114=>
 lenV tab 26 v114 fun v115=>
 L15_4 K v2 v3 v4 v6 v114 v115 (AV.p (.int .i64 0)) H)
def B15_0 (K:AV→Heap→Prop) (N1:AV→Heap→Prop) (v2:AV) (v3:AV) (v4:AV) (v6:AV) (v7:AV) (H:Heap):Prop:=
 fA_ tab 28 v6 0 fun v48=>
 lV_ tab 3 v48 H fun v49=>
 binV tab .lss 3 v7 v49 fun v50=>
 cV_ v50 (L15_1 K N1 v2 v3 v4 v6 v7 (AV.p (.int .i64 0)) H)
 (fA_ tab 28 v2 3 fun v93=>
 lV_ tab 26 v93 H fun v94=>
 lenV tab 26 v94 fun v95=>
 L15_3 K v2 v3 v4 v6 v94 v95 (AV.p (.int .i64 0)) H)
def W15 (v0:AV) (v1:AV) (H:Heap) (K:AV→Heap→Prop):Prop:=
 boxV v0 H fun v2 H1=>
 boxV v1 H1 fun v3 H2=>
 allocV tab 28 H2 fun v4 H3=>
 lV_ tab 28 v2 H3 fun v17=>
 CallT Try.prog 17 [v17] H3 fun v18 H4=>
 unV .not v18 fun v19=>
 grdV v19 false (lV_ tab 28 v3 H4 fun v21=>
 CallT Try.prog 17 [v21] H4 fun v22 H5=>
 unV .not v22 fun v23=>
 grdV v23 false (fA_ tab 28 v2 0 fun v26=>
 lV_ tab 3 v26 H5 fun v27=>
 fA_ tab 28 v3 0 fun v28=>
 lV_ tab 3 v28 H5 fun v29=>
 binV tab .mul 3 v27 v29 fun v30=>
 binV tab .gtr 3 v30 (AV.p (.int .i64 96)) fun v31=>
 cV_ v31 (buildV tab 28 [] fun v33=>
 sV_ tab 28 v4 v33 H5 fun H6=>
 lV_ tab 28 v4 H6 fun r0=>
 K (.tup [r0,(AV.p (.bool false))]) H6)
 (fA_ tab 28 v2 0 fun v34=>
 lV_ tab 3 v34 H5 fun v35=>
 fA_ tab 28 v3 0 fun v36=>
 lV_ tab 3 v36 H5 fun v37=>
 binV tab .mul 3 v35 v37 fun v38=>
 fA_ tab 28 v2 1 fun v39=>
 lV_ tab 24 v39 H5 fun v40=>
 fA_ tab 28 v3 1 fun v41=>
 lV_ tab 24 v41 H5 fun v42=>
 fA_ tab 28 v3 0 fun v43=>
 lV_ tab 3 v43 H5 fun v44=>
 CallT Try.prog 39 [v40,v42,v44] H5 fun v45 H7=>
 (lV_ tab 3 v34 H7 fun v9035=>
 v35=v9035)∧
 (lV_ tab 3 v36 H7 fun v9037=>
 v37=v9037)∧
 buildV tab 28 [(0,v38),(1,v45)] fun v46=>
 allocV tab 28 H7 fun v6 H8=>
 sV_ tab 28 v6 v46 H8 fun H9=>
 L15_0 K v2 v3 v4 v6 (AV.p (.int .i64 0)) H9))
 (buildV tab 28 [] fun v33=>
 sV_ tab 28 v4 v33 H5 fun H31=>
 lV_ tab 28 v4 H31 fun r0=>
 K (.tup [r0,(AV.p (.bool false))]) H31))
 (buildV tab 28 [] fun v33=>
 sV_ tab 28 v4 v33 H4 fun H32=>
 lV_ tab 28 v4 H32 fun r0=>
 K (.tup [r0,(AV.p (.bool false))]) H32)
theorem W15_wp (v0:AV) (v1:AV) (H:Heap) (K:AV→Heap→Prop):wpC Try.prog tab D15 (bO_ Try.f15) (retF tab [.cell 4 28,.tmp 5] K) (nthA [v0,v1]) H=W15 v0 v1 H K:=by kernel_rfl
theorem W15_ok {v0 v1:AV} {H:Heap} {K:AV→Heap→Prop} (h:W15 v0 v1 H K):CallT Try.prog 15 [v0,v1] H K:=
 CallT.of_wp (D:=D15) tO_ mixed Try.func15 (c:=bO_ Try.f15) (by kernel_rfl) rfl (by kernel_rfl) (rs:=#[.cell 4 28,.tmp 5]) rfl (by decide +kernel) (by kernel_rfl) (W15_wp v0 v1 H K) h
theorem W15_hb:HasBody Try.prog 15:=⟨_,bO_ Try.f15,Try.func15,by kernel_rfl,rfl⟩
theorem L15_2_rule {K:AV→Heap→Prop} {N1:AV→Heap→Prop} {N2:AV→Heap→Prop} {v2 v3 v4 v6 v7 v8 v77 v78 v79:AV} {H:Heap} {σ:Type} (s0:σ) (f79:σ→AV) (TH:σ→Heap) (pre:σ→Prop) (μ:σ→Nat)
  (h0:pre s0∧AV.wk v79 (f79 s0)∧Heap.le (TH s0) H)
  (round:∀s,pre s→B15_2 K N1 N2 (fun w79 H'=>∃s',pre s'∧μ s' < μ s∧AV.wk w79 (f79 s')∧Heap.le (TH s') H') v2 v3 v4 v6 v7 v8 v77 v78 (f79 s) (TH s)) :
  L15_2 K N1 N2 v2 v3 v4 v6 v7 v8 v77 v78 v79 H:=by
 unfold L15_2
 exact LoopV.mk s0 (fun s=>[f79 s]) TH pre μ (fun _=>rfl) (Eq.mp (by kernel_rfl) h0) (fun s hs=>Eq.mp (by kernel_rfl) (round s hs))
theorem L15_1_rule {K:AV→Heap→Prop} {N1:AV→Heap→Prop} {v2 v3 v4 v6 v7 v8:AV} {H:Heap} {σ:Type} (s0:σ) (f8:σ→AV) (TH:σ→Heap) (pre:σ→Prop) (μ:σ→Nat)
  (h0:pre s0∧AV.wk v8 (f8 s0)∧Heap.le (TH s0) H)
  (round:∀s,pre s→B15_1 K N1 (fun w8 H'=>∃s',pre s'∧μ s' < μ s∧AV.wk w8 (f8 s')∧Heap.le (TH s') H') v2 v3 v4 v6 v7 (f8 s) (TH s)) :
  L15_1 K N1 v2 v3 v4 v6 v7 v8 H:=by
 unfold L15_1
 exact LoopV.mk s0 (fun s=>[f8 s]) TH pre μ (fun _=>rfl) (Eq.mp (by kernel_rfl) h0) (fun s hs=>Eq.mp (by kernel_rfl) (round s hs))
theorem L15_4_rule {K:AV→Heap→Prop} {v2 v3 v4 v6 v114 v115 v116:AV} {H:Heap} {σ:Type} (s0:σ) (f116:σ→AV) (TH:σ→Heap) (pre:σ→Prop) (μ:σ→Nat)
  (h0:pre s0∧AV.wk v116 (f116 s0)∧Heap.le (TH s0) H)
  (round:∀s,pre s→B15_4 K (fun w116 H'=>∃s',pre s'∧μ s' < μ s∧AV.wk w116 (f116 s')∧Heap.le (TH s') H') v2 v3 v4 v6 v114 v115 (f116 s) (TH s)) :
  L15_4 K v2 v3 v4 v6 v114 v115 v116 H:=by
 unfold L15_4
 exact LoopV.mk s0 (fun s=>[f116 s]) TH pre μ (fun _=>rfl) (Eq.mp (by kernel_rfl) h0) (fun s hs=>Eq.mp (by kernel_rfl) (round s hs))
theorem L15_3_rule {K:AV→Heap→Prop} {v2 v3 v4 v6 v94 v95 v96:AV} {H:Heap} {σ:Type} (s0:σ) (f96:σ→AV) (TH:σ→Heap) (pre:σ→Prop) (μ:σ→Nat)
  (h0:pre s0∧AV.wk v96 (f96 s0)∧Heap.le (TH s0) H)
  (round:∀s,pre s→B15_3 K (fun w96 H'=>∃s',pre s'∧μ s' < μ s∧AV.wk w96 (f96 s')∧Heap.le (TH s') H') v2 v3 v4 v6 v94 v95 (f96 s) (TH s)) :
  L15_3 K v2 v3 v4 v6 v94 v95 v96 H:=by
 unfold L15_3
 exact LoopV.mk s0 (fun s=>[f96 s]) TH pre μ (fun _=>rfl) (Eq.mp (by kernel_rfl) h0) (fun s hs=>Eq.mp (by kernel_rfl) (round s hs))
theorem L15_0_rule {K:AV→Heap→Prop} {v2 v3 v4 v6 v7:AV} {H:Heap} {σ:Type} (s0:σ) (f7:σ→AV) (TH:σ→Heap) (pre:σ→Prop) (μ:σ→Nat)
  (h0:pre s0∧AV.wk v7 (f7 s0)∧Heap.le (TH s0) H)
  (round:∀s,pre s→B15_0 K (fun w7 H'=>∃s',pre s'∧μ s' < μ s∧AV.wk w7 (f7 s')∧Heap.le (TH s') H') v2 v3 v4 v6 (f7 s) (TH s)) :
  L15_0 K v2 v3 v4 v6 v7 H:=by
 unfold L15_0
 exact LoopV.mk s0 (fun s=>[f7 s]) TH pre μ (fun _=>rfl) (Eq.mp (by kernel_rfl) h0) (fun s hs=>Eq.mp (by kernel_rfl) (round s hs))
def D16:Info:=⟨91,fun i=>if i=6 then ([[],[0],[0,1],[0,1,2],[0,1,2,3],[0,1,2,3,4],[0,1,2,3],[0,1,2,3,6],[0,1,2,3,4,5,6,7],[0,1,2,3,4,5,6,7,8],[0,1,2,3,4,5,6,7,8,9],[0,1,2,3,4,5,6,7,8,9,10],[0,1,2,3,4,5,6,7,8,9,10,11],[0,1,2,3,4,5,6,7,8,9,10,11,12],[0,1,2,3,4,5,6,7,8,9,10,11,12,13],[0,1,2,3,4,5,6,7,8,9,10,11,12,13,14],[0,1,2,3,4,5,6,7,8,9,10,11,12,13,14,15],[0,1,2,3,4,5,6,7,8,9,10,11,12,13,14,15,16],[0,1,2,3,4,5,6,7,8,9,10,11,12,13,14,15],[0,1,2,3,4,5,6,7,8,9,10,11,12,13,14,15,18],[0,1,2,3,4,5,6,7,8,9,10,11,12,13,14,15,16,17,18,19],[0,1,2,3,4,5,6,7,8,9,10,11,12,13,14,15,16,17,18,19,20],[0,1,2,3,4,5,6,7,8,9,10,11,12,13,14,15,16,17,18,19,20,21],[0,1,2,3,4,5,6,7,8,9,10,11,12,13,14,15,16,17,18,19,20,21,22],[0,1,2,3,4,5,6,7,8,9,10,11,12,13,14,15,16,17,18,19,20,21,22,23],[0,1,2,3,4,5,6,7,8,9,10,11,12,13,14,15,16,17,18,19,20,21,22,23,24],[0,1,2,3,4,5,6,7,8,9,10,11,12,13,14,15,16,17,18,19,20,21,22,23,24,25],[0,1,2,3,4,5,6,7,8,9,10,11,12,13,14,15,16,17,18,19,20,21,22,23,24,25,26],[0,1,2,3,4,5,6,7,8,9,10,11,12,13,14,15,16,17,18,19,20,21,22,23,24,25,26,27],[0,1,2,3,4,5,6,7,8,9,10,11,12,13,14,15,16,17,18,19,20,21,22,23,24,25,26,27,28],[0,1,2,3,4,5,6,7,8,9,10,11,12,13,14,15,16,17,18,19,20,21,22,23,24,25,26,27,28,29],[0,1,2,3,4,5,6,7,8,9,10,11,12,13,14,15,16,17,18,19,20,21,22,23,24,25,26,27,28,29,30],[0,1,2,3,4,5,6,7,8,9,10,11,12,13,14,15,16,17,18,19,20,21,22,23,24,25,26,27,28,29,30,31],[0,1,2,3,4,5,6,7,8,9,10,11,12,13,14,15,16,17,18,19,20,21,22,23,24,25,26,27,28,29,30,31,32],[0,1,2,3,4,5,6,7,8,9,10,11,12,13,14,15,16,17,18,19,20,21,22,23,24,25,26,27,28,29,30,31,32,33],[0,1,2,3,4,5,6,7,8,9,10,11,12,13,14,15,16,17,18,19,20,21,22,23,24,25,26,27,28,29,30,31,32,33,34],[0,1,2,3,4,5,6,7,8,9,10,11,12,13,14,15,16,17,18,19,20,21,22,23,24,25,26,27,28,29,30,31,32,33,34,35],[0,1,2,3,4,5,6,7,8,9,10,11,12,13,14,15,16,17,18,19,20,21,22,23,24,25,26,27,28,29,30,31,32,33,34,35,36],[0,1,2,3,4,5,6,7,8,9,10,11,12,13,14,15,16,17,18,19,20,21,22,23,24,25,26,27,28,29,30,31,32,33,34,35],[0,1,2,3,4,5,6,7,8,9,10,11,12,13,14,15,16,17,18,19,20,21,22,23,24,25,26,27,28,29,30,31,32,33,34,35,38],[0,1,2,3,4,5,6,7,8,9,10,11,12,13,14,15,16,17,18,19,20,21,22,23,24,25,26,27,28,29,30,31,32,33,34,35,36,37,38,39],[0,1,2,3,4,5,6,7,8,9,10,11,12,13,14,15,16,17,18,19,20,21,22,23,24,25,26,27,28,29,30,31,32,33,34,35,36,37,38,39,40],[0,1,2,3,4,5,6,7,8,9,10,11,12,13,14,15,16,17,18,19,20,21,22,23,24,25,26,27,28,29,30,31,32,33,34,35],[0,1,2,3,4,5,6,7,8,9,10,11,12,13,14,15,16,17,18,19,20,21,22,23,24,25,26,27,28,29,30,31,32,33,34,35,36,37,38,39,40,41,42],[0,1,2,3,4,5,6,7,8,9,10,11,12,13,14,15,16,17,18,19,20,21,22,23,24,25,26,27,28,29,30,31,32,33,34,35,36,37,38,39,40,41,42,43],[0,1,2,3,4,5,6,7,8,9,10,11,12,13,14,15,16,17,18,19,20,21,22,23,24,25,26,27,28,29,30,31,32,33,34,35,36,37,38,39,40,41,42,43,44],[0,1,2,3,4,5,6,7,8,9,10,11,12,13,14,15,16,17,18,19,20,21,22,23,24,25,26,27,28,29,30,31,32,33,34,35,36,37,38,39,40,41,42,43,44,45]],[(0,[]),(1,[]),(2,[]),(3,[]),(4,[]),(5,[]),(6,[]),(7,[]),(8,[]),(9,[]),(10,[]),(11,[]),(12,[]),(13,[]),(14,[]),(15,[]),(16,[]),(17,[]),(18,[]),(19,[]),(20,[]),(21,[]),(22,[]),(23,[]),(24,[]),(25,[]),(26,[]),(27,[]),(28,[]),(29,[]),(30,[]),(31,[]),(32,[]),(33,[]),(34,[]),(35,[]),(36,[]),(37,[]),(38,[]),(39,[]),(40,[]),(41,[]),(42,[]),(43,[]),(44,[]),(45,[]),(46,[])]) else ([],[]),fun i=>if i=4 then ([1,36,37],[38]) else ([],[])⟩
def L16_0 (K:AV→Heap→Prop) (v1:AV) (v36:AV) (v37:AV) (v38:AV) (H:Heap):Prop:=LoopV (wpC Try.prog tab D16 (cAt [1,1,0,1,0,0] (bO_ Try.f16))) [1,36,37] (PostF.block 0 (PostF.thenA (wpC Try.prog tab D16 (cAt [1,1,1] (bO_ Try.f16))) (retF tab [.tmp 2] K))) [38] [Q_,v1,Q_,Q_,Q_,Q_,Q_,Q_,Q_,Q_,Q_,Q_,Q_,Q_,Q_,Q_,Q_,Q_,Q_,Q_,Q_,Q_,Q_,Q_,Q_,Q_,Q_,Q_,Q_,Q_,Q_,Q_,Q_,Q_,Q_,Q_,v36,v37,v38,Q_,Q_,Q_,Q_,Q_,Q_,Q_,Q_,Q_,Q_,Q_,Q_,Q_,Q_,Q_,Q_,Q_,Q_,Q_,Q_,Q_,Q_,Q_,Q_,Q_,Q_,Q_,Q_,Q_,Q_,Q_,Q_,Q_,Q_,Q_,Q_,Q_,Q_,Q_,Q_,Q_,Q_,Q_,Q_,Q_,Q_,Q_,Q_,Q_,Q_,Q_,Q_] H
def B16_0 (K:AV→Heap→Prop) (N1:AV→Heap→Prop) (v1:AV) (v36:AV) (v37:AV) (v38:AV) (H:Heap):Prop:=
 binV tab .lss 3 v38 v37 fun v39=>
 cV_ v39 (iA_ tab 25 v36 v38 fun v41=>
 lV_ tab 46 v41 H fun v42=>
 allocV tab 46 H fun v4 H4=>
 sV_ tab 46 v4 v42 H4 fun H5=>
 fA_ tab 46 v4 0 fun v43=>
 lV_ tab 3 v43 H5 fun v44=>
 binV tab .lss 3 v44 (AV.p (.int .i64 0)) fun v45=>
 grdV v45 false (fA_ tab 46 v4 0 fun v47=>
 lV_ tab 3 v47 H5 fun v48=>
 fA_ tab 28 v1 0 fun v49=>
 lV_ tab 3 v49 H5 fun v50=>
 binV tab .geq 3 v48 v50 fun v51=>
 grdV v51 false (fA_ tab 46 v4 2 fun v54=>
 lV_ tab 3 v54 H5 fun v55=>
 binV tab .lss 3 v55 (AV.p (.int .i64 0)) fun v56=>
 grdV v56 false (fA_ tab 46 v4 2 fun v59=>
 lV_ tab 3 v59 H5 fun v60=>
 fA_ tab 28 v1 0 fun v61=>
 lV_ tab 3 v61 H5 fun v62=>
 binV tab .geq 3 v60 v62 fun v63=>
 grdV v63 false (fA_ tab 46 v4 1 fun v66=>
 lV_ tab 3 v66 H5 fun v67=>
 binV tab .lss 3 v67 (AV.p (.int .i64 0)) fun v68=>
 grdV v68 false (fA_ tab 46 v4 1 fun v71=>
 lV_ tab 3 v71 H5 fun v72=>
 binV tab .geq 3 v72 (AV.p (.int .i64 8)) fun v73=>
 grdV v73 false (binV tab .gtr 3 v38 (AV.p (.int .i64 0)) fun v77=>
 grdV v77 true (fA_ tab 28 v1 2 fun v79=>
 lV_ tab 25 v79 H5 fun v80=>
 binV tab .sub 3 v38 (AV.p (.int .i64 1)) fun v82=>
 iA_ tab 25 v80 v82 fun v83=>
 lV_ tab 46 v83 H5 fun v84=>
 lV_ tab 46 v4 H5 fun v85=>
 CallT Try.prog 44 [v84,v85] H5 fun v86 H6=>
 binV tab .geq 3 v86 (AV.p (.int .i64 0)) fun v87=>
 cV_ v87 (K (AV.p (.bool false)) H6)
 (binV tab .add 3 v38 (AV.p (.int .i64 1)) fun v90=>
 N1 v90 H6))
 (binV tab .add 3 v38 (AV.p (.int .i64 1)) fun v90=>
 N1 v90 H5))
 (K (AV.p (.bool false)) H5))
 (K (AV.p (.bool false)) H5))
 (K (AV.p (.bool false)) H5))
 (K (AV.p (.bool false)) H5))
 (K (AV.p (.bool false)) H5))
 (K (AV.p (.bool false)) H5))
 (K (AV.p (.bool true)) H)
def W16 (v0:AV) (H:Heap) (K:AV→Heap→Prop):Prop:=
 boxV v0 H fun v1 H1=>
 fA_ tab 28 v1 0 fun v5=>
 lV_ tab 3 v5 H1 fun v6=>
 binV tab .lss 3 v6 (AV.p (.int .i64 1)) fun v7=>
 grdV v7 false (fA_ tab 28 v1 0 fun v9=>
 lV_ tab 3 v9 H1 fun v10=>
 binV tab .gtr 3 v10 (AV.p (.int .i64 96)) fun v11=>
 grdV v11 false (fA_ tab 28 v1 1 fun v14=>
 lV_ tab 24 v14 H1 fun v15=>
 fA_ tab 28 v1 0 fun v16=>
 lV_ tab 3 v16 H1 fun v17=>
 CallT Try.prog 42 [v15,v17] H1 fun v18 H2=>
 unV .not v18 fun v19=>
 grdV v19 false (fA_ tab 28 v1 2 fun v22=>
 lV_ tab 25 v22 H2 fun v23=>
 lenV tab 25 v23 fun v24=>
 binV tab .gtr 3 v24 (AV.p (.int .i64 2400)) fun v25=>
 grdV v25 false (fA_ tab 28 v1 3 fun v28=>
 lV_ tab 26 v28 H2 fun v29=>
 fA_ tab 28 v1 0 fun v30=>
 lV_ tab 3 v30 H2 fun v31=>
 CallT Try.prog 43 [v29,v31] H2 fun v32 H3=>
 unV .not v32 fun v33=>
 cV_ v33 (K (AV.p (.bool false)) H3)
 (fA_ tab 28 v1 2 fun v35=>
 lV_ tab 25 v35 H3 fun v36=>
 lenV tab 25 v36 fun v37=>
 L16_0 K v1 v36 v37 (AV.p (.int .i64 0)) H3))
 (K (AV.p (.bool false)) H2))
 (K (AV.p (.bool false)) H2))
 (K (AV.p (.bool false)) H1))
 (K (AV.p (.bool false)) H1)
theorem W16_wp (v0:AV) (H:Heap) (K:AV→Heap→Prop):wpC Try.prog tab D16 (bO_ Try.f16) (retF tab [.tmp 2] K) (nthA [v0]) H=W16 v0 H K:=by kernel_rfl
theorem W16_ok {v0:AV} {H:Heap} {K:AV→Heap→Prop} (h:W16 v0 H K):CallT Try.prog 16 [v0] H K:=
 CallT.of_wp (D:=D16) tO_ mixed Try.func16 (c:=bO_ Try.f16) (by kernel_rfl) rfl (by kernel_rfl) (rs:=#[.tmp 2]) rfl (by decide +kernel) (by kernel_rfl) (W16_wp v0 H K) h
theorem L16_0_rule {K:AV→Heap→Prop} {v1 v36 v37 v38:AV} {H:Heap} {σ:Type} (s0:σ) (f38:σ→AV) (TH:σ→Heap) (pre:σ→Prop) (μ:σ→Nat)
  (h0:pre s0∧AV.wk v38 (f38 s0)∧Heap.le (TH s0) H)
  (round:∀s,pre s→B16_0 K (fun w38 H'=>∃s',pre s'∧μ s' < μ s∧AV.wk w38 (f38 s')∧Heap.le (TH s') H') v1 v36 v37 (f38 s) (TH s)) :
  L16_0 K v1 v36 v37 v38 H:=by
 unfold L16_0
 exact LoopV.mk s0 (fun s=>[f38 s]) TH pre μ (fun _=>rfl) (Eq.mp (by kernel_rfl) h0) (fun s hs=>Eq.mp (by kernel_rfl) (round s hs))
end Go.Proofs.Ytohkciilfkhomaa
namespace Go.Proofs.Ytohkciilfkhomaa
open Go Go.Sep
attribute [local irreducible] wpC headF
def D17:Info:=⟨77,fun i=>if i=6 then ([[],[0],[],[2],[2,3],[0,1,2,3,4],[0,1,2,3,4,5],[0,1,2,3,4,5,6],[0,1,2,3,4,5,6,7],[0,1,2,3,4,5,6,7,8],[0,1,2,3,4,5,6,7,8,9],[0,1,2,3,4,5,6,7,8,9,10],[0,1,2,3,4,5,6,7,8,9,10,11],[0,1,2,3,4,5,6,7,8,9,10,11,12],[0,1,2,3,4,5,6,7,8,9,10,11,12,13],[0,1,2,3,4,5,6,7,8,9,10,11,12,13,14],[0,1,2,3,4,5,6,7,8,9,10,11,12,13],[0,1,2,3,4,5,6,7,8,9,10,11,12,13,16],[0,1,2,3,4,5,6,7,8,9,10,11,12,13,16,17],[0,1,2,3,4,5,6,7,8,9,10,11,12,13,14,15,16,17,18],[0,1,2,3,4,5,6,7,8,9,10,11,12,13,14,15,16,17,18,19],[0,1,2,3,4,5,6,7,8,9,10,11,12,13,14,15,16,17,18,19,20],[0,1,2,3,4,5,6,7,8,9,10,11,12,13,14,15,16,17,18,19,20,21],[0,1,2,3,4,5,6,7,8,9,10,11,12,13,14,15,16,17,18,19,20,21,22],[0,1,2,3,4,5,6,7,8,9,10,11,12,13,14,15,16,17,18,19,20,21,22,23],[0,1,2,3,4,5,6,7,8,9,10,11,12,13,14,15,16,17,18,19,20,21,22,23,24],[0,1,2,3,4,5,6,7,8,9,10,11,12,13,14,15,16,17,18,19,20,21,22,23,24,25],[0,1,2,3,4,5,6,7,8,9,10,11,12,13,14,15,16,17,18,19,20,21,22,23,24,25,26],[0,1,2,3,4,5,6,7,8,9,10,11,12,13,14,15,16,17,18,19,20,21,22,23,24,25],[0,1,2,3,4,5,6,7,8,9,10,11,12,13,14,15,16,17,18,19,20,21,22,23,24,25,28],[0,1,2,3,4,5,6,7,8,9,10,11,12,13,14,15,16,17,18,19,20,21,22,23,24,25,26,27,28,29],[0,1,2,3,4,5,6,7,8,9,10,11,12,13,14,15,16,17,18,19,20,21,22,23,24,25,26,27,28,29,30],[0,1,2,3,4,5,6,7,8,9,10,11,12,13,14,15,16,17,18,19,20,21,22,23,24,25],[0,1,2,3,4,5,6,7,8,9,10,11,12,13,14,15,16,17,18,19,20,21,22,23,24,25,26,27,28,29,30,31,32],[0,1,2,3,4,5,6,7,8,9,10,11,12,13,14,15,16,17,18,19,20,21,22,23,24,25,26,27,28,29,30,31,32,33],[0,1,2,3,4,5,6,7,8,9,10,11,12,13,14,15,16,17,18,19,20,21,22,23,24,25,26,27,28,29,30,31,32,33,34],[0,1,2,3,4,5,6,7,8,9,10,11,12,13,14,15,16,17,18,19,20,21,22,23,24,25,26,27,28,29,30,31,32,33,34,35]],[(0,[]),(1,[]),(2,[]),(3,[]),(4,[]),(5,[]),(6,[]),(7,[]),(8,[]),(9,[]),(10,[]),(11,[]),(12,[]),(13,[]),(14,[]),(15,[]),(16,[]),(17,[]),(18,[]),(19,[]),(20,[]),(21,[]),(22,[]),(23,[]),(24,[]),(25,[]),(26,[]),(27,[]),(28,[]),(29,[]),(30,[]),(31,[]),(32,[]),(33,[]),(34,[]),(35,[]),(36,[])]) else ([],[]),fun i=>if i=4 then ([1,32,33],[34]) else ([],[])⟩
def L17_0 (K:AV→Heap→Prop) (v1:AV) (v32:AV) (v33:AV) (v34:AV) (H:Heap):Prop:=LoopV (wpC Try.prog tab D17 (cAt [1,1,0,1,0,0] (bO_ Try.f17))) [1,32,33] (PostF.block 0 (PostF.thenA (wpC Try.prog tab D17 (cAt [1,1,1] (bO_ Try.f17))) (retF tab [.tmp 2] K))) [34] [Q_,v1,Q_,Q_,Q_,Q_,Q_,Q_,Q_,Q_,Q_,Q_,Q_,Q_,Q_,Q_,Q_,Q_,Q_,Q_,Q_,Q_,Q_,Q_,Q_,Q_,Q_,Q_,Q_,Q_,Q_,Q_,v32,v33,v34,Q_,Q_,Q_,Q_,Q_,Q_,Q_,Q_,Q_,Q_,Q_,Q_,Q_,Q_,Q_,Q_,Q_,Q_,Q_,Q_,Q_,Q_,Q_,Q_,Q_,Q_,Q_,Q_,Q_,Q_,Q_,Q_,Q_,Q_,Q_,Q_,Q_,Q_,Q_,Q_,Q_,Q_] H
def B17_0 (K:AV→Heap→Prop) (N1:AV→Heap→Prop) (v1:AV) (v32:AV) (v33:AV) (v34:AV) (H:Heap):Prop:=
 binV tab .lss 3 v34 v33 fun v35=>
 cV_ v35 (iA_ tab 25 v32 v34 fun v37=>
 lV_ tab 46 v37 H fun v38=>
 allocV tab 46 H fun v4 H5=>
 sV_ tab 46 v4 v38 H5 fun H6=>
 fA_ tab 46 v4 0 fun v39=>
 lV_ tab 3 v39 H6 fun v40=>
 fA_ tab 28 v1 0 fun v41=>
 lV_ tab 3 v41 H6 fun v42=>
 binV tab .sub 3 v42 (AV.p (.int .i64 1)) fun v43=>
 CallT Try.prog 32 [v40,(AV.p (.int .i64 0)),v43] H6 fun v44 H7=>
 unV .not v44 fun v45=>
 grdV v45 false (fA_ tab 46 v4 1 fun v47=>
 lV_ tab 3 v47 H7 fun v48=>
 CallT Try.prog 32 [v48,(AV.p (.int .i64 0)),(AV.p (.int .i64 7))] H7 fun v49 H8=>
 unV .not v49 fun v50=>
 grdV v50 false (fA_ tab 46 v4 2 fun v53=>
 lV_ tab 3 v53 H8 fun v54=>
 fA_ tab 28 v1 0 fun v55=>
 lV_ tab 3 v55 H8 fun v56=>
 binV tab .sub 3 v56 (AV.p (.int .i64 1)) fun v57=>
 CallT Try.prog 32 [v54,(AV.p (.int .i64 0)),v57] H8 fun v58 H9=>
 unV .not v58 fun v59=>
 grdV v59 false (binV tab .gtr 3 v34 (AV.p (.int .i64 0)) fun v63=>
 grdV v63 true (fA_ tab 28 v1 2 fun v65=>
 lV_ tab 25 v65 H9 fun v66=>
 binV tab .sub 3 v34 (AV.p (.int .i64 1)) fun v68=>
 iA_ tab 25 v66 v68 fun v69=>
 lV_ tab 46 v69 H9 fun v70=>
 lV_ tab 46 v4 H9 fun v71=>
 CallT Try.prog 47 [v70,v71] H9 fun v72 H10=>
 unV .not v72 fun v73=>
 cV_ v73 (K (AV.p (.bool false)) H10)
 (binV tab .add 3 v34 (AV.p (.int .i64 1)) fun v76=>
 N1 v76 H10))
 (binV tab .add 3 v34 (AV.p (.int .i64 1)) fun v76=>
 N1 v76 H9))
 (K (AV.p (.bool false)) H9))
 (K (AV.p (.bool false)) H8))
 (K (AV.p (.bool false)) H7))
 (K (AV.p (.bool true)) H)
def W17 (v0:AV) (H:Heap) (K:AV→Heap→Prop):Prop:=
 boxV v0 H fun v1 H1=>
 fA_ tab 28 v1 0 fun v5=>
 lV_ tab 3 v5 H1 fun v6=>
 CallT Try.prog 32 [v6,(AV.p (.int .i64 1)),(AV.p (.int .i64 96))] H1 fun v7 H2=>
 unV .not v7 fun v8=>
 grdV v8 false (fA_ tab 28 v1 1 fun v10=>
 lV_ tab 24 v10 H2 fun v11=>
 fA_ tab 28 v1 0 fun v12=>
 lV_ tab 3 v12 H2 fun v13=>
 CallT Try.prog 45 [v11,v13] H2 fun v14 H3=>
 unV .not v14 fun v15=>
 grdV v15 false (fA_ tab 28 v1 2 fun v18=>
 lV_ tab 25 v18 H3 fun v19=>
 lenV tab 25 v19 fun v20=>
 binV tab .gtr 3 v20 (AV.p (.int .i64 2400)) fun v21=>
 grdV v21 false (fA_ tab 28 v1 3 fun v24=>
 lV_ tab 26 v24 H3 fun v25=>
 fA_ tab 28 v1 0 fun v26=>
 lV_ tab 3 v26 H3 fun v27=>
 CallT Try.prog 46 [v25,v27] H3 fun v28 H4=>
 unV .not v28 fun v29=>
 cV_ v29 (K (AV.p (.bool false)) H4)
 (fA_ tab 28 v1 2 fun v31=>
 lV_ tab 25 v31 H4 fun v32=>
 lenV tab 25 v32 fun v33=>
 L17_0 K v1 v32 v33 (AV.p (.int .i64 0)) H4))
 (K (AV.p (.bool false)) H3))
 (K (AV.p (.bool false)) H3))
 (K (AV.p (.bool false)) H2)
theorem W17_wp (v0:AV) (H:Heap) (K:AV→Heap→Prop):wpC Try.prog tab D17 (bO_ Try.f17) (retF tab [.tmp 2] K) (nthA [v0]) H=W17 v0 H K:=by kernel_rfl
theorem W17_ok {v0:AV} {H:Heap} {K:AV→Heap→Prop} (h:W17 v0 H K):CallT Try.prog 17 [v0] H K:=
 CallT.of_wp (D:=D17) tO_ mixed Try.func17 (c:=bO_ Try.f17) (by kernel_rfl) rfl (by kernel_rfl) (rs:=#[.tmp 2]) rfl (by decide +kernel) (by kernel_rfl) (W17_wp v0 H K) h
theorem L17_0_rule {K:AV→Heap→Prop} {v1 v32 v33 v34:AV} {H:Heap} {σ:Type} (s0:σ) (f34:σ→AV) (TH:σ→Heap) (pre:σ→Prop) (μ:σ→Nat)
  (h0:pre s0∧AV.wk v34 (f34 s0)∧Heap.le (TH s0) H)
  (round:∀s,pre s→B17_0 K (fun w34 H'=>∃s',pre s'∧μ s' < μ s∧AV.wk w34 (f34 s')∧Heap.le (TH s') H') v1 v32 v33 (f34 s) (TH s)) :
  L17_0 K v1 v32 v33 v34 H:=by
 unfold L17_0
 exact LoopV.mk s0 (fun s=>[f34 s]) TH pre μ (fun _=>rfl) (Eq.mp (by kernel_rfl) h0) (fun s hs=>Eq.mp (by kernel_rfl) (round s hs))
def D22:Info:=⟨9,fun i=>([],[]),fun i=>([],[])⟩
def W22 (v0:AV) (H:Heap) (K:AV→Heap→Prop):Prop:=
 boxV v0 H fun v1 H1=>
 allocV tab 28 H1 fun v2 H2=>
 lV_ tab 28 v1 H2 fun v4=>
 CallT Try.prog 16 [v4] H2 fun v5 H3=>
 unV .not v5 fun v6=>
 cV_ v6 (buildV tab 28 [] fun v7=>
 sV_ tab 28 v2 v7 H3 fun H4=>
 lV_ tab 28 v2 H4 fun r0=>
 K (.tup [r0,(AV.p (.bool false))]) H4)
 (lV_ tab 28 v1 H3 fun v8=>
 sV_ tab 28 v2 v8 H3 fun H5=>
 lV_ tab 28 v2 H5 fun r0=>
 K (.tup [r0,(AV.p (.bool true))]) H5)
theorem W22_wp (v0:AV) (H:Heap) (K:AV→Heap→Prop):wpC Try.prog tab D22 (bO_ Try.f22) (retF tab [.cell 2 28,.tmp 3] K) (nthA [v0]) H=W22 v0 H K:=by kernel_rfl
theorem W22_ok {v0:AV} {H:Heap} {K:AV→Heap→Prop} (h:W22 v0 H K):CallT Try.prog 22 [v0] H K:=
 CallT.of_wp (D:=D22) tO_ mixed Try.func22 (c:=bO_ Try.f22) (by kernel_rfl) rfl (by kernel_rfl) (rs:=#[.cell 2 28,.tmp 3]) rfl (by decide +kernel) (by kernel_rfl) (W22_wp v0 H K) h
def D25:Info:=⟨9,fun i=>([],[]),fun i=>([],[])⟩
def W25 (v0:AV) (H:Heap) (K:AV→Heap→Prop):Prop:=
 boxV v0 H fun v1 H1=>
 allocV tab 28 H1 fun v2 H2=>
 lV_ tab 28 v1 H2 fun v4=>
 CallT Try.prog 17 [v4] H2 fun v5 H3=>
 unV .not v5 fun v6=>
 cV_ v6 (buildV tab 28 [] fun v7=>
 sV_ tab 28 v2 v7 H3 fun H4=>
 lV_ tab 28 v2 H4 fun r0=>
 K (.tup [r0,(AV.p (.bool false))]) H4)
 (lV_ tab 28 v1 H3 fun v8=>
 sV_ tab 28 v2 v8 H3 fun H5=>
 lV_ tab 28 v2 H5 fun r0=>
 K (.tup [r0,(AV.p (.bool true))]) H5)
theorem W25_wp (v0:AV) (H:Heap) (K:AV→Heap→Prop):wpC Try.prog tab D25 (bO_ Try.f25) (retF tab [.cell 2 28,.tmp 3] K) (nthA [v0]) H=W25 v0 H K:=by kernel_rfl
theorem W25_ok {v0:AV} {H:Heap} {K:AV→Heap→Prop} (h:W25 v0 H K):CallT Try.prog 25 [v0] H K:=
 CallT.of_wp (D:=D25) tO_ mixed Try.func25 (c:=bO_ Try.f25) (by kernel_rfl) rfl (by kernel_rfl) (rs:=#[.cell 2 28,.tmp 3]) rfl (by decide +kernel) (by kernel_rfl) (W25_wp v0 H K) h
def D26:Info:=⟨26,fun i=>if i=6 then ([[],[],[0,1],[0,1,2],[],[],[4,5],[4,5,6],[0,1,2,3,4,5,6,7]],[(0,[]),(1,[]),(2,[]),(3,[]),(4,[]),(5,[]),(6,[]),(7,[]),(8,[])]) else ([],[]),fun i=>if i=4 then ([0,1,12],[13]) else ([],[])⟩
def L26_0 (K:AV→Heap→Prop) (v0:AV) (v1:AV) (v12:AV) (v13:AV) (H:Heap):Prop:=LoopV (wpC Try.prog tab D26 (cAt [1,1,0,1,0,0] (bO_ Try.f26))) [0,1,12] (PostF.block 0 (PostF.thenA (wpC Try.prog tab D26 (cAt [1,1,1] (bO_ Try.f26))) (retF tab [.tmp 4] K))) [13] [v0,v1,Q_,Q_,Q_,Q_,Q_,Q_,Q_,Q_,Q_,Q_,v12,v13,Q_,Q_,Q_,Q_,Q_,Q_,Q_,Q_,Q_,Q_,Q_,Q_] H
def B26_0 (K:AV→Heap→Prop) (N1:AV→Heap→Prop) (v0:AV) (v1:AV) (v12:AV) (v13:AV) (H:Heap):Prop:=
 binV tab .lss 3 v13 v12 fun v14=>
 cV_ v14 (iA_ tab 24 v0 v13 fun v18=>
 lV_ tab 3 v18 H fun v19=>
 iA_ tab 24 v1 v13 fun v22=>
 lV_ tab 3 v22 H fun v23=>
 binV tab .neq 3 v19 v23 fun v24=>
 cV_ v24 (K (AV.p (.bool false)) H)
 (binV tab .add 3 v13 (AV.p (.int .i64 1)) fun v25=>
 N1 v25 H))
 (K (AV.p (.bool true)) H)
def W26 (v0:AV) (v1:AV) (H:Heap) (K:AV→Heap→Prop):Prop:=
 lenV tab 24 v0 fun v7=>
 lenV tab 24 v1 fun v9=>
 binV tab .neq 3 v7 v9 fun v10=>
 cV_ v10 (K (AV.p (.bool false)) H)
 (lenV tab 24 v0 fun v12=>
 L26_0 K v0 v1 v12 (AV.p (.int .i64 0)) H)
theorem W26_wp (v0:AV) (v1:AV) (H:Heap) (K:AV→Heap→Prop):wpC Try.prog tab D26 (bO_ Try.f26) (retF tab [.tmp 4] K) (nthA [v0,v1]) H=W26 v0 v1 H K:=by kernel_rfl
theorem W26_ok {v0 v1:AV} {H:Heap} {K:AV→Heap→Prop} (h:W26 v0 v1 H K):CallT Try.prog 26 [v0,v1] H K:=
 CallT.of_wp (D:=D26) tO_ mixed Try.func26 (c:=bO_ Try.f26) (by kernel_rfl) rfl (by kernel_rfl) (rs:=#[.tmp 4]) rfl (by decide +kernel) (by kernel_rfl) (W26_wp v0 v1 H K) h
theorem L26_0_rule {K:AV→Heap→Prop} {v0 v1 v12 v13:AV} {H:Heap} {σ:Type} (s0:σ) (f13:σ→AV) (TH:σ→Heap) (pre:σ→Prop) (μ:σ→Nat)
  (h0:pre s0∧AV.wk v13 (f13 s0)∧Heap.le (TH s0) H)
  (round:∀s,pre s→B26_0 K (fun w13 H'=>∃s',pre s'∧μ s' < μ s∧AV.wk w13 (f13 s')∧Heap.le (TH s') H') v0 v1 v12 (f13 s) (TH s)) :
  L26_0 K v0 v1 v12 v13 H:=by
 unfold L26_0
 exact LoopV.mk s0 (fun s=>[f13 s]) TH pre μ (fun _=>rfl) (Eq.mp (by kernel_rfl) h0) (fun s hs=>Eq.mp (by kernel_rfl) (round s hs))
def D27:Info:=⟨27,fun i=>if i=6 then ([[],[],[0,1],[0,1,2],[],[],[4,5],[4,5,6],[0,1,2,3,4,5,6,7],[0,1,2,3,4,5,6,7,8]],[(0,[]),(1,[]),(2,[]),(3,[]),(4,[]),(5,[]),(6,[]),(7,[]),(8,[]),(9,[])]) else ([],[]),fun i=>if i=4 then ([0,1,12],[13]) else ([],[])⟩
def L27_0 (K:AV→Heap→Prop) (v0:AV) (v1:AV) (v12:AV) (v13:AV) (H:Heap):Prop:=LoopV (wpC Try.prog tab D27 (cAt [1,1,0,1,0,0] (bO_ Try.f27))) [0,1,12] (PostF.block 0 (PostF.thenA (wpC Try.prog tab D27 (cAt [1,1,1] (bO_ Try.f27))) (retF tab [.tmp 4] K))) [13] [v0,v1,Q_,Q_,Q_,Q_,Q_,Q_,Q_,Q_,Q_,Q_,v12,v13,Q_,Q_,Q_,Q_,Q_,Q_,Q_,Q_,Q_,Q_,Q_,Q_,Q_] H
def B27_0 (K:AV→Heap→Prop) (N1:AV→Heap→Prop) (v0:AV) (v1:AV) (v12:AV) (v13:AV) (H:Heap):Prop:=
 binV tab .lss 3 v13 v12 fun v14=>
 cV_ v14 (iA_ tab 26 v0 v13 fun v18=>
 lV_ tab 24 v18 H fun v19=>
 iA_ tab 26 v1 v13 fun v22=>
 lV_ tab 24 v22 H fun v23=>
 CallT Try.prog 26 [v19,v23] H fun v24 H1=>
 unV .not v24 fun v25=>
 cV_ v25 (K (AV.p (.bool false)) H1)
 (binV tab .add 3 v13 (AV.p (.int .i64 1)) fun v26=>
 N1 v26 H1))
 (K (AV.p (.bool true)) H)
def W27 (v0:AV) (v1:AV) (H:Heap) (K:AV→Heap→Prop):Prop:=
 lenV tab 26 v0 fun v7=>
 lenV tab 26 v1 fun v9=>
 binV tab .neq 3 v7 v9 fun v10=>
 cV_ v10 (K (AV.p (.bool false)) H)
 (lenV tab 26 v0 fun v12=>
 L27_0 K v0 v1 v12 (AV.p (.int .i64 0)) H)
theorem W27_wp (v0:AV) (v1:AV) (H:Heap) (K:AV→Heap→Prop):wpC Try.prog tab D27 (bO_ Try.f27) (retF tab [.tmp 4] K) (nthA [v0,v1]) H=W27 v0 v1 H K:=by kernel_rfl
theorem W27_ok {v0 v1:AV} {H:Heap} {K:AV→Heap→Prop} (h:W27 v0 v1 H K):CallT Try.prog 27 [v0,v1] H K:=
 CallT.of_wp (D:=D27) tO_ mixed Try.func27 (c:=bO_ Try.f27) (by kernel_rfl) rfl (by kernel_rfl) (rs:=#[.tmp 4]) rfl (by decide +kernel) (by kernel_rfl) (W27_wp v0 v1 H K) h
theorem L27_0_rule {K:AV→Heap→Prop} {v0 v1 v12 v13:AV} {H:Heap} {σ:Type} (s0:σ) (f13:σ→AV) (TH:σ→Heap) (pre:σ→Prop) (μ:σ→Nat)
  (h0:pre s0∧AV.wk v13 (f13 s0)∧Heap.le (TH s0) H)
  (round:∀s,pre s→B27_0 K (fun w13 H'=>∃s',pre s'∧μ s' < μ s∧AV.wk w13 (f13 s')∧Heap.le (TH s') H') v0 v1 v12 (f13 s) (TH s)) :
  L27_0 K v0 v1 v12 v13 H:=by
 unfold L27_0
 exact LoopV.mk s0 (fun s=>[f13 s]) TH pre μ (fun _=>rfl) (Eq.mp (by kernel_rfl) h0) (fun s hs=>Eq.mp (by kernel_rfl) (round s hs))
def D28:Info:=⟨118,fun i=>([],[]),fun i=>if i=4 then ([0,4,5],[6]) else if i=7 then ([0,4,5,6],[7]) else if i=11 then ([0,4,5,6,7],[8,9]) else if i=15 then ([0,4,5,6,7,47,48],[49]) else if i=20 then ([0,4,5],[12]) else ([],[])⟩
def L28_0 (K:AV→Heap→Prop) (v0:AV) (v4:AV) (v5:AV) (v6:AV) (H:Heap):Prop:=LoopV (wpC Try.prog tab D28 (cAt [1,1,1,0,1,0,0] (bO_ Try.f28))) [0,4,5] (PostF.block 0 (PostF.thenA (wpC Try.prog tab D28 (cAt [1,1,1,1] (bO_ Try.f28))) (retF tab [.cell 4 28] K))) [6] [v0,Q_,Q_,Q_,v4,v5,v6,Q_,Q_,Q_,Q_,Q_,Q_,Q_,Q_,Q_,Q_,Q_,Q_,Q_,Q_,Q_,Q_,Q_,Q_,Q_,Q_,Q_,Q_,Q_,Q_,Q_,Q_,Q_,Q_,Q_,Q_,Q_,Q_,Q_,Q_,Q_,Q_,Q_,Q_,Q_,Q_,Q_,Q_,Q_,Q_,Q_,Q_,Q_,Q_,Q_,Q_,Q_,Q_,Q_,Q_,Q_,Q_,Q_,Q_,Q_,Q_,Q_,Q_,Q_,Q_,Q_,Q_,Q_,Q_,Q_,Q_,Q_,Q_,Q_,Q_,Q_,Q_,Q_,Q_,Q_,Q_,Q_,Q_,Q_,Q_,Q_,Q_,Q_,Q_,Q_,Q_,Q_,Q_,Q_,Q_,Q_,Q_,Q_,Q_,Q_,Q_,Q_,Q_,Q_,Q_,Q_,Q_,Q_,Q_,Q_,Q_,Q_] H
def L28_1 (K:AV→Heap→Prop) (N1:AV→Heap→Prop) (v0:AV) (v4:AV) (v5:AV) (v6:AV) (v7:AV) (H:Heap):Prop:=LoopV (wpC Try.prog tab D28 (cAt [1,1,1,0,1,0,0,1,0,0,1,0,0] (bO_ Try.f28))) [0,4,5,6] (PostF.block 2 (PostF.block 1 (PostF.thenA (wpC Try.prog tab D28 (cAt [1,1,1,0,1,0,0,1,1] (bO_ Try.f28))) (loopF (PostF.block 0 (PostF.thenA (wpC Try.prog tab D28 (cAt [1,1,1,1] (bO_ Try.f28))) (retF tab [.cell 4 28] K))) (fun e h=>N1 (e 6) h))))) [7] [v0,Q_,Q_,Q_,v4,v5,v6,v7,Q_,Q_,Q_,Q_,Q_,Q_,Q_,Q_,Q_,Q_,Q_,Q_,Q_,Q_,Q_,Q_,Q_,Q_,Q_,Q_,Q_,Q_,Q_,Q_,Q_,Q_,Q_,Q_,Q_,Q_,Q_,Q_,Q_,Q_,Q_,Q_,Q_,Q_,Q_,Q_,Q_,Q_,Q_,Q_,Q_,Q_,Q_,Q_,Q_,Q_,Q_,Q_,Q_,Q_,Q_,Q_,Q_,Q_,Q_,Q_,Q_,Q_,Q_,Q_,Q_,Q_,Q_,Q_,Q_,Q_,Q_,Q_,Q_,Q_,Q_,Q_,Q_,Q_,Q_,Q_,Q_,Q_,Q_,Q_,Q_,Q_,Q_,Q_,Q_,Q_,Q_,Q_,Q_,Q_,Q_,Q_,Q_,Q_,Q_,Q_,Q_,Q_,Q_,Q_,Q_,Q_,Q_,Q_,Q_,Q_] H
def L28_2 (K:AV→Heap→Prop) (N1:AV→Heap→Prop) (N2:AV→Heap→Prop) (v0:AV) (v4:AV) (v5:AV) (v6:AV) (v7:AV) (v8:AV) (v9:AV) (H:Heap):Prop:=LoopV (wpC Try.prog tab D28 (cAt [1,1,1,0,1,0,0,1,0,0,1,0,0,1,0,0,1,0,1,0,0] (bO_ Try.f28))) [0,4,5,6,7] (PostF.block 4 (PostF.thenA (wpC Try.prog tab D28 (cAt [1,1,1,0,1,0,0,1,0,0,1,0,0,1,0,0,1,1] (bO_ Try.f28))) (PostF.block 3 (PostF.thenA (wpC Try.prog tab D28 (cAt [1,1,1,0,1,0,0,1,0,0,1,0,0,1,1] (bO_ Try.f28))) (loopF (PostF.block 2 (PostF.block 1 (PostF.thenA (wpC Try.prog tab D28 (cAt [1,1,1,0,1,0,0,1,1] (bO_ Try.f28))) (loopF (PostF.block 0 (PostF.thenA (wpC Try.prog tab D28 (cAt [1,1,1,1] (bO_ Try.f28))) (retF tab [.cell 4 28] K))) (fun e h=>N1 (e 6) h))))) (fun e h=>N2 (e 7) h)))))) [8,9] [v0,Q_,Q_,Q_,v4,v5,v6,v7,v8,v9,Q_,Q_,Q_,Q_,Q_,Q_,Q_,Q_,Q_,Q_,Q_,Q_,Q_,Q_,Q_,Q_,Q_,Q_,Q_,Q_,Q_,Q_,Q_,Q_,Q_,Q_,Q_,Q_,Q_,Q_,Q_,Q_,Q_,Q_,Q_,Q_,Q_,Q_,Q_,Q_,Q_,Q_,Q_,Q_,Q_,Q_,Q_,Q_,Q_,Q_,Q_,Q_,Q_,Q_,Q_,Q_,Q_,Q_,Q_,Q_,Q_,Q_,Q_,Q_,Q_,Q_,Q_,Q_,Q_,Q_,Q_,Q_,Q_,Q_,Q_,Q_,Q_,Q_,Q_,Q_,Q_,Q_,Q_,Q_,Q_,Q_,Q_,Q_,Q_,Q_,Q_,Q_,Q_,Q_,Q_,Q_,Q_,Q_,Q_,Q_,Q_,Q_,Q_,Q_,Q_,Q_,Q_,Q_] H
def L28_3 (K:AV→Heap→Prop) (N1:AV→Heap→Prop) (N2:AV→Heap→Prop) (v0:AV) (v4:AV) (v5:AV) (v6:AV) (v7:AV) (v47:AV) (v48:AV) (v49:AV) (H:Heap):Prop:=LoopV (wpC Try.prog tab D28 (cAt [1,1,1,0,1,0,0,1,0,0,1,0,0,1,0,0,1,1,1,0,0] (bO_ Try.f28))) [0,4,5,6,7,47,48] (PostF.block 6 (PostF.block 3 (PostF.thenA (wpC Try.prog tab D28 (cAt [1,1,1,0,1,0,0,1,0,0,1,0,0,1,1] (bO_ Try.f28))) (loopF (PostF.block 2 (PostF.block 1 (PostF.thenA (wpC Try.prog tab D28 (cAt [1,1,1,0,1,0,0,1,1] (bO_ Try.f28))) (loopF (PostF.block 0 (PostF.thenA (wpC Try.prog tab D28 (cAt [1,1,1,1] (bO_ Try.f28))) (retF tab [.cell 4 28] K))) (fun e h=>N1 (e 6) h))))) (fun e h=>N2 (e 7) h))))) [49] [v0,Q_,Q_,Q_,v4,v5,v6,v7,Q_,Q_,Q_,Q_,Q_,Q_,Q_,Q_,Q_,Q_,Q_,Q_,Q_,Q_,Q_,Q_,Q_,Q_,Q_,Q_,Q_,Q_,Q_,Q_,Q_,Q_,Q_,Q_,Q_,Q_,Q_,Q_,Q_,Q_,Q_,Q_,Q_,Q_,Q_,v47,v48,v49,Q_,Q_,Q_,Q_,Q_,Q_,Q_,Q_,Q_,Q_,Q_,Q_,Q_,Q_,Q_,Q_,Q_,Q_,Q_,Q_,Q_,Q_,Q_,Q_,Q_,Q_,Q_,Q_,Q_,Q_,Q_,Q_,Q_,Q_,Q_,Q_,Q_,Q_,Q_,Q_,Q_,Q_,Q_,Q_,Q_,Q_,Q_,Q_,Q_,Q_,Q_,Q_,Q_,Q_,Q_,Q_,Q_,Q_,Q_,Q_,Q_,Q_,Q_,Q_,Q_,Q_,Q_,Q_] H
def B28_3 (K:AV→Heap→Prop) (N1:AV→Heap→Prop) (N2:AV→Heap→Prop) (N3:AV→Heap→Prop) (v0:AV) (v4:AV) (v5:AV) (v6:AV) (v7:AV) (v47:AV) (v48:AV) (v49:AV) (H:Heap):Prop:=
 binV tab .lss 3 v49 v48 fun v50=>
 cV_ v50 (iA_ tab 24 v47 v49 fun v51=>
 lV_ tab 3 v51 H fun v52=>
 fA_ tab 28 v5 2 fun v53=>
 lV_ tab 25 v53 H fun v54=>
 buildV tab 46 [(0,v6),(1,v7),(2,v52)] fun v58=>
 bS_ tab 25 1 [(0,v58)] H (wkK fun v59 H11=>
 aP_ tab 25 25 v54 v59 H11 (wkK fun v60 H12=>
 fA_ tab 28 v5 2 fun v61=>
 sV_ tab 25 v61 v60 H12 fun H13=>
 binV tab .add 3 v49 (AV.p (.int .i64 1)) fun v62=>
 N3 v62 H13)))
 (binV tab .add 3 v7 (AV.p (.int .i64 1)) fun v34=>
 N2 v34 H)
def B28_2 (K:AV→Heap→Prop) (N1:AV→Heap→Prop) (N2:AV→Heap→Prop) (N3:AV→AV→Heap→Prop) (v0:AV) (v4:AV) (v5:AV) (v6:AV) (v7:AV) (v8:AV) (v9:AV) (H:Heap):Prop:=
 binV tab .gtr 3 v9 (AV.p (.int .i64 0)) fun v38=>
 cV_ v38 (fA_ tab 28 v5 0 fun v43=>
 lV_ tab 3 v43 H fun v44=>
 CallT Try.prog 51 [v0,v44] H fun v45 H9=>
 CallT Try.prog 52 [v8,v45] H9 fun v46 H10=>
 binV tab .sub 3 v9 (AV.p (.int .i64 1)) fun v40=>
 N3 v46 v40 H10)
 (lenV tab 24 v8 fun v48=>
 L28_3 K N1 N2 v0 v4 v5 v6 v7 v8 v48 (AV.p (.int .i64 0)) H)
def B28_1 (K:AV→Heap→Prop) (N1:AV→Heap→Prop) (N2:AV→Heap→Prop) (v0:AV) (v4:AV) (v5:AV) (v6:AV) (v7:AV) (H:Heap):Prop:=
 binV tab .lss 3 v7 (AV.p (.int .i64 8)) fun v32=>
 cV_ v32 (CallT Try.prog 51 [v0,(AV.p (.int .i64 3))] H fun v36 H8=>
 L28_2 K N1 N2 v0 v4 v5 v6 v7 (AV.p .nil) v36 H8)
 (binV tab .add 3 v6 (AV.p (.int .i64 1)) fun v30=>
 N1 v30 H)
def L28_4 (K:AV→Heap→Prop) (v0:AV) (v4:AV) (v5:AV) (v12:AV) (H:Heap):Prop:=LoopV (wpC Try.prog tab D28 (cAt [1,1,1,1,0,1,0,0] (bO_ Try.f28))) [0,4,5] (PostF.block 8 (PostF.thenA (wpC Try.prog tab D28 (cAt [1,1,1,1,1] (bO_ Try.f28))) (retF tab [.cell 4 28] K))) [12] [v0,Q_,Q_,Q_,v4,v5,Q_,Q_,Q_,Q_,Q_,Q_,v12,Q_,Q_,Q_,Q_,Q_,Q_,Q_,Q_,Q_,Q_,Q_,Q_,Q_,Q_,Q_,Q_,Q_,Q_,Q_,Q_,Q_,Q_,Q_,Q_,Q_,Q_,Q_,Q_,Q_,Q_,Q_,Q_,Q_,Q_,Q_,Q_,Q_,Q_,Q_,Q_,Q_,Q_,Q_,Q_,Q_,Q_,Q_,Q_,Q_,Q_,Q_,Q_,Q_,Q_,Q_,Q_,Q_,Q_,Q_,Q_,Q_,Q_,Q_,Q_,Q_,Q_,Q_,Q_,Q_,Q_,Q_,Q_,Q_,Q_,Q_,Q_,Q_,Q_,Q_,Q_,Q_,Q_,Q_,Q_,Q_,Q_,Q_,Q_,Q_,Q_,Q_,Q_,Q_,Q_,Q_,Q_,Q_,Q_,Q_,Q_,Q_,Q_,Q_,Q_,Q_] H
def J28_5 (K:AV→Heap→Prop) (N1:AV→Heap→Prop) (v0:AV) (v4:AV) (v5:AV) (v12:AV) (v13:AV) (H:Heap):Prop:=
 fA_ tab 28 v5 3 fun v82=>
 lV_ tab 26 v82 H fun v83=>
 bS_ tab 26 1 [(0,v13)] H (wkK fun v85 H20=>
 aP_ tab 26 26 v83 v85 H20 (wkK fun v86 H21=>
 fA_ tab 28 v5 3 fun v87=>
 sV_ tab 26 v87 v86 H21 fun H22=>
 binV tab .sub 3 v12 (AV.p (.int .i64 1)) fun v68=>
 N1 v68 H22))
def B28_4 (K:AV→Heap→Prop) (N1:AV→Heap→Prop) (v0:AV) (v4:AV) (v5:AV) (v12:AV) (H:Heap):Prop:=
 binV tab .gtr 3 v12 (AV.p (.int .i64 0)) fun v66=>
 cV_ v66 (fA_ tab 28 v5 0 fun v70=>
 lV_ tab 3 v70 H fun v71=>
 CallT Try.prog 51 [v0,v71] H fun v72 H15=>
 CallT Try.prog 52 [(AV.p .nil),v72] H15 fun v73 H16=>
 CallT Try.prog 31 [v0,(AV.p (.int .i64 2))] H16 fun v75 H17=>
 cV_ v75 (fA_ tab 28 v5 0 fun v78=>
 lV_ tab 3 v78 H17 fun v79=>
 CallT Try.prog 51 [v0,v79] H17 fun v80 H18=>
 CallT Try.prog 52 [v73,v80] H18 fun v81 H19=>
 J28_5 K N1 v0 v4 v5 v12 v81 H19)
 (J28_5 K N1 v0 v4 v5 v12 v73 H17))
 (CallT Try.prog 51 [v0,(AV.p (.int .i64 40))] H fun v89 H23=>
 binV tab .eql 3 v89 (AV.p (.int .i64 0)) fun v91=>
 cV_ v91 (fA_ tab 28 v5 1 fun v92=>
 lV_ tab 24 v92 H23 fun v93=>
 fA_ tab 28 v5 0 fun v94=>
 lV_ tab 3 v94 H23 fun v95=>
 bS_ tab 24 1 [(0,v95)] H23 (wkK fun v96 H24=>
 aP_ tab 24 24 v93 v96 H24 (wkK fun v97 H25=>
 fA_ tab 28 v5 1 fun v98=>
 sV_ tab 24 v98 v97 H25 fun H26=>
 lV_ tab 28 v5 H26 fun v117=>
 sV_ tab 28 v4 v117 H26 fun H28=>
 lV_ tab 28 v4 H28 fun r0=>
 K r0 H28)))
 (binV tab .eql 3 v89 (AV.p (.int .i64 1)) fun v100=>
 cV_ v100 (fA_ tab 28 v5 2 fun v101=>
 lV_ tab 25 v101 H23 fun v102=>
 buildV tab 46 [] fun v103=>
 bS_ tab 25 1 [(0,v103)] H23 (wkK fun v104 H29=>
 aP_ tab 25 25 v102 v104 H29 (wkK fun v105 H30=>
 fA_ tab 28 v5 2 fun v106=>
 sV_ tab 25 v106 v105 H30 fun H31=>
 lV_ tab 28 v5 H31 fun v117=>
 sV_ tab 28 v4 v117 H31 fun H32=>
 lV_ tab 28 v4 H32 fun r0=>
 K r0 H32)))
 (binV tab .eql 3 v89 (AV.p (.int .i64 2)) fun v108=>
 cV_ v108 (CallT Try.prog 51 [v0,(AV.p (.int .i64 2))] H23 fun v110 H33=>
 binV tab .add 3 (AV.p (.int .i64 6)) v110 fun v111=>
 mS_ tab 26 v111 v111 H33 fun v112 H34=>
 fA_ tab 28 v5 3 fun v113=>
 sV_ tab 26 v113 v112 H34 fun H35=>
 lV_ tab 28 v5 H35 fun v117=>
 sV_ tab 28 v4 v117 H35 fun H36=>
 lV_ tab 28 v4 H36 fun r0=>
 K r0 H36)
 (binV tab .eql 3 v89 (AV.p (.int .i64 3)) fun v115=>
 cV_ v115 (fA_ tab 28 v5 1 fun v116=>
 sV_ tab 24 v116 (AV.p .nil) H23 fun H37=>
 lV_ tab 28 v5 H37 fun v117=>
 sV_ tab 28 v4 v117 H37 fun H38=>
 lV_ tab 28 v4 H38 fun r0=>
 K r0 H38)
 (lV_ tab 28 v5 H23 fun v117=>
 sV_ tab 28 v4 v117 H23 fun H39=>
 lV_ tab 28 v4 H39 fun r0=>
 K r0 H39)))))
def B28_0 (K:AV→Heap→Prop) (N1:AV→Heap→Prop) (v0:AV) (v4:AV) (v5:AV) (v6:AV) (H:Heap):Prop:=
 fA_ tab 28 v5 0 fun v26=>
 lV_ tab 3 v26 H fun v27=>
 binV tab .lss 3 v6 v27 fun v28=>
 cV_ v28 (L28_1 K N1 v0 v4 v5 v6 (AV.p (.int .i64 0)) H)
 (CallT Try.prog 51 [v0,(AV.p (.int .i64 4))] H fun v64 H14=>
 L28_4 K v0 v4 v5 v64 H14)
def W28 (v0:AV) (v1:AV) (H:Heap) (K:AV→Heap→Prop):Prop:=
 allocV tab 28 H fun v4 H1=>
 CallT Try.prog 51 [v0,v1] H1 fun v16 H2=>
 binV tab .add 3 (AV.p (.int .i64 1)) v16 fun v17=>
 buildV tab 28 [(0,v17)] fun v18=>
 allocV tab 28 H2 fun v5 H3=>
 sV_ tab 28 v5 v18 H3 fun H4=>
 fA_ tab 28 v5 0 fun v20=>
 lV_ tab 3 v20 H4 fun v21=>
 CallT Try.prog 51 [v0,v21] H4 fun v22 H5=>
 CallT Try.prog 52 [(AV.p .nil),v22] H5 fun v23 H6=>
 fA_ tab 28 v5 1 fun v24=>
 sV_ tab 24 v24 v23 H6 fun H7=>
 L28_0 K v0 v4 v5 (AV.p (.int .i64 0)) H7
theorem W28_wp (v0:AV) (v1:AV) (H:Heap) (K:AV→Heap→Prop):wpC Try.prog tab D28 (bO_ Try.f28) (retF tab [.cell 4 28] K) (nthA [v0,v1]) H=W28 v0 v1 H K:=by kernel_rfl
theorem W28_ok {v0 v1:AV} {H:Heap} {K:AV→Heap→Prop} (h:W28 v0 v1 H K):CallT Try.prog 28 [v0,v1] H K:=
 CallT.of_wp (D:=D28) tO_ mixed Try.func28 (c:=bO_ Try.f28) (by kernel_rfl) rfl (by kernel_rfl) (rs:=#[.cell 4 28]) rfl (by decide +kernel) (by kernel_rfl) (W28_wp v0 v1 H K) h
theorem W28_hb:HasBody Try.prog 28:=⟨_,bO_ Try.f28,Try.func28,by kernel_rfl,rfl⟩
theorem L28_3_rule {K:AV→Heap→Prop} {N1:AV→Heap→Prop} {N2:AV→Heap→Prop} {v0 v4 v5 v6 v7 v47 v48 v49:AV} {H:Heap} {σ:Type} (s0:σ) (f49:σ→AV) (TH:σ→Heap) (pre:σ→Prop) (μ:σ→Nat)
  (h0:pre s0∧AV.wk v49 (f49 s0)∧Heap.le (TH s0) H)
  (round:∀s,pre s→B28_3 K N1 N2 (fun w49 H'=>∃s',pre s'∧μ s' < μ s∧AV.wk w49 (f49 s')∧Heap.le (TH s') H') v0 v4 v5 v6 v7 v47 v48 (f49 s) (TH s)) :
  L28_3 K N1 N2 v0 v4 v5 v6 v7 v47 v48 v49 H:=by
 unfold L28_3
 exact LoopV.mk s0 (fun s=>[f49 s]) TH pre μ (fun _=>rfl) (Eq.mp (by kernel_rfl) h0) (fun s hs=>Eq.mp (by kernel_rfl) (round s hs))
theorem L28_2_rule {K:AV→Heap→Prop} {N1:AV→Heap→Prop} {N2:AV→Heap→Prop} {v0 v4 v5 v6 v7 v8 v9:AV} {H:Heap} {σ:Type} (s0:σ) (f8:σ→AV) (f9:σ→AV) (TH:σ→Heap) (pre:σ→Prop) (μ:σ→Nat)
  (h0:pre s0∧AV.wk v8 (f8 s0)∧AV.wk v9 (f9 s0)∧Heap.le (TH s0) H)
  (round:∀s,pre s→B28_2 K N1 N2 (fun w8 w9 H'=>∃s',pre s'∧μ s' < μ s∧AV.wk w8 (f8 s')∧AV.wk w9 (f9 s')∧Heap.le (TH s') H') v0 v4 v5 v6 v7 (f8 s) (f9 s) (TH s)) :
  L28_2 K N1 N2 v0 v4 v5 v6 v7 v8 v9 H:=by
 unfold L28_2
 exact LoopV.mk s0 (fun s=>[f8 s,f9 s]) TH pre μ (fun _=>rfl) (Eq.mp (by kernel_rfl) h0) (fun s hs=>Eq.mp (by kernel_rfl) (round s hs))
theorem L28_1_rule {K:AV→Heap→Prop} {N1:AV→Heap→Prop} {v0 v4 v5 v6 v7:AV} {H:Heap} {σ:Type} (s0:σ) (f7:σ→AV) (TH:σ→Heap) (pre:σ→Prop) (μ:σ→Nat)
  (h0:pre s0∧AV.wk v7 (f7 s0)∧Heap.le (TH s0) H)
  (round:∀s,pre s→B28_1 K N1 (fun w7 H'=>∃s',pre s'∧μ s' < μ s∧AV.wk w7 (f7 s')∧Heap.le (TH s') H') v0 v4 v5 v6 (f7 s) (TH s)) :
  L28_1 K N1 v0 v4 v5 v6 v7 H:=by
 unfold L28_1
 exact LoopV.mk s0 (fun s=>[f7 s]) TH pre μ (fun _=>rfl) (Eq.mp (by kernel_rfl) h0) (fun s hs=>Eq.mp (by kernel_rfl) (round s hs))
theorem L28_4_rule {K:AV→Heap→Prop} {v0 v4 v5 v12:AV} {H:Heap} {σ:Type} (s0:σ) (f12:σ→AV) (TH:σ→Heap) (pre:σ→Prop) (μ:σ→Nat)
  (h0:pre s0∧AV.wk v12 (f12 s0)∧Heap.le (TH s0) H)
  (round:∀s,pre s→B28_4 K (fun w12 H'=>∃s',pre s'∧μ s' < μ s∧AV.wk w12 (f12 s')∧Heap.le (TH s') H') v0 v4 v5 (f12 s) (TH s)) :
  L28_4 K v0 v4 v5 v12 H:=by
 unfold L28_4
 exact LoopV.mk s0 (fun s=>[f12 s]) TH pre μ (fun _=>rfl) (Eq.mp (by kernel_rfl) h0) (fun s hs=>Eq.mp (by kernel_rfl) (round s hs))
theorem L28_0_rule {K:AV→Heap→Prop} {v0 v4 v5 v6:AV} {H:Heap} {σ:Type} (s0:σ) (f6:σ→AV) (TH:σ→Heap) (pre:σ→Prop) (μ:σ→Nat)
  (h0:pre s0∧AV.wk v6 (f6 s0)∧Heap.le (TH s0) H)
  (round:∀s,pre s→B28_0 K (fun w6 H'=>∃s',pre s'∧μ s' < μ s∧AV.wk w6 (f6 s')∧Heap.le (TH s') H') v0 v4 v5 (f6 s) (TH s)) :
  L28_0 K v0 v4 v5 v6 H:=by
 unfold L28_0
 exact LoopV.mk s0 (fun s=>[f6 s]) TH pre μ (fun _=>rfl) (Eq.mp (by kernel_rfl) h0) (fun s hs=>Eq.mp (by kernel_rfl) (round s hs))
def D29:Info:=⟨57,fun i=>if i=12 then ([[],[0],[],[],[2,3],[0,1,2,3,4],[0,1,2,3,4,5]],[(0,[]),(1,[]),(2,[]),(3,[1]),(4,[1]),(5,[]),(6,[])]) else ([],[]),fun i=>([],[])⟩
def J29_0 (K:AV→Heap→Prop) (v0:AV) (v2:AV) (v3:AV) (H:Heap):Prop:=
 CallT Try.prog 51 [v0,(AV.p (.int .i64 40))] H fun v31 H14=>
 binV tab .eql 3 v31 (AV.p (.int .i64 0)) fun v33=>
 cV_ v33 (bS_ tab 24 3 [(0,(AV.p (.int .i64 0))),(1,(AV.p (.int .i64 24))),(2,(AV.p (.int .i64 25)))] H14 (wkK fun v36 H15=>
 CallT Try.prog 54 [v0,v36] H15 fun v37 H16=>
 CallT Try.prog 53 [v0,v37] H16 fun v38 H17=>
 fA_ tab 35 v3 1 fun v39=>
 sV_ tab 24 v39 v38 H17 fun H18=>
 lV_ tab 35 v3 H18 fun v56=>
 sV_ tab 35 v2 v56 H18 fun H20=>
 lV_ tab 35 v2 H20 fun r0=>
 K r0 H20))
 (binV tab .eql 3 v31 (AV.p (.int .i64 1)) fun v41=>
 cV_ v41 (bS_ tab 24 2 [(0,(AV.p (.int .i64 24))),(1,(AV.p (.int .i64 25)))] H14 (wkK fun v44 H21=>
 CallT Try.prog 54 [v0,v44] H21 fun v45 H22=>
 CallT Try.prog 53 [v0,v45] H22 fun v46 H23=>
 fA_ tab 35 v3 0 fun v47=>
 sV_ tab 24 v47 v46 H23 fun H24=>
 lV_ tab 35 v3 H24 fun v56=>
 sV_ tab 35 v2 v56 H24 fun H25=>
 lV_ tab 35 v2 H25 fun r0=>
 K r0 H25))
 (binV tab .eql 3 v31 (AV.p (.int .i64 2)) fun v49=>
 cV_ v49 (fA_ tab 35 v3 1 fun v50=>
 lV_ tab 24 v50 H14 fun v51=>
 bS_ tab 24 3 [(0,(AV.p (.int .i64 (-1)))),(1,(AV.p (.int .i64 7))),(2,(AV.p (.int .i64 8)))] H14 (wkK fun v53 H26=>
 (lV_ tab 24 v50 H26 fun v9051=>
 v51=v9051)∧
 CallT Try.prog 54 [v0,v53] H26 fun v54 H27=>
 (lV_ tab 24 v50 H27 fun v9051=>
 v51=v9051)∧
 iA_ tab 24 v51 (AV.p (.int .i64 0)) fun v55=>
 sV_ tab 3 v55 v54 H27 fun H28=>
 lV_ tab 35 v3 H28 fun v56=>
 sV_ tab 35 v2 v56 H28 fun H29=>
 lV_ tab 35 v2 H29 fun r0=>
 K r0 H29))
 (lV_ tab 35 v3 H14 fun v56=>
 sV_ tab 35 v2 v56 H14 fun H30=>
 lV_ tab 35 v2 H30 fun r0=>
 K r0 H30)))
def J29_1 (K:AV→Heap→Prop) (v0:AV) (v2:AV) (v3:AV) (H:Heap):Prop:=
 CallT Try.prog 31 [v0,(AV.p (.int .i64 4))] H fun v23 H11=>
 cV_ v23 (fA_ tab 35 v3 0 fun v24=>
 lV_ tab 24 v24 H11 fun v25=>
 fA_ tab 35 v3 1 fun v26=>
 lV_ tab 24 v26 H11 fun v27=>
 aP_ tab 24 24 v25 v27 H11 (wkK fun v28 H12=>
 fA_ tab 35 v3 0 fun v29=>
 sV_ tab 24 v29 v28 H12 fun H13=>
 J29_0 K v0 v2 v3 H13))
 (J29_0 K v0 v2 v3 H11)
def W29 (v0:AV) (H:Heap) (K:AV→Heap→Prop):Prop:=
 allocV tab 35 H fun v2 H1=>
 CallT Try.prog 51 [v0,(AV.p (.int .i64 6))] H1 fun v6 H2=>
 CallT Try.prog 53 [v0,v6] H2 fun v7 H3=>
 CallT Try.prog 51 [v0,(AV.p (.int .i64 5))] H3 fun v10 H4=>
 binV tab .add 3 (AV.p (.int .i64 1)) v10 fun v11=>
 CallT Try.prog 53 [v0,v11] H4 fun v12 H5=>
 buildV tab 35 [(0,v7),(1,v12)] fun v13=>
 allocV tab 35 H5 fun v3 H6=>
 sV_ tab 35 v3 v13 H6 fun H7=>
 CallT Try.prog 31 [v0,(AV.p (.int .i64 4))] H7 fun v15 H8=>
 cV_ v15 (fA_ tab 35 v3 1 fun v16=>
 lV_ tab 24 v16 H8 fun v17=>
 fA_ tab 35 v3 1 fun v18=>
 lV_ tab 24 v18 H8 fun v19=>
 aP_ tab 24 24 v17 v19 H8 (wkK fun v20 H9=>
 fA_ tab 35 v3 1 fun v21=>
 sV_ tab 24 v21 v20 H9 fun H10=>
 J29_1 K v0 v2 v3 H10))
 (J29_1 K v0 v2 v3 H8)
theorem W29_wp (v0:AV) (H:Heap) (K:AV→Heap→Prop):wpC Try.prog tab D29 (bO_ Try.f29) (retF tab [.cell 2 35] K) (nthA [v0]) H=W29 v0 H K:=by kernel_rfl
theorem W29_ok {v0:AV} {H:Heap} {K:AV→Heap→Prop} (h:W29 v0 H K):CallT Try.prog 29 [v0] H K:=
 CallT.of_wp (D:=D29) tO_ mixed Try.func29 (c:=bO_ Try.f29) (by kernel_rfl) rfl (by kernel_rfl) (rs:=#[.cell 2 35]) rfl (by decide +kernel) (by kernel_rfl) (W29_wp v0 H K) h
end Go.Proofs.Ytohkciilfkhomaa
namespace Go.Proofs.Ytohkciilfkhomaa
open Go Go.Sep
attribute [local irreducible] wpC headF
def D30:Info:=⟨76,fun i=>if i=3 then ([[],[0],[],[2],[],[4],[0,1,2,3,4,5],[0,1,2,3,4,5,6],[0,1,2,3,4,5,6,7],[0,1,2,3,4,5,6,7],[0,1,2,3,4,5,6,7],[0,1,2,3,4,5,6,7,8],[0,1,2,3,4,5,6,7,8,9,11],[0,1,2,3,4,5,6,7,8,9,10,11,12]],[(0,[]),(2,[]),(3,[]),(4,[]),(5,[]),(1,[3,5]),(6,[]),(7,[]),(8,[]),(9,[]),(10,[]),(11,[]),(12,[]),(13,[])]) else if i=6 then ([[],[0],[],[0,1,2],[],[4],[4,5],[4,5,6],[0,1,2,3,4,5,6,7],[0,1,2,3,4,5,6,7,8]],[(0,[]),(2,[]),(4,[]),(5,[]),(6,[]),(1,[7,6]),(3,[7,6]),(7,[7]),(8,[]),(9,[])]) else if i=11 then ([[],[],[],[1,2],[1,2,3],[],[],[6],[5,6,7],[5,6,7,8],[0,1,2,3,4,5,6,7,8,9],[0,1,2,3,4,5,6,7,8,9,10]],[(0,[]),(1,[]),(2,[]),(3,[]),(4,[]),(5,[]),(6,[]),(7,[]),(8,[]),(9,[]),(10,[]),(11,[])]) else ([],[]),fun i=>if i=9 then ([1,2,4,7,8],[9]) else ([],[])⟩
def L30_0 (K:AV→Heap→Prop) (v1:AV) (v2:AV) (v4:AV) (v7:AV) (v8:AV) (v9:AV) (H:Heap):Prop:=LoopV (wpC Try.prog tab D30 (cAt [1,1,1,1,1,1,0,1,0,0] (bO_ Try.f30))) [1,2,4,7,8] (PostF.block 0 (PostF.thenA (wpC Try.prog tab D30 (cAt [1,1,1,1,1,1,1] (bO_ Try.f30))) (retF tab [.cell 2 35,.tmp 3] K))) [9] [Q_,v1,v2,Q_,v4,Q_,Q_,v7,v8,v9,Q_,Q_,Q_,Q_,Q_,Q_,Q_,Q_,Q_,Q_,Q_,Q_,Q_,Q_,Q_,Q_,Q_,Q_,Q_,Q_,Q_,Q_,Q_,Q_,Q_,Q_,Q_,Q_,Q_,Q_,Q_,Q_,Q_,Q_,Q_,Q_,Q_,Q_,Q_,Q_,Q_,Q_,Q_,Q_,Q_,Q_,Q_,Q_,Q_,Q_,Q_,Q_,Q_,Q_,Q_,Q_,Q_,Q_,Q_,Q_,Q_,Q_,Q_,Q_,Q_,Q_] H
def B30_0 (K:AV→Heap→Prop) (N1:AV→Heap→Prop) (v1:AV) (v2:AV) (v4:AV) (v7:AV) (v8:AV) (v9:AV) (H:Heap):Prop:=
 binV tab .add 3 v9 (AV.p (.int .i64 1)) fun v39=>
 lenV tab 24 v7 fun v41=>
 binV tab .lss 3 v39 v41 fun v42=>
 cV_ v42 (lV_ tab 28 v1 H fun v45=>
 iA_ tab 24 v7 v9 fun v48=>
 lV_ tab 3 v48 H fun v49=>
 binV tab .add 3 v9 (AV.p (.int .i64 1)) fun v52=>
 iA_ tab 24 v7 v52 fun v53=>
 lV_ tab 3 v53 H fun v54=>
 CallT Try.prog 57 [v45,v49,v54] H fun v55 H13=>
 lenV tab 24 v4 fun v58=>
 binV tab .lss 3 v9 v58 fun v59=>
 cV_ v59 (fA_ tab 35 v8 0 fun v60=>
 lV_ tab 24 v60 H13 fun v61=>
 bS_ tab 24 1 [(0,v55)] H13 (wkK fun v63 H14=>
 aP_ tab 24 24 v61 v63 H14 (wkK fun v64 H15=>
 fA_ tab 35 v8 0 fun v65=>
 sV_ tab 24 v65 v64 H15 fun H16=>
 binV tab .add 3 v9 (AV.p (.int .i64 1)) fun v44=>
 N1 v44 H16)))
 (fA_ tab 35 v8 1 fun v66=>
 lV_ tab 24 v66 H13 fun v67=>
 bS_ tab 24 1 [(0,v55)] H13 (wkK fun v69 H17=>
 aP_ tab 24 24 v67 v69 H17 (wkK fun v70 H18=>
 fA_ tab 35 v8 1 fun v71=>
 sV_ tab 24 v71 v70 H18 fun H19=>
 binV tab .add 3 v9 (AV.p (.int .i64 1)) fun v44=>
 N1 v44 H19))))
 (lV_ tab 35 v8 H fun v72=>
 CallT Try.prog 58 [v72] H fun v73 H20=>
 xV_ v73 0 fun v74=>
 xV_ v73 1 fun v75=>
 sV_ tab 35 v2 v74 H20 fun H21=>
 lV_ tab 35 v2 H21 fun r0=>
 K (.tup [r0,v75]) H21)
def W30 (v0:AV) (H:Heap) (K:AV→Heap→Prop):Prop:=
 boxV v0 H fun v1 H1=>
 allocV tab 35 H1 fun v2 H2=>
 lV_ tab 28 v1 H2 fun v11=>
 CallT Try.prog 17 [v11] H2 fun v12 H3=>
 unV .not v12 fun v13=>
 cV_ v13 (buildV tab 35 [] fun v14=>
 sV_ tab 35 v2 v14 H3 fun H4=>
 lV_ tab 35 v2 H4 fun r0=>
 K (.tup [r0,(AV.p (.bool false))]) H4)
 (lV_ tab 28 v1 H3 fun v16=>
 fA_ tab 28 v1 1 fun v18=>
 lV_ tab 24 v18 H3 fun v19=>
 fA_ tab 28 v1 3 fun v20=>
 lV_ tab 26 v20 H3 fun v21=>
 CallT Try.prog 56 [v16] H3 fun v17 H5=>
 (lV_ tab 24 v18 H5 fun v9019=>
 v19=v9019)∧
 (lV_ tab 26 v20 H5 fun v9021=>
 v21=v9021)∧
 CallT Try.prog 55 [v17,v19,v21] H5 fun v22 H6=>
 xV_ v22 0 fun v23=>
 xV_ v22 1 fun v24=>
 xV_ v22 2 fun v25=>
 unV .not v25 fun v27=>
 cV_ v27 (buildV tab 35 [] fun v28=>
 sV_ tab 35 v2 v28 H6 fun H7=>
 lV_ tab 35 v2 H7 fun r0=>
 K (.tup [r0,(AV.p (.bool false))]) H7)
 (iA_ tab 24 v24 (AV.p (.int .i64 0)) fun v34=>
 lV_ tab 3 v34 H6 fun v35=>
 safeV (buildN tab 24 1 [(0,v35)])∧
 CallT Try.prog 50 [v23] H6 fun v30 H8=>
 (lV_ tab 3 v34 H8 fun v9035=>
 v35=v9035)∧
 safeV (buildN tab 24 1 [(0,v35)])∧
 aP_ tab 24 24 v30 v24 H8 (wkK fun v32 H9=>
 (lV_ tab 3 v34 H9 fun v9035=>
 v35=v9035)∧
 newV (buildN tab 24 1 [(0,v35)]) H9 fun v36 H10=>
 aP_ tab 24 24 v32 v36 H10 (wkK fun v37 H11=>
 allocV tab 35 H11 fun v8 H12=>
 L30_0 K v1 v2 v23 v37 v8 (AV.p (.int .i64 0)) H12))))
theorem W30_wp (v0:AV) (H:Heap) (K:AV→Heap→Prop):wpC Try.prog tab D30 (bO_ Try.f30) (retF tab [.cell 2 35,.tmp 3] K) (nthA [v0]) H=W30 v0 H K:=by kernel_rfl
theorem W30_ok {v0:AV} {H:Heap} {K:AV→Heap→Prop} (h:W30 v0 H K):CallT Try.prog 30 [v0] H K:=
 CallT.of_wp (D:=D30) tO_ mixed Try.func30 (c:=bO_ Try.f30) (by kernel_rfl) rfl (by kernel_rfl) (rs:=#[.cell 2 35,.tmp 3]) rfl (by decide +kernel) (by kernel_rfl) (W30_wp v0 H K) h
theorem W30_hb:HasBody Try.prog 30:=⟨_,bO_ Try.f30,Try.func30,by kernel_rfl,rfl⟩
theorem L30_0_rule {K:AV→Heap→Prop} {v1 v2 v4 v7 v8 v9:AV} {H:Heap} {σ:Type} (s0:σ) (f9:σ→AV) (TH:σ→Heap) (pre:σ→Prop) (μ:σ→Nat)
  (h0:pre s0∧AV.wk v9 (f9 s0)∧Heap.le (TH s0) H)
  (round:∀s,pre s→B30_0 K (fun w9 H'=>∃s',pre s'∧μ s' < μ s∧AV.wk w9 (f9 s')∧Heap.le (TH s') H') v1 v2 v4 v7 v8 (f9 s) (TH s)) :
  L30_0 K v1 v2 v4 v7 v8 v9 H:=by
 unfold L30_0
 exact LoopV.mk s0 (fun s=>[f9 s]) TH pre μ (fun _=>rfl) (Eq.mp (by kernel_rfl) h0) (fun s hs=>Eq.mp (by kernel_rfl) (round s hs))
def D31:Info:=⟨9,fun i=>([],[]),fun i=>([],[])⟩
def W31 (v0:AV) (v1:AV) (H:Heap) (K:AV→Heap→Prop):Prop:=
 CallT Try.prog 51 [v0,v1] H fun v7 H1=>
 binV tab .eql 3 v7 (AV.p (.int .i64 0)) fun v8=>
 K v8 H1
theorem W31_wp (v0:AV) (v1:AV) (H:Heap) (K:AV→Heap→Prop):wpC Try.prog tab D31 (bO_ Try.f31) (retF tab [.tmp 4] K) (nthA [v0,v1]) H=W31 v0 v1 H K:=by kernel_rfl
theorem W31_ok {v0 v1:AV} {H:Heap} {K:AV→Heap→Prop} (h:W31 v0 v1 H K):CallT Try.prog 31 [v0,v1] H K:=
 CallT.of_wp (D:=D31) tO_ mixed Try.func31 (c:=bO_ Try.f31) (by kernel_rfl) rfl (by kernel_rfl) (rs:=#[.tmp 4]) rfl (by decide +kernel) (by kernel_rfl) (W31_wp v0 v1 H K) h
def D32:Info:=⟨15,fun i=>([],[]),fun i=>([],[])⟩
def W32 (v0:AV) (v1:AV) (v2:AV) (H:Heap) (K:AV→Heap→Prop):Prop:=
 binV tab .geq 3 v0 v1 fun v9=>
 grdV v9 true (binV tab .leq 3 v0 v2 fun v13=>
 K v13 H)
 (K (AV.p (.bool false)) H)
theorem W32_wp (v0:AV) (v1:AV) (v2:AV) (H:Heap) (K:AV→Heap→Prop):wpC Try.prog tab D32 (bO_ Try.f32) (retF tab [.tmp 6] K) (nthA [v0,v1,v2]) H=W32 v0 v1 v2 H K:=by kernel_rfl
theorem W32_ok {v0 v1 v2:AV} {H:Heap} {K:AV→Heap→Prop} (h:W32 v0 v1 v2 H K):CallT Try.prog 32 [v0,v1,v2] H K:=
 CallT.of_wp (D:=D32) tO_ mixed Try.func32 (c:=bO_ Try.f32) (by kernel_rfl) rfl (by kernel_rfl) (rs:=#[.tmp 6]) rfl (by decide +kernel) (by kernel_rfl) (W32_wp v0 v1 v2 H K) h
def D33:Info:=⟨21,fun i=>([],[]),fun i=>if i=2 then ([1,2,9,10],[11]) else ([],[])⟩
def L33_0 (K:AV→Heap→Prop) (v1:AV) (v2:AV) (v9:AV) (v10:AV) (v11:AV) (H:Heap):Prop:=LoopV (wpC Try.prog tab D33 (cAt [1,0,1,0,0] (bO_ Try.f33))) [1,2,9,10] (PostF.block 0 (PostF.thenA (wpC Try.prog tab D33 (cAt [1,1] (bO_ Try.f33))) (retF tab [.tmp 6] K))) [11] [Q_,v1,v2,Q_,Q_,Q_,Q_,Q_,Q_,v9,v10,v11,Q_,Q_,Q_,Q_,Q_,Q_,Q_,Q_,Q_] H
def B33_0 (K:AV→Heap→Prop) (N1:AV→Heap→Prop) (v1:AV) (v2:AV) (v9:AV) (v10:AV) (v11:AV) (H:Heap):Prop:=
 binV tab .lss 3 v11 v10 fun v12=>
 cV_ v12 (iA_ tab 24 v9 v11 fun v13=>
 lV_ tab 3 v13 H fun v14=>
 CallT Try.prog 32 [v14,v1,v2] H fun v18 H1=>
 unV .not v18 fun v19=>
 cV_ v19 (K (AV.p (.bool false)) H1)
 (binV tab .add 3 v11 (AV.p (.int .i64 1)) fun v20=>
 N1 v20 H1))
 (K (AV.p (.bool true)) H)
def W33 (v0:AV) (v1:AV) (v2:AV) (H:Heap) (K:AV→Heap→Prop):Prop:=
 lenV tab 24 v0 fun v10=>
 L33_0 K v1 v2 v0 v10 (AV.p (.int .i64 0)) H
theorem W33_wp (v0:AV) (v1:AV) (v2:AV) (H:Heap) (K:AV→Heap→Prop):wpC Try.prog tab D33 (bO_ Try.f33) (retF tab [.tmp 6] K) (nthA [v0,v1,v2]) H=W33 v0 v1 v2 H K:=by kernel_rfl
theorem W33_ok {v0 v1 v2:AV} {H:Heap} {K:AV→Heap→Prop} (h:W33 v0 v1 v2 H K):CallT Try.prog 33 [v0,v1,v2] H K:=
 CallT.of_wp (D:=D33) tO_ mixed Try.func33 (c:=bO_ Try.f33) (by kernel_rfl) rfl (by kernel_rfl) (rs:=#[.tmp 6]) rfl (by decide +kernel) (by kernel_rfl) (W33_wp v0 v1 v2 H K) h
theorem L33_0_rule {K:AV→Heap→Prop} {v1 v2 v9 v10 v11:AV} {H:Heap} {σ:Type} (s0:σ) (f11:σ→AV) (TH:σ→Heap) (pre:σ→Prop) (μ:σ→Nat)
  (h0:pre s0∧AV.wk v11 (f11 s0)∧Heap.le (TH s0) H)
  (round:∀s,pre s→B33_0 K (fun w11 H'=>∃s',pre s'∧μ s' < μ s∧AV.wk w11 (f11 s')∧Heap.le (TH s') H') v1 v2 v9 v10 (f11 s) (TH s)) :
  L33_0 K v1 v2 v9 v10 v11 H:=by
 unfold L33_0
 exact LoopV.mk s0 (fun s=>[f11 s]) TH pre μ (fun _=>rfl) (Eq.mp (by kernel_rfl) h0) (fun s hs=>Eq.mp (by kernel_rfl) (round s hs))
def D34:Info:=⟨29,fun i=>([],[]),fun i=>([],[])⟩
def W34 (v0:AV) (H:Heap) (K:AV→Heap→Prop):Prop:=
 boxV v0 H fun v1 H1=>
 fA_ tab 35 v1 0 fun v3=>
 lV_ tab 24 v3 H1 fun v4=>
 lenV tab 24 v4 fun v5=>
 binV tab .leq 3 v5 (AV.p (.int .i64 24)) fun v6=>
 grdV v6 true (fA_ tab 35 v1 1 fun v8=>
 lV_ tab 24 v8 H1 fun v9=>
 lenV tab 24 v9 fun v10=>
 binV tab .geq 3 v10 (AV.p (.int .i64 1)) fun v11=>
 grdV v11 true (fA_ tab 35 v1 1 fun v14=>
 lV_ tab 24 v14 H1 fun v15=>
 lenV tab 24 v15 fun v16=>
 binV tab .leq 3 v16 (AV.p (.int .i64 24)) fun v17=>
 grdV v17 true (fA_ tab 35 v1 0 fun v20=>
 lV_ tab 24 v20 H1 fun v21=>
 CallT Try.prog 59 [v21] H1 fun v22 H2=>
 grdV v22 true (fA_ tab 35 v1 1 fun v25=>
 lV_ tab 24 v25 H2 fun v26=>
 CallT Try.prog 59 [v26] H2 fun v27 H3=>
 K v27 H3)
 (K (AV.p (.bool false)) H2))
 (K (AV.p (.bool false)) H1))
 (K (AV.p (.bool false)) H1))
 (K (AV.p (.bool false)) H1)
theorem W34_wp (v0:AV) (H:Heap) (K:AV→Heap→Prop):wpC Try.prog tab D34 (bO_ Try.f34) (retF tab [.tmp 2] K) (nthA [v0]) H=W34 v0 H K:=by kernel_rfl
theorem W34_ok {v0:AV} {H:Heap} {K:AV→Heap→Prop} (h:W34 v0 H K):CallT Try.prog 34 [v0] H K:=
 CallT.of_wp (D:=D34) tO_ mixed Try.func34 (c:=bO_ Try.f34) (by kernel_rfl) rfl (by kernel_rfl) (rs:=#[.tmp 2]) rfl (by decide +kernel) (by kernel_rfl) (W34_wp v0 H K) h
def D35:Info:=⟨28,fun i=>if i=3 then ([[],[0],[],[],[3],[3,4],[2,3,4,5],[],[7],[7,8],[2,3,4,5,6,7,8,9],[0,1,2,3,4,5,6,7,8,9,10],[0,1,2,3,4,5,6,7,8,9,10,11],[0,1,2,3,4,5,6,7,8,9,10,11,12]],[(0,[]),(1,[]),(2,[]),(3,[]),(4,[]),(5,[]),(6,[]),(7,[]),(8,[]),(9,[]),(10,[]),(11,[]),(12,[]),(13,[])]) else ([],[]),fun i=>([],[])⟩
def W35 (v0:AV) (v1:AV) (H:Heap) (K:AV→Heap→Prop):Prop:=
 boxV v0 H fun v2 H1=>
 fA_ tab 35 v2 0 fun v6=>
 lV_ tab 24 v6 H1 fun v7=>
 lenV tab 24 v7 fun v8=>
 binV tab .lss 3 v1 v8 fun v9=>
 cV_ v9 (fA_ tab 35 v2 0 fun v10=>
 lV_ tab 24 v10 H1 fun v11=>
 iA_ tab 24 v11 v1 fun v13=>
 lV_ tab 3 v13 H1 fun v14=>
 K v14 H1)
 (fA_ tab 35 v2 1 fun v15=>
 lV_ tab 24 v15 H1 fun v16=>
 fA_ tab 35 v2 0 fun v18=>
 lV_ tab 24 v18 H1 fun v19=>
 lenV tab 24 v19 fun v20=>
 binV tab .sub 3 v1 v20 fun v21=>
 fA_ tab 35 v2 1 fun v22=>
 lV_ tab 24 v22 H1 fun v23=>
 lenV tab 24 v23 fun v24=>
 binV tab .rem 3 v21 v24 fun v25=>
 iA_ tab 24 v16 v25 fun v26=>
 lV_ tab 3 v26 H1 fun v27=>
 K v27 H1)
theorem W35_wp (v0:AV) (v1:AV) (H:Heap) (K:AV→Heap→Prop):wpC Try.prog tab D35 (bO_ Try.f35) (retF tab [.tmp 4] K) (nthA [v0,v1]) H=W35 v0 v1 H K:=by kernel_rfl
theorem W35_ok {v0 v1:AV} {H:Heap} {K:AV→Heap→Prop} (h:W35 v0 v1 H K):CallT Try.prog 35 [v0,v1] H K:=
 CallT.of_wp (D:=D35) tO_ mixed Try.func35 (c:=bO_ Try.f35) (by kernel_rfl) rfl (by kernel_rfl) (rs:=#[.tmp 4]) rfl (by decide +kernel) (by kernel_rfl) (W35_wp v0 v1 H K) h
def D36:Info:=⟨20,fun i=>([],[]),fun i=>([],[])⟩
def W36 (v0:AV) (v1:AV) (H:Heap) (K:AV→Heap→Prop):Prop:=
 boxV v0 H fun v2 H1=>
 binV tab .add 3 v1 (AV.p (.int .i64 1)) fun v6=>
 fA_ tab 35 v2 0 fun v7=>
 lV_ tab 24 v7 H1 fun v8=>
 lenV tab 24 v8 fun v9=>
 fA_ tab 35 v2 1 fun v10=>
 lV_ tab 24 v10 H1 fun v11=>
 lenV tab 24 v11 fun v12=>
 binV tab .add 3 v9 v12 fun v13=>
 binV tab .lss 3 v6 v13 fun v14=>
 cV_ v14 (binV tab .add 3 v1 (AV.p (.int .i64 1)) fun v16=>
 K v16 H1)
 (fA_ tab 35 v2 0 fun v17=>
 lV_ tab 24 v17 H1 fun v18=>
 lenV tab 24 v18 fun v19=>
 K v19 H1)
theorem W36_wp (v0:AV) (v1:AV) (H:Heap) (K:AV→Heap→Prop):wpC Try.prog tab D36 (bO_ Try.f36) (retF tab [.tmp 4] K) (nthA [v0,v1]) H=W36 v0 v1 H K:=by kernel_rfl
theorem W36_ok {v0 v1:AV} {H:Heap} {K:AV→Heap→Prop} (h:W36 v0 v1 H K):CallT Try.prog 36 [v0,v1] H K:=
 CallT.of_wp (D:=D36) tO_ mixed Try.func36 (c:=bO_ Try.f36) (by kernel_rfl) rfl (by kernel_rfl) (rs:=#[.tmp 4]) rfl (by decide +kernel) (by kernel_rfl) (W36_wp v0 v1 H K) h
def D37:Info:=⟨49,fun i=>if i=5 then ([[],[0],[0,1],[0,1],[0,1,2,3],[0,1,2,3,4],[0,1,2,3,4,5],[0,1,2,3,4,5,6],[0,1,2,3,4,5,6,7],[0,1,2,3,4,5,6,7,8],[0,1,2,3,4,5,6,7,8,9],[0,1,2,3,4,5,6,7,8,9,10],[0,1,2,3,4,5,6,7,8,9,10,11],[0,1,2,3,4,5,6,7,8,9,10,11],[0,1,2,3,4,5,6,7,8,9,10,11,12,13],[0,1,2,3,4,5,6,7,8,9,10,11,12,13,14],[0,1,2,3,4,5,6,7,8,9,10,11],[0,1,2,3,4,5,6,7,8,9,10,11],[0,1,2,3,4,5,6,7,8,9,10,11,16,17],[0,1,2,3,4,5,6,7,8,9,10,11,16,17,18],[0,1,2,3,4,5,6,7,8,9,10,11,12,13,14,15,16,17,18,19],[0,1,2,3,4,5,6,7,8,9,10,11,12,13,14,15,16,17,18,19,20],[0,1,2,3,4,5,6,7,8,9,10,11,12,13,14,15,16,17,18,19,20,21]],[(0,[]),(1,[]),(2,[]),(3,[]),(4,[]),(5,[]),(6,[]),(7,[]),(8,[]),(9,[]),(10,[]),(11,[]),(12,[]),(13,[]),(14,[]),(15,[]),(16,[]),(17,[]),(18,[]),(19,[]),(20,[]),(21,[]),(22,[])]) else ([],[]),fun i=>if i=3 then ([7,16,17],[8,18]) else ([],[])⟩
def L37_0 (K:AV→Heap→Prop) (v7:AV) (v8:AV) (v16:AV) (v17:AV) (v18:AV) (H:Heap):Prop:=LoopV (wpC Try.prog tab D37 (cAt [1,1,0,1,0,0] (bO_ Try.f37))) [7,16,17] (PostF.block 0 (PostF.thenA (wpC Try.prog tab D37 (cAt [1,1,1] (bO_ Try.f37))) (retF tab [.tmp 6] K))) [8,18] [Q_,Q_,Q_,Q_,Q_,Q_,Q_,v7,v8,Q_,Q_,Q_,Q_,Q_,Q_,Q_,v16,v17,v18,Q_,Q_,Q_,Q_,Q_,Q_,Q_,Q_,Q_,Q_,Q_,Q_,Q_,Q_,Q_,Q_,Q_,Q_,Q_,Q_,Q_,Q_,Q_,Q_,Q_,Q_,Q_,Q_,Q_,Q_] H
def B37_0 (K:AV→Heap→Prop) (N1:AV→AV→Heap→Prop) (v7:AV) (v8:AV) (v16:AV) (v17:AV) (v18:AV) (H:Heap):Prop:=
 binV tab .lss 3 v18 v17 fun v19=>
 cV_ v19 (iA_ tab 81 v16 v18 fun v21=>
 lV_ tab 4 v21 H fun v22=>
 grdV v22 true (iA_ tab 24 v7 v18 fun v27=>
 lV_ tab 3 v27 H fun v28=>
 binV tab .geq 3 v28 (AV.p (.int .i64 0)) fun v29=>
 grdV v29 true (binV tab .lss 3 v8 (AV.p (.int .i64 0)) fun v33=>
 grdV v33 false (iA_ tab 24 v7 v18 fun v37=>
 lV_ tab 3 v37 H fun v38=>
 iA_ tab 24 v7 v8 fun v41=>
 lV_ tab 3 v41 H fun v42=>
 binV tab .lss 3 v38 v42 fun v43=>
 cV_ v43 (binV tab .add 3 v18 (AV.p (.int .i64 1)) fun v47=>
 N1 v18 v47 H)
 (binV tab .add 3 v18 (AV.p (.int .i64 1)) fun v47=>
 N1 v8 v47 H))
 (binV tab .add 3 v18 (AV.p (.int .i64 1)) fun v47=>
 N1 v18 v47 H))
 (binV tab .add 3 v18 (AV.p (.int .i64 1)) fun v47=>
 N1 v8 v47 H))
 (binV tab .add 3 v18 (AV.p (.int .i64 1)) fun v47=>
 N1 v8 v47 H))
 (K v8 H)
def W37 (v0:AV) (v1:AV) (v2:AV) (H:Heap) (K:AV→Heap→Prop):Prop:=
 CallT Try.prog 60 [v0,v1] H fun v13 H1=>
 CallT Try.prog 61 [v0,v2] H1 fun v16 H2=>
 lenV tab 81 v16 fun v17=>
 L37_0 K v13 (AV.p (.int .i64 (-1))) v16 v17 (AV.p (.int .i64 0)) H2
theorem W37_wp (v0:AV) (v1:AV) (v2:AV) (H:Heap) (K:AV→Heap→Prop):wpC Try.prog tab D37 (bO_ Try.f37) (retF tab [.tmp 6] K) (nthA [v0,v1,v2]) H=W37 v0 v1 v2 H K:=by kernel_rfl
theorem W37_ok {v0 v1 v2:AV} {H:Heap} {K:AV→Heap→Prop} (h:W37 v0 v1 v2 H K):CallT Try.prog 37 [v0,v1,v2] H K:=
 CallT.of_wp (D:=D37) tO_ mixed Try.func37 (c:=bO_ Try.f37) (by kernel_rfl) rfl (by kernel_rfl) (rs:=#[.tmp 6]) rfl (by decide +kernel) (by kernel_rfl) (W37_wp v0 v1 v2 H K) h
theorem L37_0_rule {K:AV→Heap→Prop} {v7 v8 v16 v17 v18:AV} {H:Heap} {σ:Type} (s0:σ) (f8:σ→AV) (f18:σ→AV) (TH:σ→Heap) (pre:σ→Prop) (μ:σ→Nat)
  (h0:pre s0∧AV.wk v8 (f8 s0)∧AV.wk v18 (f18 s0)∧Heap.le (TH s0) H)
  (round:∀s,pre s→B37_0 K (fun w8 w18 H'=>∃s',pre s'∧μ s' < μ s∧AV.wk w8 (f8 s')∧AV.wk w18 (f18 s')∧Heap.le (TH s') H') v7 (f8 s) v16 v17 (f18 s) (TH s)) :
  L37_0 K v7 v8 v16 v17 v18 H:=by
 unfold L37_0
 exact LoopV.mk s0 (fun s=>[f8 s,f18 s]) TH pre μ (fun _=>rfl) (Eq.mp (by kernel_rfl) h0) (fun s hs=>Eq.mp (by kernel_rfl) (round s hs))
end Go.Proofs.Ytohkciilfkhomaa
