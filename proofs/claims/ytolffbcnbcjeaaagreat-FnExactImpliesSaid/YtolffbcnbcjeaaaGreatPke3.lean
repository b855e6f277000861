/- Texts laid together: Lr0 Tab W0 W1 W2 W3 W4. -/
import Derived.Test.YtolffbcnbcjeaaaGreatPke2
import Derived.Test.YtolffbcnbcjeaaaGreatProg
import Derived.KernelRfl
set_option linter.unusedVariables false
set_option linter.unusedSimpArgs false
open Go.Sep.AV renaming any → Q_
open Nat renaming reduceAdd→ν1,reduceLeDiff→ν2,reduceLT→ν3,reduceMul→ν4,reduceSub→ν5
open Int renaming reduceToNat→ι1,reduceSub→ι2,reduceAdd→ι3,reduceNeg→ι4
open Array renaming toList→ι5
open Ne renaming symm→ν6
open List renaming forall_mem_cons→ν7
namespace Go.Sep
open Go Go.RowKit
def fieldsAre (P:Program) (t:TypeId) (ts:List TypeId):Bool:=match P.underlying t with
 | some (.struct fs)=>decide (fs.toList.map (·.type)=ts)
 | _=>false
def intIs (P:Program) (t:TypeId) (k:IntKind):Bool:=match P.underlying t with
 | some (.int k')=>decide (k'=k)
 | _=>false
def sliceIs (P:Program) (t e:TypeId):Bool:=match P.underlying t with
 | some (.slice e')=>decide (e'=e)
 | _=>false
theorem fieldsAre_ok {P:Program} {t:TypeId} {ts:List TypeId} (h:fieldsAre P t ts=true):∃fs,P.underlying t=some (.struct fs)∧fs.toList.map (·.type)=ts:=by
 unfold fieldsAre at h
 split at h
 ·rename_i fs hu;exact ⟨fs,hu,of_decide_eq_true h⟩
 ·cases h
theorem intIs_ok {P:Program} {t:TypeId} {k:IntKind} (h:intIs P t k=true):P.underlying t=some (.int k):=by
 unfold intIs at h
 split at h
 ·rename_i k' hu;rw [hu,of_decide_eq_true h]
 ·cases h
theorem sliceIs_ok {P:Program} {t e:TypeId} (h:sliceIs P t e=true):P.underlying t=some (.slice e):=by
 unfold sliceIs at h
 split at h
 ·rename_i k' hu;rw [hu,of_decide_eq_true h]
 ·cases h
theorem typed_int {P:Program} {t:TypeId} {k:IntKind} (hi:intIs P t k=true) {x:List PV} (h:Typed P t x):∃n,(Lit.int k n).wf=true∧x=[.int k n]:=by
 have hu:=intIs_ok hi
 cases h with
 | bool h=>rw [hu] at h;cases h
 | int h hw=>rw [hu] at h;cases h;exact ⟨_,hw,rfl⟩
 | str h _=>rw [hu] at h;cases h
 | sl h _ _=>rw [hu] at h;cases h
 | struct h _=>rw [hu] at h;cases h
theorem typed_slice {P:Program} {t e:TypeId} (hi:sliceIs P t e=true) {x:List PV} (h:Typed P t x):∃es,x=[.sl es]∧es.length≤9223372036854775807∧∀y∈es,Typed P e y:=by
 have hu:=sliceIs_ok hi
 cases h with
 | bool h=>rw [hu] at h;cases h
 | int h hw=>rw [hu] at h;cases h
 | str h _=>rw [hu] at h;cases h
 | sl h hl he=>rw [hu] at h;cases h;exact ⟨_,rfl,hl,he⟩
 | struct h _=>rw [hu] at h;cases h
theorem typed_fields {P:Program} {t:TypeId} {ts:List TypeId} (hf:fieldsAre P t ts=true) {x:List PV} (h:Typed P t x):TypedAll P ts x:=by
 obtain ⟨fs,hu,rfl⟩:=fieldsAre_ok hf
 cases h with
 | bool h=>rw [hu] at h;cases h
 | int h hw=>rw [hu] at h;cases h
 | str h _=>rw [hu] at h;cases h
 | sl h hl he=>rw [hu] at h;cases h
 | struct h hf=>rw [hu] at h;cases h;exact hf
theorem typedAll_cons {P:Program} {t:TypeId} {ts:List TypeId} {x:List PV} (h:TypedAll P (t::ts) x):∃a b,x=a++b∧Typed P t a∧TypedAll P ts b:=by
 cases h with
 | cons h r=>exact ⟨_,_,rfl,h,r⟩
theorem typedAll_nil {P:Program} {x:List PV} (h:TypedAll P [] x):x=[]:=by cases h;rfl
theorem arg_cell {P:Program} {t:TypeId} (hs:∀fs,P.underlying t≠some (.struct fs)) {v:AV} (h:ArgT P t v):∃p,Typed P t [p]∧v=.p p:=by
 cases h with
 | cell hs h=>exact ⟨_,h,rfl⟩
 | agg hu' h=>exact absurd hu' (hs _)
theorem rows_of {α:Type} {Q:α→Prop} {e:α→List PV}:∀(es:List (List PV)),(∀y∈es,∃a,Q a∧y=e a)→∃az:List α,(∀a∈az,Q a)∧es=az.map e∧az.length=es.length
 | [],_=>⟨[],fun _ h=>by simp at h,rfl,rfl⟩
 | x::es,h=>by
  obtain ⟨a,ha,rfl⟩:=h x (by simp)
  obtain ⟨az,h1,rfl,h3⟩:=rows_of es fun y hy=>h y (by simp [hy])
  refine ⟨a::az,fun b hb=>?_,rfl,by simp⟩
  rcases List.mem_cons.1 hb with rfl | hb
  ·exact ha
  ·exact h1 b hb
theorem args_cons {P:Program} {t:TypeId} {ts:List TypeId} {avs:List AV} (h:ArgsT P (t::ts) avs):∃v vs,avs=v::vs∧ArgT P t v∧ArgsT P ts vs:=by
 cases h with
 | cons h r=>exact ⟨_,_,rfl,h,r⟩
theorem args_nil {P:Program} {avs:List AV} (h:ArgsT P [] avs):avs=[]:=by cases h;rfl
end Go.Sep
namespace Go.Proofs.YtolffbcnbcjeaaaGreat
open Go Go.Sep
def td1:TD:=⟨.func,1,8,[.nilfn]⟩
def td2:TD:=⟨.int .i64,1,8,[(.p (.int .i64 0))]⟩
def td3:TD:=⟨.int .i64,1,8,[(.p (.int .i64 0))]⟩
def td4:TD:=⟨.bool,1,1,[(.p (.bool false))]⟩
def td5:TD:=⟨.int .u8,1,1,[(.p (.int .u8 0))]⟩
def td22:TD:=⟨.slice 3,1,24,[(.p .nil)]⟩
def td24:TD:=⟨.slice 22,1,24,[(.p .nil)]⟩
def td32:TD:=⟨.slice 84,1,24,[(.p .nil)]⟩
def td34:TD:=⟨.struct [(0,3),(1,22),(2,32),(3,24)],4,80,[(.p (.int .i64 0)),(.p .nil),(.p .nil),(.p .nil)]⟩
def td41:TD:=⟨.slice 78,1,24,[(.p .nil)]⟩
def td45:TD:=⟨.slice 76,1,24,[(.p .nil)]⟩
def td76:TD:=⟨.struct [(0,3),(1,3)],2,16,[(.p (.int .i64 0)),(.p (.int .i64 0))]⟩
def td78:TD:=⟨.struct [(0,3),(1,3)],2,16,[(.p (.int .i64 0)),(.p (.int .i64 0))]⟩
def td84:TD:=⟨.struct [(0,3),(1,3),(2,3)],3,24,[(.p (.int .i64 0)),(.p (.int .i64 0)),(.p (.int .i64 0))]⟩
def td111:TD:=⟨.int .u64,1,8,[(.p (.int .u64 0))]⟩
def td116:TD:=⟨.slice 4,1,24,[(.p .nil)]⟩
def td125:TD:=⟨.struct [(0,24),(1,116),(2,22)],3,72,[(.p .nil),(.p .nil),(.p .nil)]⟩
def td133:TD:=⟨.struct [(0,24),(1,22),(2,22),(3,22),(4,22),(5,3)],6,128,[(.p .nil),(.p .nil),(.p .nil),(.p .nil),(.p .nil),(.p (.int .i64 0))]⟩
def td157:TD:=⟨.int .u64,1,8,[(.p (.int .u64 0))]⟩
def tabL:List (Nat×TD):=[(1,td1),(2,td2),(3,td3),(4,td4),(5,td5),(22,td22),(24,td24),(32,td32),(34,td34),(41,td41),(45,td45),(76,td76),(78,td78),(84,td84),(111,td111),(116,td116),(125,td125),(133,td133),(157,td157)]
def tab:Tab:=fun t=>(tabL.find? (fun p=>p.1==t)).map (·.2)
theorem tab_1:tab 1=some ⟨.func,1,8,[.nilfn]⟩:=rfl
theorem tab_2:tab 2=some ⟨.int .i64,1,8,[(.p (.int .i64 0))]⟩:=rfl
theorem tab_3:tab 3=some ⟨.int .i64,1,8,[(.p (.int .i64 0))]⟩:=rfl
theorem tab_4:tab 4=some ⟨.bool,1,1,[(.p (.bool false))]⟩:=rfl
theorem tab_5:tab 5=some ⟨.int .u8,1,1,[(.p (.int .u8 0))]⟩:=rfl
theorem tab_22:tab 22=some ⟨.slice 3,1,24,[(.p .nil)]⟩:=rfl
theorem tab_24:tab 24=some ⟨.slice 22,1,24,[(.p .nil)]⟩:=rfl
theorem tab_32:tab 32=some ⟨.slice 84,1,24,[(.p .nil)]⟩:=rfl
theorem tab_34:tab 34=some ⟨.struct [(0,3),(1,22),(2,32),(3,24)],4,80,[(.p (.int .i64 0)),(.p .nil),(.p .nil),(.p .nil)]⟩:=rfl
theorem tab_41:tab 41=some ⟨.slice 78,1,24,[(.p .nil)]⟩:=rfl
theorem tab_45:tab 45=some ⟨.slice 76,1,24,[(.p .nil)]⟩:=rfl
theorem tab_76:tab 76=some ⟨.struct [(0,3),(1,3)],2,16,[(.p (.int .i64 0)),(.p (.int .i64 0))]⟩:=rfl
theorem tab_78:tab 78=some ⟨.struct [(0,3),(1,3)],2,16,[(.p (.int .i64 0)),(.p (.int .i64 0))]⟩:=rfl
theorem tab_84:tab 84=some ⟨.struct [(0,3),(1,3),(2,3)],3,24,[(.p (.int .i64 0)),(.p (.int .i64 0)),(.p (.int .i64 0))]⟩:=rfl
theorem tab_111:tab 111=some ⟨.int .u64,1,8,[(.p (.int .u64 0))]⟩:=rfl
theorem tab_116:tab 116=some ⟨.slice 4,1,24,[(.p .nil)]⟩:=rfl
theorem tab_125:tab 125=some ⟨.struct [(0,24),(1,116),(2,22)],3,72,[(.p .nil),(.p .nil),(.p .nil)]⟩:=rfl
theorem tab_133:tab 133=some ⟨.struct [(0,24),(1,22),(2,22),(3,22),(4,22),(5,3)],6,128,[(.p .nil),(.p .nil),(.p .nil),(.p .nil),(.p .nil),(.p (.int .i64 0))]⟩:=rfl
theorem tab_157:tab 157=some ⟨.int .u64,1,8,[(.p (.int .u64 0))]⟩:=rfl
set_option maxRecDepth 100000 in
theorem tabs:tab 1=some ⟨.func,1,8,[.nilfn]⟩∧tab 2=some ⟨.int .i64,1,8,[(.p (.int .i64 0))]⟩∧tab 3=some ⟨.int .i64,1,8,[(.p (.int .i64 0))]⟩∧tab 4=some ⟨.bool,1,1,[(.p (.bool false))]⟩∧tab 5=some ⟨.int .u8,1,1,[(.p (.int .u8 0))]⟩∧tab 22=some ⟨.slice 3,1,24,[(.p .nil)]⟩∧tab 24=some ⟨.slice 22,1,24,[(.p .nil)]⟩∧tab 32=some ⟨.slice 84,1,24,[(.p .nil)]⟩∧tab 34=some ⟨.struct [(0,3),(1,22),(2,32),(3,24)],4,80,[(.p (.int .i64 0)),(.p .nil),(.p .nil),(.p .nil)]⟩∧tab 41=some ⟨.slice 78,1,24,[(.p .nil)]⟩∧tab 45=some ⟨.slice 76,1,24,[(.p .nil)]⟩∧tab 76=some ⟨.struct [(0,3),(1,3)],2,16,[(.p (.int .i64 0)),(.p (.int .i64 0))]⟩∧tab 78=some ⟨.struct [(0,3),(1,3)],2,16,[(.p (.int .i64 0)),(.p (.int .i64 0))]⟩∧tab 84=some ⟨.struct [(0,3),(1,3),(2,3)],3,24,[(.p (.int .i64 0)),(.p (.int .i64 0)),(.p (.int .i64 0))]⟩∧tab 111=some ⟨.int .u64,1,8,[(.p (.int .u64 0))]⟩∧tab 116=some ⟨.slice 4,1,24,[(.p .nil)]⟩∧tab 125=some ⟨.struct [(0,24),(1,116),(2,22)],3,72,[(.p .nil),(.p .nil),(.p .nil)]⟩∧tab 133=some ⟨.struct [(0,24),(1,22),(2,22),(3,22),(4,22),(5,3)],6,128,[(.p .nil),(.p .nil),(.p .nil),(.p .nil),(.p .nil),(.p (.int .i64 0))]⟩∧tab 157=some ⟨.int .u64,1,8,[(.p (.int .u64 0))]⟩:=⟨tab_1,tab_2,tab_3,tab_4,tab_5,tab_22,tab_24,tab_32,tab_34,tab_41,tab_45,tab_76,tab_78,tab_84,tab_111,tab_116,tab_125,tab_133,tab_157⟩
theorem info1:(Tryz.prog.info? 1).map (fun i=>(i.zero,i.size,i.bytes))=some (some .nilFunc,1,8):=by kernel_rfl
theorem td1_ok:TD.Ok Tryz.prog 1 td1:=TD.Ok.of ⟨_,_,_,Tryz.underlying1⟩ info1 rfl rfl (by decide) (fun _=>rfl)
theorem info2:(Tryz.prog.info? 2).map (fun i=>(i.zero,i.size,i.bytes))=some (some (.int .i64 0),1,8):=by kernel_rfl
theorem td2_ok:TD.Ok Tryz.prog 2 td2:=TD.Ok.of Tryz.underlying2 info2 rfl rfl (by decide) (fun _=>rfl)
theorem info3:(Tryz.prog.info? 3).map (fun i=>(i.zero,i.size,i.bytes))=some (some (.int .i64 0),1,8):=by kernel_rfl
theorem td3_ok:TD.Ok Tryz.prog 3 td3:=TD.Ok.of Tryz.underlying3 info3 rfl rfl (by decide) (fun _=>rfl)
theorem info4:(Tryz.prog.info? 4).map (fun i=>(i.zero,i.size,i.bytes))=some (some (.bool false),1,1):=by kernel_rfl
theorem td4_ok:TD.Ok Tryz.prog 4 td4:=TD.Ok.of Tryz.underlying4 info4 rfl rfl (by decide) (fun _=>rfl)
theorem info5:(Tryz.prog.info? 5).map (fun i=>(i.zero,i.size,i.bytes))=some (some (.int .u8 0),1,1):=by kernel_rfl
theorem td5_ok:TD.Ok Tryz.prog 5 td5:=TD.Ok.of Tryz.underlying5 info5 rfl rfl (by decide) (fun _=>rfl)
theorem info22:(Tryz.prog.info? 22).map (fun i=>(i.zero,i.size,i.bytes))=some (some (.slice none 0 0),1,24):=by kernel_rfl
theorem td22_ok:TD.Ok Tryz.prog 22 td22:=TD.Ok.of Tryz.underlying22 info22 rfl rfl (by decide) (fun _=>rfl)
theorem info24:(Tryz.prog.info? 24).map (fun i=>(i.zero,i.size,i.bytes))=some (some (.slice none 0 0),1,24):=by kernel_rfl
theorem td24_ok:TD.Ok Tryz.prog 24 td24:=TD.Ok.of Tryz.underlying24 info24 rfl rfl (by decide) (fun _=>rfl)
theorem info32:(Tryz.prog.info? 32).map (fun i=>(i.zero,i.size,i.bytes))=some (some (.slice none 0 0),1,24):=by kernel_rfl
theorem td32_ok:TD.Ok Tryz.prog 32 td32:=TD.Ok.of Tryz.underlying32 info32 rfl rfl (by decide) (fun _=>rfl)
theorem info34:(Tryz.prog.info? 34).map (fun i=>(i.zero,i.size,i.bytes))=some (some (.agg #[(.int .i64 0),(.slice none 0 0),(.slice none 0 0),(.slice none 0 0)]),4,80):=by kernel_rfl
theorem td34_ok:TD.Ok Tryz.prog 34 td34:=TD.Ok.of ⟨_,Tryz.underlying34,rfl,Tryz.stoodInHeld34,Tryz.eqGuardType34,by decide⟩ info34 rfl rfl (by decide) (fun h=>by cases h)
theorem info41:(Tryz.prog.info? 41).map (fun i=>(i.zero,i.size,i.bytes))=some (some (.slice none 0 0),1,24):=by kernel_rfl
theorem td41_ok:TD.Ok Tryz.prog 41 td41:=TD.Ok.of Tryz.underlying41 info41 rfl rfl (by decide) (fun _=>rfl)
theorem info45:(Tryz.prog.info? 45).map (fun i=>(i.zero,i.size,i.bytes))=some (some (.slice none 0 0),1,24):=by kernel_rfl
theorem td45_ok:TD.Ok Tryz.prog 45 td45:=TD.Ok.of Tryz.underlying45 info45 rfl rfl (by decide) (fun _=>rfl)
theorem info76:(Tryz.prog.info? 76).map (fun i=>(i.zero,i.size,i.bytes))=some (some (.agg #[(.int .i64 0),(.int .i64 0)]),2,16):=by kernel_rfl
theorem td76_ok:TD.Ok Tryz.prog 76 td76:=TD.Ok.of ⟨_,Tryz.underlying76,rfl,Tryz.stoodInHeld76,Tryz.eqGuardType76,by decide⟩ info76 rfl rfl (by decide) (fun h=>by cases h)
theorem info78:(Tryz.prog.info? 78).map (fun i=>(i.zero,i.size,i.bytes))=some (some (.agg #[(.int .i64 0),(.int .i64 0)]),2,16):=by kernel_rfl
theorem td78_ok:TD.Ok Tryz.prog 78 td78:=TD.Ok.of ⟨_,Tryz.underlying78,rfl,Tryz.stoodInHeld78,Tryz.eqGuardType78,by decide⟩ info78 rfl rfl (by decide) (fun h=>by cases h)
theorem info84:(Tryz.prog.info? 84).map (fun i=>(i.zero,i.size,i.bytes))=some (some (.agg #[(.int .i64 0),(.int .i64 0),(.int .i64 0)]),3,24):=by kernel_rfl
theorem td84_ok:TD.Ok Tryz.prog 84 td84:=TD.Ok.of ⟨_,Tryz.underlying84,rfl,Tryz.stoodInHeld84,Tryz.eqGuardType84,by decide⟩ info84 rfl rfl (by decide) (fun h=>by cases h)
theorem info111:(Tryz.prog.info? 111).map (fun i=>(i.zero,i.size,i.bytes))=some (some (.int .u64 0),1,8):=by kernel_rfl
theorem td111_ok:TD.Ok Tryz.prog 111 td111:=TD.Ok.of Tryz.underlying111 info111 rfl rfl (by decide) (fun _=>rfl)
theorem info116:(Tryz.prog.info? 116).map (fun i=>(i.zero,i.size,i.bytes))=some (some (.slice none 0 0),1,24):=by kernel_rfl
theorem td116_ok:TD.Ok Tryz.prog 116 td116:=TD.Ok.of Tryz.underlying116 info116 rfl rfl (by decide) (fun _=>rfl)
theorem info125:(Tryz.prog.info? 125).map (fun i=>(i.zero,i.size,i.bytes))=some (some (.agg #[(.slice none 0 0),(.slice none 0 0),(.slice none 0 0)]),3,72):=by kernel_rfl
theorem td125_ok:TD.Ok Tryz.prog 125 td125:=TD.Ok.of ⟨_,Tryz.underlying125,rfl,Tryz.stoodInHeld125,Tryz.eqGuardType125,by decide⟩ info125 rfl rfl (by decide) (fun h=>by cases h)
theorem info133:(Tryz.prog.info? 133).map (fun i=>(i.zero,i.size,i.bytes))=some (some (.agg #[(.slice none 0 0),(.slice none 0 0),(.slice none 0 0),(.slice none 0 0),(.slice none 0 0),(.int .i64 0)]),6,128):=by kernel_rfl
theorem td133_ok:TD.Ok Tryz.prog 133 td133:=TD.Ok.of ⟨_,Tryz.underlying133,rfl,Tryz.stoodInHeld133,Tryz.eqGuardType133,by decide⟩ info133 rfl rfl (by decide) (fun h=>by cases h)
theorem info157:(Tryz.prog.info? 157).map (fun i=>(i.zero,i.size,i.bytes))=some (some (.int .u64 0),1,8):=by kernel_rfl
theorem td157_ok:TD.Ok Tryz.prog 157 td157:=TD.Ok.of Tryz.underlying157 info157 rfl rfl (by decide) (fun _=>rfl)
set_option maxRecDepth 100000 in
theorem tabL_ok:∀p∈tabL,TD.Ok Tryz.prog p.1 p.2:=
 (ν7.2 ⟨td1_ok,(ν7.2 ⟨td2_ok,(ν7.2 ⟨td3_ok,(ν7.2 ⟨td4_ok,(ν7.2 ⟨td5_ok,(ν7.2 ⟨td22_ok,(ν7.2 ⟨td24_ok,(ν7.2 ⟨td32_ok,(ν7.2 ⟨td34_ok,(ν7.2 ⟨td41_ok,(ν7.2 ⟨td45_ok,(ν7.2 ⟨td76_ok,(ν7.2 ⟨td78_ok,(ν7.2 ⟨td84_ok,(ν7.2 ⟨td111_ok,(ν7.2 ⟨td116_ok,(ν7.2 ⟨td125_ok,(ν7.2 ⟨td133_ok,(ν7.2 ⟨td157_ok,(fun _ h=>by cases h)⟩)⟩)⟩)⟩)⟩)⟩)⟩)⟩)⟩)⟩)⟩)⟩)⟩)⟩)⟩)⟩)⟩)⟩)⟩)
theorem mixed:Tryz.prog.follows .mixedOrders=true:=by kernel_rfl
theorem tO_:tab.Ok Tryz.prog:=Tab.Ok.of_list tabL_ok
end Go.Proofs.YtolffbcnbcjeaaaGreat
namespace Go.Proofs.YtolffbcnbcjeaaaGreat
open Go Go.Sep
attribute [local irreducible] wpC headF
def D3:Info:=⟨96,fun i=>if i=10 then ([[],[],[1],[0,1,2],[0,1,2,3]],[(0,[]),(1,[]),(2,[0]),(3,[]),(4,[])]) else ([],[]),fun i=>([],[])⟩
def D6:Info:=⟨58,fun i=>([],[]),fun i=>([],[])⟩
def W6 (v0:AV) (v1:AV) (H:Heap) (K:AV→Heap→Prop):Prop:=
 CallT Tryz.prog 16 [v0,(AV.p (.int .i64 1048576))] H fun v14 H1=>
 binV tab .lss 3 v14 (AV.p (.int .i64 0)) fun v16=>
 cV_ v16 (K (AV.p (.bool true)) H1)
 (CallT Tryz.prog 16 [v1,v14] H1 fun v19 H2=>
 binV tab .lss 3 v19 (AV.p (.int .i64 0)) fun v21=>
 cV_ v21 (K (AV.p (.bool true)) H2)
 (CallT Tryz.prog 18 [v0] H2 fun v24 H3=>
 CallT Tryz.prog 18 [v1] H3 fun v26 H4=>
 CallT Tryz.prog 24 [v24,v26] H4 fun v27 H5=>
 xV_ v27 0 fun v28=>
 xV_ v27 1 fun v29=>
 CallT Tryz.prog 18 [v0] H5 fun v31 H6=>
 CallT Tryz.prog 18 [v1] H6 fun v33 H7=>
 CallT Tryz.prog 25 [v31,v33] H7 fun v37 H8=>
 xV_ v37 0 fun v38=>
 xV_ v37 1 fun v39=>
 binV tab .neq 4 v38 v28 fun v42=>
 grdV v42 false (binV tab .neq 4 v39 v29 fun v46=>
 cV_ v46 (K (AV.p (.bool false)) H8)
 (CallT Tryz.prog 18 [v0] H8 fun v50 H9=>
 CallT Tryz.prog 20 [v31,v50] H9 fun v51 H10=>
 unV .not v51 fun v52=>
 cV_ v52 (K (AV.p (.bool false)) H10)
 (CallT Tryz.prog 18 [v1] H10 fun v55 H11=>
 CallT Tryz.prog 20 [v33,v55] H11 fun v56 H12=>
 unV .not v56 fun v57=>
 cV_ v57 (K (AV.p (.bool false)) H12)
 (K (AV.p (.bool true)) H12))))
 (K (AV.p (.bool false)) H8)))
theorem W6_wp (v0:AV) (v1:AV) (H:Heap) (K:AV→Heap→Prop):wpC Tryz.prog tab D6 (bO_ Tryz.f6) (retF tab [.tmp 4] K) (nthA [v0,v1]) H=W6 v0 v1 H K:=by kernel_rfl
theorem W6_ok {v0 v1:AV} {H:Heap} {K:AV→Heap→Prop} (h:W6 v0 v1 H K):CallT Tryz.prog 6 [v0,v1] H K:=
 CallT.of_wp (D:=D6) tO_ mixed Tryz.func6 (c:=bO_ Tryz.f6) (by kernel_rfl) rfl (by kernel_rfl) (rs:=#[.tmp 4]) rfl (by decide +kernel) (by kernel_rfl) (W6_wp v0 v1 H K) h
def D7:Info:=⟨24,fun i=>([],[]),fun i=>([],[])⟩
def D16:Info:=⟨12,fun i=>([],[]),fun i=>([],[])⟩
def W16 (v0:AV) (v1:AV) (H:Heap) (K:AV→Heap→Prop):Prop:=
 lenV tab 41 v0 fun v7=>
 binV tab .sub 3 v1 v7 fun v8=>
 binV tab .lss 3 v8 (AV.p (.int .i64 0)) fun v10=>
 cV_ v10 (K (AV.p (.int .i64 (-1))) H)
 (K v8 H)
theorem W16_wp (v0:AV) (v1:AV) (H:Heap) (K:AV→Heap→Prop):wpC Tryz.prog tab D16 (bO_ Tryz.f16) (retF tab [.tmp 4] K) (nthA [v0,v1]) H=W16 v0 v1 H K:=by kernel_rfl
theorem W16_ok {v0 v1:AV} {H:Heap} {K:AV→Heap→Prop} (h:W16 v0 v1 H K):CallT Tryz.prog 16 [v0,v1] H K:=
 CallT.of_wp (D:=D16) tO_ mixed Tryz.func16 (c:=bO_ Tryz.f16) (by kernel_rfl) rfl (by kernel_rfl) (rs:=#[.tmp 4]) rfl (by decide +kernel) (by kernel_rfl) (W16_wp v0 v1 H K) h
def D18:Info:=⟨23,fun i=>([],[]),fun i=>if i=3 then ([0,3],[4]) else ([],[])⟩
def L18_0 (K:AV→Heap→Prop) (v0:AV) (v3:AV) (v4:AV) (H:Heap):Prop:=LoopV (wpC Tryz.prog tab D18 (cAt [1,1,0,1,0,0] (bO_ Tryz.f18))) [0,3] (PostF.block 0 (PostF.thenA (wpC Tryz.prog tab D18 (cAt [1,1,1] (bO_ Tryz.f18))) (retF tab [.tmp 2] K))) [4] [v0,Q_,Q_,v3,v4,Q_,Q_,Q_,Q_,Q_,Q_,Q_,Q_,Q_,Q_,Q_,Q_,Q_,Q_,Q_,Q_,Q_,Q_] H
def B18_0 (K:AV→Heap→Prop) (N1:AV→Heap→Prop) (v0:AV) (v3:AV) (v4:AV) (H:Heap):Prop:=
 lenV tab 41 v0 fun v10=>
 binV tab .lss 3 v4 v10 fun v11=>
 cV_ v11 (iA_ tab 41 v0 v4 fun v18=>
 lV_ tab 78 v18 H fun v19=>
 CallT Tryz.prog 54 [v19] H fun v20 H2=>
 iA_ tab 45 v3 v4 fun v21=>
 sV_ tab 76 v21 v20 H2 fun H3=>
 binV tab .add 3 v4 (AV.p (.int .i64 1)) fun v13=>
 N1 v13 H3)
 (K v3 H)
def W18 (v0:AV) (H:Heap) (K:AV→Heap→Prop):Prop:=
 lenV tab 41 v0 fun v6=>
 mS_ tab 45 v6 v6 H fun v7 H1=>
 L18_0 K v0 v7 (AV.p (.int .i64 0)) H1
theorem W18_wp (v0:AV) (H:Heap) (K:AV→Heap→Prop):wpC Tryz.prog tab D18 (bO_ Tryz.f18) (retF tab [.tmp 2] K) (nthA [v0]) H=W18 v0 H K:=by kernel_rfl
theorem W18_ok {v0:AV} {H:Heap} {K:AV→Heap→Prop} (h:W18 v0 H K):CallT Tryz.prog 18 [v0] H K:=
 CallT.of_wp (D:=D18) tO_ mixed Tryz.func18 (c:=bO_ Tryz.f18) (by kernel_rfl) rfl (by kernel_rfl) (rs:=#[.tmp 2]) rfl (by decide +kernel) (by kernel_rfl) (W18_wp v0 H K) h
theorem L18_0_rule {K:AV→Heap→Prop} {v0 v3 v4:AV} {H:Heap} {σ:Type} (s0:σ) (f4:σ→AV) (TH:σ→Heap) (pre:σ→Prop) (μ:σ→Nat)
  (h0:pre s0∧AV.wk v4 (f4 s0)∧Heap.le (TH s0) H)
  (round:∀s,pre s→B18_0 K (fun w4 H'=>∃s',pre s'∧μ s' < μ s∧AV.wk w4 (f4 s')∧Heap.le (TH s') H') v0 v3 (f4 s) (TH s)) :
  L18_0 K v0 v3 v4 H:=by
 unfold L18_0
 exact LoopV.mk s0 (fun s=>[f4 s]) TH pre μ (fun _=>rfl) (Eq.mp (by kernel_rfl) h0) (fun s hs=>Eq.mp (by kernel_rfl) (round s hs))
def D20:Info:=⟨27,fun i=>if i=6 then ([[],[],[0,1],[0,1,2],[],[],[4,5],[4,5,6],[0,1,2,3,4,5,6,7],[0,1,2,3,4,5,6,7,8]],[(0,[]),(1,[]),(2,[]),(3,[]),(4,[]),(5,[]),(6,[]),(7,[]),(8,[]),(9,[])]) else ([],[]),fun i=>if i=4 then ([0,1],[5]) else ([],[])⟩
def L20_0 (K:AV→Heap→Prop) (v0:AV) (v1:AV) (v5:AV) (H:Heap):Prop:=LoopV (wpC Tryz.prog tab D20 (cAt [1,1,0,1,0,0] (bO_ Tryz.f20))) [0,1] (PostF.block 0 (PostF.thenA (wpC Tryz.prog tab D20 (cAt [1,1,1] (bO_ Tryz.f20))) (retF tab [.tmp 4] K))) [5] [v0,v1,Q_,Q_,Q_,v5,Q_,Q_,Q_,Q_,Q_,Q_,Q_,Q_,Q_,Q_,Q_,Q_,Q_,Q_,Q_,Q_,Q_,Q_,Q_,Q_,Q_] H
def B20_0 (K:AV→Heap→Prop) (N1:AV→Heap→Prop) (v0:AV) (v1:AV) (v5:AV) (H:Heap):Prop:=
 lenV tab 45 v0 fun v13=>
 binV tab .lss 3 v5 v13 fun v14=>
 cV_ v14 (iA_ tab 45 v0 v5 fun v19=>
 lV_ tab 76 v19 H fun v20=>
 iA_ tab 45 v1 v5 fun v23=>
 lV_ tab 76 v23 H fun v24=>
 CallT Tryz.prog 57 [v20,v24] H fun v25 H1=>
 unV .not v25 fun v26=>
 cV_ v26 (K (AV.p (.bool false)) H1)
 (binV tab .add 3 v5 (AV.p (.int .i64 1)) fun v16=>
 N1 v16 H1))
 (K (AV.p (.bool true)) H)
def W20 (v0:AV) (v1:AV) (H:Heap) (K:AV→Heap→Prop):Prop:=
 lenV tab 45 v0 fun v7=>
 lenV tab 45 v1 fun v9=>
 binV tab .neq 3 v7 v9 fun v10=>
 cV_ v10 (K (AV.p (.bool false)) H)
 (L20_0 K v0 v1 (AV.p (.int .i64 0)) H)
theorem W20_wp (v0:AV) (v1:AV) (H:Heap) (K:AV→Heap→Prop):wpC Tryz.prog tab D20 (bO_ Tryz.f20) (retF tab [.tmp 4] K) (nthA [v0,v1]) H=W20 v0 v1 H K:=by kernel_rfl
theorem W20_ok {v0 v1:AV} {H:Heap} {K:AV→Heap→Prop} (h:W20 v0 v1 H K):CallT Tryz.prog 20 [v0,v1] H K:=
 CallT.of_wp (D:=D20) tO_ mixed Tryz.func20 (c:=bO_ Tryz.f20) (by kernel_rfl) rfl (by kernel_rfl) (rs:=#[.tmp 4]) rfl (by decide +kernel) (by kernel_rfl) (W20_wp v0 v1 H K) h
theorem L20_0_rule {K:AV→Heap→Prop} {v0 v1 v5:AV} {H:Heap} {σ:Type} (s0:σ) (f5:σ→AV) (TH:σ→Heap) (pre:σ→Prop) (μ:σ→Nat)
  (h0:pre s0∧AV.wk v5 (f5 s0)∧Heap.le (TH s0) H)
  (round:∀s,pre s→B20_0 K (fun w5 H'=>∃s',pre s'∧μ s' < μ s∧AV.wk w5 (f5 s')∧Heap.le (TH s') H') v0 v1 (f5 s) (TH s)) :
  L20_0 K v0 v1 v5 H:=by
 unfold L20_0
 exact LoopV.mk s0 (fun s=>[f5 s]) TH pre μ (fun _=>rfl) (Eq.mp (by kernel_rfl) h0) (fun s hs=>Eq.mp (by kernel_rfl) (round s hs))
end Go.Proofs.YtolffbcnbcjeaaaGreat
namespace Go.Proofs.YtolffbcnbcjeaaaGreat
open Go Go.Sep
attribute [local irreducible] wpC headF
def D24:Info:=⟨143,fun i=>if i=13 then ([[],[],[1],[],[3],[1,2,3,4],[],[6],[1,2,3,4,5,6,7],[],[],[10],[],[12],[10,11,12,13],[],[15],[10,11,12,13,14,15,16],[9,10,11,12,13,14,15,16,17],[9,10,11,12,13,14,15,16,17,18],[],[20],[],[22],[20,21,22,23],[],[25],[20,21,22,23,24,25,26],[20,21,22,23,24,25,26,27],[9,10,11,12,13,14,15,16,17,18,19,20,21,22,23,24,25,26,27,28],[0,1,2,3,4,5,6,7,8,9,10,11,12,13,14,15,16,17,18,19,20,21,22,23,24,25,26,27,28,29],[0,1,2,3,4,5,6,7,8,9,10,11,12,13,14,15,16,17,18,19,20,21,22,23,24,25,26,27,28,29,30]],[(0,[]),(1,[]),(2,[]),(3,[]),(4,[]),(5,[]),(6,[]),(7,[]),(8,[]),(9,[]),(10,[]),(11,[]),(12,[]),(13,[]),(14,[]),(15,[]),(16,[]),(17,[]),(18,[]),(19,[]),(20,[]),(21,[]),(22,[]),(23,[]),(24,[]),(25,[]),(26,[]),(27,[]),(28,[2,4,7,11,13,16,19]),(29,[2,4,7]),(30,[]),(31,[])]) else if i=20 then ([[],[],[],[2],[2,3],[],[5],[1,2,3,4,5,6],[1,2,3,4,5,6,7],[0,1,2,3,4,5,6,7,8],[0,1,2,3,4,5,6,7,8,9]],[(0,[]),(1,[]),(2,[]),(3,[]),(5,[]),(6,[]),(4,[6]),(7,[]),(8,[]),(9,[]),(10,[])]) else if i=25 then ([[],[],[1],[1,2],[],[],[5],[1,2,3,4,5,6],[1,2,3,4,5,6,7],[0,1,2,3,4,5,6,7,8],[0,1,2,3,4,5,6,7,8,9]],[(0,[]),(1,[]),(2,[]),(4,[]),(5,[]),(6,[]),(3,[6]),(7,[]),(8,[]),(9,[]),(10,[])]) else ([],[]),fun i=>if i=7 then ([6,7,8,40,41],[42]) else if i=10 then ([6,7,8,10,40,41,42,47,48],[49]) else if i=18 then ([6,7,8,92,93],[13,94]) else if i=23 then ([6,7,8,110,111],[13,112]) else ([],[])⟩
def L24_0 (K:AV→Heap→Prop) (v6:AV) (v7:AV) (v8:AV) (v40:AV) (v41:AV) (v42:AV) (H:Heap):Prop:=LoopV (wpC Tryz.prog tab D24 (cAt [1,1,1,1,1,0,1,0,0] (bO_ Tryz.f24))) [6,7,8,40,41] (PostF.block 0 (PostF.thenA (wpC Tryz.prog tab D24 (cAt [1,1,1,1,1,1] (bO_ Tryz.f24))) (retF tab [.tmp 4,.tmp 5] K))) [42] [Q_,Q_,Q_,Q_,Q_,Q_,v6,v7,v8,Q_,Q_,Q_,Q_,Q_,Q_,Q_,Q_,Q_,Q_,Q_,Q_,Q_,Q_,Q_,Q_,Q_,Q_,Q_,Q_,Q_,Q_,Q_,Q_,Q_,Q_,Q_,Q_,Q_,Q_,Q_,v40,v41,v42,Q_,Q_,Q_,Q_,Q_,Q_,Q_,Q_,Q_,Q_,Q_,Q_,Q_,Q_,Q_,Q_,Q_,Q_,Q_,Q_,Q_,Q_,Q_,Q_,Q_,Q_,Q_,Q_,Q_,Q_,Q_,Q_,Q_,Q_,Q_,Q_,Q_,Q_,Q_,Q_,Q_,Q_,Q_,Q_,Q_,Q_,Q_,Q_,Q_,Q_,Q_,Q_,Q_,Q_,Q_,Q_,Q_,Q_,Q_,Q_,Q_,Q_,Q_,Q_,Q_,Q_,Q_,Q_,Q_,Q_,Q_,Q_,Q_,Q_,Q_,Q_,Q_,Q_,Q_,Q_,Q_,Q_,Q_,Q_,Q_,Q_,Q_,Q_,Q_,Q_,Q_,Q_,Q_,Q_,Q_,Q_,Q_,Q_,Q_,Q_] H
def L24_1 (K:AV→Heap→Prop) (N1:AV→Heap→Prop) (v6:AV) (v7:AV) (v8:AV) (v10:AV) (v40:AV) (v41:AV) (v42:AV) (v47:AV) (v48:AV) (v49:AV) (H:Heap):Prop:=LoopV (wpC Tryz.prog tab D24 (cAt [1,1,1,1,1,0,1,0,0,1,1,0,0,1,1,0,0] (bO_ Tryz.f24))) [6,7,8,10,40,41,42,47,48] (PostF.block 2 (PostF.block 1 (PostF.thenA (wpC Tryz.prog tab D24 (cAt [1,1,1,1,1,0,1,0,0,1,1,1] (bO_ Tryz.f24))) (loopF (PostF.block 0 (PostF.thenA (wpC Tryz.prog tab D24 (cAt [1,1,1,1,1,1] (bO_ Tryz.f24))) (retF tab [.tmp 4,.tmp 5] K))) (fun e h=>N1 (e 42) h))))) [49] [Q_,Q_,Q_,Q_,Q_,Q_,v6,v7,v8,Q_,v10,Q_,Q_,Q_,Q_,Q_,Q_,Q_,Q_,Q_,Q_,Q_,Q_,Q_,Q_,Q_,Q_,Q_,Q_,Q_,Q_,Q_,Q_,Q_,Q_,Q_,Q_,Q_,Q_,Q_,v40,v41,v42,Q_,Q_,Q_,Q_,v47,v48,v49,Q_,Q_,Q_,Q_,Q_,Q_,Q_,Q_,Q_,Q_,Q_,Q_,Q_,Q_,Q_,Q_,Q_,Q_,Q_,Q_,Q_,Q_,Q_,Q_,Q_,Q_,Q_,Q_,Q_,Q_,Q_,Q_,Q_,Q_,Q_,Q_,Q_,Q_,Q_,Q_,Q_,Q_,Q_,Q_,Q_,Q_,Q_,Q_,Q_,Q_,Q_,Q_,Q_,Q_,Q_,Q_,Q_,Q_,Q_,Q_,Q_,Q_,Q_,Q_,Q_,Q_,Q_,Q_,Q_,Q_,Q_,Q_,Q_,Q_,Q_,Q_,Q_,Q_,Q_,Q_,Q_,Q_,Q_,Q_,Q_,Q_,Q_,Q_,Q_,Q_,Q_,Q_,Q_] H
def B24_1 (K:AV→Heap→Prop) (N1:AV→Heap→Prop) (N2:AV→Heap→Prop) (v6:AV) (v7:AV) (v8:AV) (v10:AV) (v40:AV) (v41:AV) (v42:AV) (v47:AV) (v48:AV) (v49:AV) (H:Heap):Prop:=
 binV tab .lss 3 v49 v48 fun v50=>
 cV_ v50 (iA_ tab 32 v47 v49 fun v51=>
 lV_ tab 84 v51 H fun v52=>
 allocV tab 84 H fun v12 H12=>
 sV_ tab 84 v12 v52 H12 fun H13=>
 fA_ tab 84 v10 1 fun v53=>
 lV_ tab 3 v53 H13 fun v54=>
 fA_ tab 84 v12 1 fun v55=>
 lV_ tab 3 v55 H13 fun v56=>
 binV tab .eql 3 v54 v56 fun v57=>
 cV_ v57 (fA_ tab 84 v10 0 fun v59=>
 lV_ tab 3 v59 H13 fun v60=>
 fA_ tab 34 v7 0 fun v61=>
 lV_ tab 3 v61 H13 fun v62=>
 binV tab .mul 3 v60 v62 fun v63=>
 fA_ tab 84 v12 0 fun v64=>
 lV_ tab 3 v64 H13 fun v65=>
 binV tab .add 3 v63 v65 fun v66=>
 fA_ tab 84 v10 0 fun v68=>
 lV_ tab 3 v68 H13 fun v69=>
 fA_ tab 34 v7 0 fun v70=>
 lV_ tab 3 v70 H13 fun v71=>
 binV tab .mul 3 v69 v71 fun v72=>
 fA_ tab 84 v12 0 fun v73=>
 lV_ tab 3 v73 H13 fun v74=>
 binV tab .add 3 v72 v74 fun v75=>
 iA_ tab 24 v8 v75 fun v76=>
 lV_ tab 22 v76 H13 fun v77=>
 fA_ tab 84 v10 2 fun v78=>
 lV_ tab 3 v78 H13 fun v79=>
 fA_ tab 34 v7 0 fun v80=>
 lV_ tab 3 v80 H13 fun v81=>
 binV tab .mul 3 v79 v81 fun v82=>
 fA_ tab 84 v12 2 fun v83=>
 lV_ tab 3 v83 H13 fun v84=>
 binV tab .add 3 v82 v84 fun v85=>
 bS_ tab 22 1 [(0,v85)] H13 (wkK fun v86 H14=>
 (lV_ tab 3 v59 H14 fun v9060=>
 v60=v9060)∧
 (lV_ tab 3 v61 H14 fun v9062=>
 v62=v9062)∧
 (lV_ tab 3 v64 H14 fun v9065=>
 v65=v9065)∧
 (lV_ tab 3 v68 H14 fun v9069=>
 v69=v9069)∧
 (lV_ tab 3 v70 H14 fun v9071=>
 v71=v9071)∧
 (lV_ tab 3 v73 H14 fun v9074=>
 v74=v9074)∧
 (lV_ tab 22 v76 H14 fun v9077=>
 v77=v9077)∧
 aP_ tab 22 22 v77 v86 H14 (wkK fun v87 H15=>
 (lV_ tab 3 v59 H15 fun v9060=>
 v60=v9060)∧
 (lV_ tab 3 v61 H15 fun v9062=>
 v62=v9062)∧
 (lV_ tab 3 v64 H15 fun v9065=>
 v65=v9065)∧
 iA_ tab 24 v8 v66 fun v88=>
 sV_ tab 22 v88 v87 H15 fun H16=>
 binV tab .add 3 v49 (AV.p (.int .i64 1)) fun v89=>
 N2 v89 H16)))
 (binV tab .add 3 v49 (AV.p (.int .i64 1)) fun v89=>
 N2 v89 H13))
 (binV tab .add 3 v42 (AV.p (.int .i64 1)) fun v90=>
 N1 v90 H)
def L24_2 (K:AV→Heap→Prop) (v6:AV) (v7:AV) (v8:AV) (v13:AV) (v92:AV) (v93:AV) (v94:AV) (H:Heap):Prop:=LoopV (wpC Tryz.prog tab D24 (cAt [1,1,1,1,1,1,1,0,1,0,0] (bO_ Tryz.f24))) [6,7,8,92,93] (PostF.block 4 (PostF.thenA (wpC Tryz.prog tab D24 (cAt [1,1,1,1,1,1,1,1] (bO_ Tryz.f24))) (retF tab [.tmp 4,.tmp 5] K))) [13,94] [Q_,Q_,Q_,Q_,Q_,Q_,v6,v7,v8,Q_,Q_,Q_,Q_,v13,Q_,Q_,Q_,Q_,Q_,Q_,Q_,Q_,Q_,Q_,Q_,Q_,Q_,Q_,Q_,Q_,Q_,Q_,Q_,Q_,Q_,Q_,Q_,Q_,Q_,Q_,Q_,Q_,Q_,Q_,Q_,Q_,Q_,Q_,Q_,Q_,Q_,Q_,Q_,Q_,Q_,Q_,Q_,Q_,Q_,Q_,Q_,Q_,Q_,Q_,Q_,Q_,Q_,Q_,Q_,Q_,Q_,Q_,Q_,Q_,Q_,Q_,Q_,Q_,Q_,Q_,Q_,Q_,Q_,Q_,Q_,Q_,Q_,Q_,Q_,Q_,Q_,Q_,v92,v93,v94,Q_,Q_,Q_,Q_,Q_,Q_,Q_,Q_,Q_,Q_,Q_,Q_,Q_,Q_,Q_,Q_,Q_,Q_,Q_,Q_,Q_,Q_,Q_,Q_,Q_,Q_,Q_,Q_,Q_,Q_,Q_,Q_,Q_,Q_,Q_,Q_,Q_,Q_,Q_,Q_,Q_,Q_,Q_,Q_,Q_,Q_,Q_,Q_] H
def L24_3 (K:AV→Heap→Prop) (v6:AV) (v7:AV) (v8:AV) (v13:AV) (v110:AV) (v111:AV) (v112:AV) (H:Heap):Prop:=LoopV (wpC Tryz.prog tab D24 (cAt [1,1,1,1,1,1,1,1,0,1,0,0] (bO_ Tryz.f24))) [6,7,8,110,111] (PostF.block 6 (PostF.thenA (wpC Tryz.prog tab D24 (cAt [1,1,1,1,1,1,1,1,1] (bO_ Tryz.f24))) (retF tab [.tmp 4,.tmp 5] K))) [13,112] [Q_,Q_,Q_,Q_,Q_,Q_,v6,v7,v8,Q_,Q_,Q_,Q_,v13,Q_,Q_,Q_,Q_,Q_,Q_,Q_,Q_,Q_,Q_,Q_,Q_,Q_,Q_,Q_,Q_,Q_,Q_,Q_,Q_,Q_,Q_,Q_,Q_,Q_,Q_,Q_,Q_,Q_,Q_,Q_,Q_,Q_,Q_,Q_,Q_,Q_,Q_,Q_,Q_,Q_,Q_,Q_,Q_,Q_,Q_,Q_,Q_,Q_,Q_,Q_,Q_,Q_,Q_,Q_,Q_,Q_,Q_,Q_,Q_,Q_,Q_,Q_,Q_,Q_,Q_,Q_,Q_,Q_,Q_,Q_,Q_,Q_,Q_,Q_,Q_,Q_,Q_,Q_,Q_,Q_,Q_,Q_,Q_,Q_,Q_,Q_,Q_,Q_,Q_,Q_,Q_,Q_,Q_,Q_,Q_,v110,v111,v112,Q_,Q_,Q_,Q_,Q_,Q_,Q_,Q_,Q_,Q_,Q_,Q_,Q_,Q_,Q_,Q_,Q_,Q_,Q_,Q_,Q_,Q_,Q_,Q_,Q_,Q_,Q_,Q_,Q_,Q_] H
def B24_3 (K:AV→Heap→Prop) (N1:AV→AV→Heap→Prop) (v6:AV) (v7:AV) (v8:AV) (v13:AV) (v110:AV) (v111:AV) (v112:AV) (H:Heap):Prop:=
 binV tab .lss 3 v112 v111 fun v113=>
 cV_ v113 (iA_ tab 24 v110 v112 fun v114=>
 lV_ tab 22 v114 H fun v115=>
 fA_ tab 34 v6 0 fun v117=>
 lV_ tab 3 v117 H fun v118=>
 fA_ tab 34 v7 0 fun v121=>
 lV_ tab 3 v121 H fun v122=>
 CallT Tryz.prog 59 [v118] H fun v119 H21=>
 (lV_ tab 3 v121 H21 fun v9122=>
 v122=v9122)∧
 CallT Tryz.prog 58 [v119,v115,v122] H21 fun v123 H22=>
 bS_ tab 24 1 [(0,v123)] H22 (wkK fun v124 H23=>
 aP_ tab 24 24 v13 v124 H23 (wkK fun v125 H24=>
 binV tab .add 3 v112 (AV.p (.int .i64 1)) fun v126=>
 N1 v125 v126 H24)))
 (fA_ tab 34 v6 1 fun v129=>
 lV_ tab 22 v129 H fun v130=>
 fA_ tab 34 v7 1 fun v131=>
 lV_ tab 22 v131 H fun v132=>
 fA_ tab 34 v7 0 fun v133=>
 lV_ tab 3 v133 H fun v134=>
 CallT Tryz.prog 58 [v130,v132,v134] H fun v135 H25=>
 CallT Tryz.prog 30 [v8,v135,v13] H25 fun v137 H26=>
 xV_ v137 0 fun v138=>
 xV_ v137 1 fun v139=>
 xV_ v137 2 fun v140=>
 unV .not v140 fun v142=>
 K (.tup [v142,(AV.p (.bool true))]) H26)
def B24_2 (K:AV→Heap→Prop) (N1:AV→AV→Heap→Prop) (v6:AV) (v7:AV) (v8:AV) (v13:AV) (v92:AV) (v93:AV) (v94:AV) (H:Heap):Prop:=
 binV tab .lss 3 v94 v93 fun v95=>
 cV_ v95 (iA_ tab 24 v92 v94 fun v96=>
 lV_ tab 22 v96 H fun v97=>
 fA_ tab 34 v7 0 fun v100=>
 lV_ tab 3 v100 H fun v101=>
 fA_ tab 34 v7 0 fun v103=>
 lV_ tab 3 v103 H fun v104=>
 CallT Tryz.prog 59 [v101] H fun v102 H17=>
 (lV_ tab 3 v103 H17 fun v9104=>
 v104=v9104)∧
 CallT Tryz.prog 58 [v97,v102,v104] H17 fun v105 H18=>
 bS_ tab 24 1 [(0,v105)] H18 (wkK fun v106 H19=>
 aP_ tab 24 24 v13 v106 H19 (wkK fun v107 H20=>
 binV tab .add 3 v94 (AV.p (.int .i64 1)) fun v108=>
 N1 v107 v108 H20)))
 (fA_ tab 34 v7 3 fun v109=>
 lV_ tab 24 v109 H fun v110=>
 lenV tab 24 v110 fun v111=>
 L24_3 K v6 v7 v8 v13 v110 v111 (AV.p (.int .i64 0)) H)
def B24_0 (K:AV→Heap→Prop) (N1:AV→Heap→Prop) (v6:AV) (v7:AV) (v8:AV) (v40:AV) (v41:AV) (v42:AV) (H:Heap):Prop:=
 binV tab .lss 3 v42 v41 fun v43=>
 cV_ v43 (iA_ tab 32 v40 v42 fun v44=>
 lV_ tab 84 v44 H fun v45=>
 allocV tab 84 H fun v10 H10=>
 sV_ tab 84 v10 v45 H10 fun H11=>
 fA_ tab 34 v7 2 fun v46=>
 lV_ tab 32 v46 H11 fun v47=>
 lenV tab 32 v47 fun v48=>
 L24_1 K N1 v6 v7 v8 v10 v40 v41 v42 v47 v48 (AV.p (.int .i64 0)) H11)
 (fA_ tab 34 v6 3 fun v91=>
 lV_ tab 24 v91 H fun v92=>
 lenV tab 24 v92 fun v93=>
 L24_2 K v6 v7 v8 (AV.p .nil) v92 v93 (AV.p (.int .i64 0)) H)
def W24 (v0:AV) (v1:AV) (H:Heap) (K:AV→Heap→Prop):Prop:=
 CallT Tryz.prog 51 [v0] H fun v22 H1=>
 unV .not v22 fun v23=>
 grdV v23 false (CallT Tryz.prog 51 [v1] H1 fun v26 H2=>
 unV .not v26 fun v27=>
 cV_ v27 (K (.tup [(AV.p (.bool false)),(AV.p (.bool false))]) H2)
 (CallT Tryz.prog 53 [v0,(AV.p (.bool false))] H2 fun v30 H3=>
 allocV tab 34 H3 fun v6 H4=>
 sV_ tab 34 v6 v30 H4 fun H5=>
 CallT Tryz.prog 53 [v1,(AV.p (.bool true))] H5 fun v32 H6=>
 allocV tab 34 H6 fun v7 H7=>
 sV_ tab 34 v7 v32 H7 fun H8=>
 fA_ tab 34 v6 0 fun v33=>
 lV_ tab 3 v33 H8 fun v34=>
 fA_ tab 34 v7 0 fun v35=>
 lV_ tab 3 v35 H8 fun v36=>
 binV tab .mul 3 v34 v36 fun v37=>
 mS_ tab 24 v37 v37 H8 fun v38 H9=>
 fA_ tab 34 v6 2 fun v39=>
 lV_ tab 32 v39 H9 fun v40=>
 lenV tab 32 v40 fun v41=>
 L24_0 K v6 v7 v38 v40 v41 (AV.p (.int .i64 0)) H9))
 (K (.tup [(AV.p (.bool false)),(AV.p (.bool false))]) H1)
theorem W24_wp (v0:AV) (v1:AV) (H:Heap) (K:AV→Heap→Prop):wpC Tryz.prog tab D24 (bO_ Tryz.f24) (retF tab [.tmp 4,.tmp 5] K) (nthA [v0,v1]) H=W24 v0 v1 H K:=by kernel_rfl
theorem W24_ok {v0 v1:AV} {H:Heap} {K:AV→Heap→Prop} (h:W24 v0 v1 H K):CallT Tryz.prog 24 [v0,v1] H K:=
 CallT.of_wp (D:=D24) tO_ mixed Tryz.func24 (c:=bO_ Tryz.f24) (by kernel_rfl) rfl (by kernel_rfl) (rs:=#[.tmp 4,.tmp 5]) rfl (by decide +kernel) (by kernel_rfl) (W24_wp v0 v1 H K) h
theorem W24_hb:HasBody Tryz.prog 24:=⟨_,bO_ Tryz.f24,Tryz.func24,by kernel_rfl,rfl⟩
theorem L24_1_rule {K:AV→Heap→Prop} {N1:AV→Heap→Prop} {v6 v7 v8 v10 v40 v41 v42 v47 v48 v49:AV} {H:Heap} {σ:Type} (s0:σ) (f49:σ→AV) (TH:σ→Heap) (pre:σ→Prop) (μ:σ→Nat)
  (h0:pre s0∧AV.wk v49 (f49 s0)∧Heap.le (TH s0) H)
  (round:∀s,pre s→B24_1 K N1 (fun w49 H'=>∃s',pre s'∧μ s' < μ s∧AV.wk w49 (f49 s')∧Heap.le (TH s') H') v6 v7 v8 v10 v40 v41 v42 v47 v48 (f49 s) (TH s)) :
  L24_1 K N1 v6 v7 v8 v10 v40 v41 v42 v47 v48 v49 H:=by
 unfold L24_1
 exact LoopV.mk s0 (fun s=>[f49 s]) TH pre μ (fun _=>rfl) (Eq.mp (by kernel_rfl) h0) (fun s hs=>Eq.mp (by kernel_rfl) (round s hs))
theorem L24_3_rule {K:AV→Heap→Prop} {v6 v7 v8 v13 v110 v111 v112:AV} {H:Heap} {σ:Type} (s0:σ) (f13:σ→AV) (f112:σ→AV) (TH:σ→Heap) (pre:σ→Prop) (μ:σ→Nat)
  (h0:pre s0∧AV.wk v13 (f13 s0)∧AV.wk v112 (f112 s0)∧Heap.le (TH s0) H)
  (round:∀s,pre s→B24_3 K (fun w13 w112 H'=>∃s',pre s'∧μ s' < μ s∧AV.wk w13 (f13 s')∧AV.wk w112 (f112 s')∧Heap.le (TH s') H') v6 v7 v8 (f13 s) v110 v111 (f112 s) (TH s)) :
  L24_3 K v6 v7 v8 v13 v110 v111 v112 H:=by
 unfold L24_3
 exact LoopV.mk s0 (fun s=>[f13 s,f112 s]) TH pre μ (fun _=>rfl) (Eq.mp (by kernel_rfl) h0) (fun s hs=>Eq.mp (by kernel_rfl) (round s hs))
theorem L24_2_rule {K:AV→Heap→Prop} {v6 v7 v8 v13 v92 v93 v94:AV} {H:Heap} {σ:Type} (s0:σ) (f13:σ→AV) (f94:σ→AV) (TH:σ→Heap) (pre:σ→Prop) (μ:σ→Nat)
  (h0:pre s0∧AV.wk v13 (f13 s0)∧AV.wk v94 (f94 s0)∧Heap.le (TH s0) H)
  (round:∀s,pre s→B24_2 K (fun w13 w94 H'=>∃s',pre s'∧μ s' < μ s∧AV.wk w13 (f13 s')∧AV.wk w94 (f94 s')∧Heap.le (TH s') H') v6 v7 v8 (f13 s) v92 v93 (f94 s) (TH s)) :
  L24_2 K v6 v7 v8 v13 v92 v93 v94 H:=by
 unfold L24_2
 exact LoopV.mk s0 (fun s=>[f13 s,f94 s]) TH pre μ (fun _=>rfl) (Eq.mp (by kernel_rfl) h0) (fun s hs=>Eq.mp (by kernel_rfl) (round s hs))
theorem L24_0_rule {K:AV→Heap→Prop} {v6 v7 v8 v40 v41 v42:AV} {H:Heap} {σ:Type} (s0:σ) (f42:σ→AV) (TH:σ→Heap) (pre:σ→Prop) (μ:σ→Nat)
  (h0:pre s0∧AV.wk v42 (f42 s0)∧Heap.le (TH s0) H)
  (round:∀s,pre s→B24_0 K (fun w42 H'=>∃s',pre s'∧μ s' < μ s∧AV.wk w42 (f42 s')∧Heap.le (TH s') H') v6 v7 v8 v40 v41 (f42 s) (TH s)) :
  L24_0 K v6 v7 v8 v40 v41 v42 H:=by
 unfold L24_0
 exact LoopV.mk s0 (fun s=>[f42 s]) TH pre μ (fun _=>rfl) (Eq.mp (by kernel_rfl) h0) (fun s hs=>Eq.mp (by kernel_rfl) (round s hs))
def D25:Info:=⟨28,fun i=>if i=4 then ([[],[0],[],[2],[],[4],[0,1,2,3,4,5],[0,1,2,3,4,5,6],[0,1,2,3,4,5,6,7],[0,1,2,3,4,5,6,7,8]],[(0,[]),(2,[]),(3,[]),(4,[]),(5,[]),(1,[3,5]),(6,[]),(7,[]),(8,[]),(9,[])]) else ([],[]),fun i=>([],[])⟩
def W25 (v0:AV) (v1:AV) (H:Heap) (K:AV→Heap→Prop):Prop:=
 CallT Tryz.prog 60 [v0] H fun v8 H1=>
 unV .not v8 fun v9=>
 grdV v9 false (CallT Tryz.prog 60 [v1] H1 fun v12 H2=>
 unV .not v12 fun v13=>
 cV_ v13 (K (.tup [(AV.p (.bool false)),(AV.p (.bool false))]) H2)
 (CallT Tryz.prog 62 [v0,(AV.p (.bool true))] H2 fun v16 H3=>
 CallT Tryz.prog 62 [v1,(AV.p (.bool false))] H3 fun v18 H4=>
 CallT Tryz.prog 61 [v16,v18] H4 fun v19 H5=>
 allocV tab 34 H5 fun v6 H6=>
 sV_ tab 34 v6 v19 H6 fun H7=>
 lV_ tab 34 v6 H7 fun v20=>
 fA_ tab 34 v6 1 fun v22=>
 lV_ tab 22 v22 H7 fun v23=>
 fA_ tab 34 v6 3 fun v24=>
 lV_ tab 24 v24 H7 fun v25=>
 CallT Tryz.prog 40 [v20] H7 fun v21 H8=>
 (lV_ tab 22 v22 H8 fun v9023=>
 v23=v9023)∧
 (lV_ tab 24 v24 H8 fun v9025=>
 v25=v9025)∧
 CallT Tryz.prog 56 [v21,v23,v25] H8 fun v26 H9=>
 binV tab .lss 3 v26 (AV.p (.int .i64 0)) fun v27=>
 K (.tup [v27,(AV.p (.bool true))]) H9))
 (K (.tup [(AV.p (.bool false)),(AV.p (.bool false))]) H1)
theorem W25_wp (v0:AV) (v1:AV) (H:Heap) (K:AV→Heap→Prop):wpC Tryz.prog tab D25 (bO_ Tryz.f25) (retF tab [.tmp 4,.tmp 5] K) (nthA [v0,v1]) H=W25 v0 v1 H K:=by kernel_rfl
theorem W25_ok {v0 v1:AV} {H:Heap} {K:AV→Heap→Prop} (h:W25 v0 v1 H K):CallT Tryz.prog 25 [v0,v1] H K:=
 CallT.of_wp (D:=D25) tO_ mixed Tryz.func25 (c:=bO_ Tryz.f25) (by kernel_rfl) rfl (by kernel_rfl) (rs:=#[.tmp 4,.tmp 5]) rfl (by decide +kernel) (by kernel_rfl) (W25_wp v0 v1 H K) h
def D30:Info:=⟨147,fun i=>if i=6 then ([[],[],[0,1],[0,1,2],[0,1,2,3],[0,1,2,3,4],[0,1,2,3,4,5],[0,1,2,3,4,5,6],[0,1,2,3,4,5,6,7],[0,1,2,3,4,5,6,7,8],[0,1,2,3,4,5,6,7,8],[0,1,2,3,4,5,6,7,8,9,10],[0,1,2,3,4,5,6,7,8,9,10,11],[0,1,2,3,4,5,6,7,8],[0,1,2,3,4,5,6,7,8],[0,1,2,3,4,5,6,7,8,13,14],[0,1,2,3,4,5,6,7,8,13,14,15],[0,1,2,3,4,5,6,7,8,9,10,11,12,13,14,15,16],[0,1,2,3,4,5,6,7,8,9,10,11,12,13,14,15,16,17],[0,1,2,3,4,5,6,7,8,9,10,11,12,13,14,15,16,17,18]],[(0,[]),(1,[]),(2,[]),(3,[]),(4,[]),(5,[]),(6,[]),(7,[]),(8,[]),(9,[]),(10,[]),(11,[]),(12,[]),(13,[]),(14,[]),(15,[]),(16,[]),(17,[]),(18,[]),(19,[])]) else if i=22 then ([[],[],[0,1],[0,1,2],[],[],[4,5],[4,5,6],[0,1,2,3,4,5,6,7]],[(0,[]),(1,[]),(2,[]),(3,[]),(4,[]),(5,[]),(6,[]),(7,[]),(8,[])]) else if i=29 then ([[],[],[1],[1,2],[0,1,2,3],[],[],[],[7],[7,8],[6,7,8,9],[5,6,7,8,9,10],[0,1,2,3,4,5,6,7,8,9,10,11],[0,1,2,3,4,5,6,7,8,9,10,11,12],[0,1,2,3,4,5,6,7,8,9,10,11,12,13]],[(0,[]),(1,[]),(2,[]),(3,[]),(4,[]),(5,[]),(6,[]),(7,[]),(8,[]),(9,[]),(10,[]),(11,[]),(12,[]),(13,[]),(14,[])]) else ([],[]),fun i=>if i=4 then ([0,1,2,9,32,33],[10,34]) else if i=16 then ([10,13,15,16,77,78],[17,79]) else if i=20 then ([10,13,15,16,17,77,78,79,83,84],[20,85]) else ([],[])⟩
def L30_0 (K:AV→Heap→Prop) (v0:AV) (v1:AV) (v2:AV) (v9:AV) (v10:AV) (v32:AV) (v33:AV) (v34:AV) (H:Heap):Prop:=LoopV (wpC Tryz.prog tab D30 (cAt [1,1,1,0,1,0,0] (bO_ Tryz.f30))) [0,1,2,9,32,33] (PostF.block 0 (PostF.thenA (wpC Tryz.prog tab D30 (cAt [1,1,1,1] (bO_ Tryz.f30))) (retF tab [.tmp 6,.tmp 7,.tmp 8] K))) [10,34] [v0,v1,v2,Q_,Q_,Q_,Q_,Q_,Q_,v9,v10,Q_,Q_,Q_,Q_,Q_,Q_,Q_,Q_,Q_,Q_,Q_,Q_,Q_,Q_,Q_,Q_,Q_,Q_,Q_,Q_,Q_,v32,v33,v34,Q_,Q_,Q_,Q_,Q_,Q_,Q_,Q_,Q_,Q_,Q_,Q_,Q_,Q_,Q_,Q_,Q_,Q_,Q_,Q_,Q_,Q_,Q_,Q_,Q_,Q_,Q_,Q_,Q_,Q_,Q_,Q_,Q_,Q_,Q_,Q_,Q_,Q_,Q_,Q_,Q_,Q_,Q_,Q_,Q_,Q_,Q_,Q_,Q_,Q_,Q_,Q_,Q_,Q_,Q_,Q_,Q_,Q_,Q_,Q_,Q_,Q_,Q_,Q_,Q_,Q_,Q_,Q_,Q_,Q_,Q_,Q_,Q_,Q_,Q_,Q_,Q_,Q_,Q_,Q_,Q_,Q_,Q_,Q_,Q_,Q_,Q_,Q_,Q_,Q_,Q_,Q_,Q_,Q_,Q_,Q_,Q_,Q_,Q_,Q_,Q_,Q_,Q_,Q_,Q_,Q_,Q_,Q_,Q_,Q_,Q_,Q_] H
def L30_1 (K:AV→Heap→Prop) (v10:AV) (v13:AV) (v15:AV) (v16:AV) (v17:AV) (v77:AV) (v78:AV) (v79:AV) (H:Heap):Prop:=LoopV (wpC Tryz.prog tab D30 (cAt [1,1,1,1,1,1,1,1,1,0,1,0,0] (bO_ Tryz.f30))) [10,13,15,16,77,78] (PostF.block 2 (PostF.thenA (wpC Tryz.prog tab D30 (cAt [1,1,1,1,1,1,1,1,1,1] (bO_ Tryz.f30))) (retF tab [.tmp 6,.tmp 7,.tmp 8] K))) [17,79] [Q_,Q_,Q_,Q_,Q_,Q_,Q_,Q_,Q_,Q_,v10,Q_,Q_,v13,Q_,v15,v16,v17,Q_,Q_,Q_,Q_,Q_,Q_,Q_,Q_,Q_,Q_,Q_,Q_,Q_,Q_,Q_,Q_,Q_,Q_,Q_,Q_,Q_,Q_,Q_,Q_,Q_,Q_,Q_,Q_,Q_,Q_,Q_,Q_,Q_,Q_,Q_,Q_,Q_,Q_,Q_,Q_,Q_,Q_,Q_,Q_,Q_,Q_,Q_,Q_,Q_,Q_,Q_,Q_,Q_,Q_,Q_,Q_,Q_,Q_,Q_,v77,v78,v79,Q_,Q_,Q_,Q_,Q_,Q_,Q_,Q_,Q_,Q_,Q_,Q_,Q_,Q_,Q_,Q_,Q_,Q_,Q_,Q_,Q_,Q_,Q_,Q_,Q_,Q_,Q_,Q_,Q_,Q_,Q_,Q_,Q_,Q_,Q_,Q_,Q_,Q_,Q_,Q_,Q_,Q_,Q_,Q_,Q_,Q_,Q_,Q_,Q_,Q_,Q_,Q_,Q_,Q_,Q_,Q_,Q_,Q_,Q_,Q_,Q_,Q_,Q_,Q_,Q_,Q_,Q_] H
def L30_2 (K:AV→Heap→Prop) (N1:AV→AV→Heap→Prop) (v10:AV) (v13:AV) (v15:AV) (v16:AV) (v17:AV) (v20:AV) (v77:AV) (v78:AV) (v79:AV) (v83:AV) (v84:AV) (v85:AV) (H:Heap):Prop:=LoopV (wpC Tryz.prog tab D30 (cAt [1,1,1,1,1,1,1,1,1,0,1,0,0,1,1,0,0,1,1,0,1,0,0] (bO_ Tryz.f30))) [10,13,15,16,17,77,78,79,83,84] (PostF.block 4 (PostF.thenA (wpC Tryz.prog tab D30 (cAt [1,1,1,1,1,1,1,1,1,0,1,0,0,1,1,0,0,1,1,1] (bO_ Tryz.f30))) (PostF.block 3 (PostF.thenA (wpC Tryz.prog tab D30 (cAt [1,1,1,1,1,1,1,1,1,0,1,0,0,1,1,1] (bO_ Tryz.f30))) (loopF (PostF.block 2 (PostF.thenA (wpC Tryz.prog tab D30 (cAt [1,1,1,1,1,1,1,1,1,1] (bO_ Tryz.f30))) (retF tab [.tmp 6,.tmp 7,.tmp 8] K))) (fun e h=>N1 (e 17) (e 79) h)))))) [20,85] [Q_,Q_,Q_,Q_,Q_,Q_,Q_,Q_,Q_,Q_,v10,Q_,Q_,v13,Q_,v15,v16,v17,Q_,Q_,v20,Q_,Q_,Q_,Q_,Q_,Q_,Q_,Q_,Q_,Q_,Q_,Q_,Q_,Q_,Q_,Q_,Q_,Q_,Q_,Q_,Q_,Q_,Q_,Q_,Q_,Q_,Q_,Q_,Q_,Q_,Q_,Q_,Q_,Q_,Q_,Q_,Q_,Q_,Q_,Q_,Q_,Q_,Q_,Q_,Q_,Q_,Q_,Q_,Q_,Q_,Q_,Q_,Q_,Q_,Q_,Q_,v77,v78,v79,Q_,Q_,Q_,v83,v84,v85,Q_,Q_,Q_,Q_,Q_,Q_,Q_,Q_,Q_,Q_,Q_,Q_,Q_,Q_,Q_,Q_,Q_,Q_,Q_,Q_,Q_,Q_,Q_,Q_,Q_,Q_,Q_,Q_,Q_,Q_,Q_,Q_,Q_,Q_,Q_,Q_,Q_,Q_,Q_,Q_,Q_,Q_,Q_,Q_,Q_,Q_,Q_,Q_,Q_,Q_,Q_,Q_,Q_,Q_,Q_,Q_,Q_,Q_,Q_,Q_,Q_] H
def B30_2 (K:AV→Heap→Prop) (N1:AV→AV→Heap→Prop) (N2:AV→AV→Heap→Prop) (v10:AV) (v13:AV) (v15:AV) (v16:AV) (v17:AV) (v20:AV) (v77:AV) (v78:AV) (v79:AV) (v83:AV) (v84:AV) (v85:AV) (H:Heap):Prop:=
 binV tab .lss 3 v85 v84 fun v86=>
 cV_ v86 (iA_ tab 22 v83 v85 fun v87=>
 lV_ tab 3 v87 H fun v88=>
 iA_ tab 22 v15 v88 fun v91=>
 lV_ tab 3 v91 H fun v92=>
 iA_ tab 22 v15 v10 fun v95=>
 lV_ tab 3 v95 H fun v96=>
 binV tab .eql 3 v92 v96 fun v97=>
 cV_ v97 (bS_ tab 22 1 [(0,v88)] H (wkK fun v100 H8=>
 aP_ tab 22 22 v20 v100 H8 (wkK fun v101 H9=>
 binV tab .add 3 v85 (AV.p (.int .i64 1)) fun v102=>
 N2 v101 v102 H9)))
 (binV tab .add 3 v85 (AV.p (.int .i64 1)) fun v102=>
 N2 v20 v102 H))
 (lenV tab 22 v17 fun v107=>
 binV tab .sub 3 v107 (AV.p (.int .i64 1)) fun v108=>
 sliceV tab 22 v17 (some v108) none none fun v109=>
 CallT Tryz.prog 69 [v16,v109,v20] H fun v111 H10=>
 xV_ v111 0 fun v112=>
 xV_ v111 1 fun v113=>
 sliceV tab 22 v112 (some (AV.p (.int .i64 1))) none none fun v116=>
 aP_ tab 22 22 v17 v116 H10 (wkK fun v117 H11=>
 binV tab .add 3 v79 (AV.p (.int .i64 1)) fun v118=>
 N1 v117 v118 H11))
def B30_1 (K:AV→Heap→Prop) (N1:AV→AV→Heap→Prop) (v10:AV) (v13:AV) (v15:AV) (v16:AV) (v17:AV) (v77:AV) (v78:AV) (v79:AV) (H:Heap):Prop:=
 binV tab .lss 3 v79 v78 fun v80=>
 cV_ v80 (iA_ tab 24 v77 v79 fun v81=>
 lV_ tab 22 v81 H fun v82=>
 lenV tab 22 v82 fun v84=>
 L30_2 K N1 v10 v13 v15 v16 v17 (AV.p .nil) v77 v78 v79 v82 v84 (AV.p (.int .i64 0)) H)
 (lenV tab 22 v17 fun v124=>
 binV tab .sub 3 v124 (AV.p (.int .i64 1)) fun v125=>
 iA_ tab 22 v17 v125 fun v126=>
 lV_ tab 3 v126 H fun v127=>
 iA_ tab 24 v16 v127 fun v128=>
 lV_ tab 22 v128 H fun v129=>
 bS_ tab 22 1 [(0,v10)] H (wkK fun v131 H12=>
 CallT Tryz.prog 69 [v16,v129,v131] H12 fun v132 H13=>
 xV_ v132 0 fun v133=>
 xV_ v132 1 fun v134=>
 lenV tab 22 v13 fun v137=>
 binV tab .sub 3 v137 (AV.p (.int .i64 1)) fun v138=>
 sliceV tab 22 v13 none (some v138) none fun v139=>
 lenV tab 22 v133 fun v143=>
 binV tab .sub 3 v143 (AV.p (.int .i64 1)) fun v144=>
 sliceV tab 22 v133 none (some v144) none fun v145=>
 aP_ tab 22 22 v17 v145 H13 (wkK fun v146 H14=>
 K (.tup [v139,v146,(AV.p (.bool true))]) H14)))
def B30_0 (K:AV→Heap→Prop) (N1:AV→AV→Heap→Prop) (v0:AV) (v1:AV) (v2:AV) (v9:AV) (v10:AV) (v32:AV) (v33:AV) (v34:AV) (H:Heap):Prop:=
 binV tab .lss 3 v34 v33 fun v35=>
 cV_ v35 (iA_ tab 22 v32 v34 fun v36=>
 lV_ tab 3 v36 H fun v37=>
 iA_ tab 22 v9 v37 fun v40=>
 lV_ tab 3 v40 H fun v41=>
 binV tab .geq 3 v41 (AV.p (.int .i64 0)) fun v42=>
 grdV v42 true (binV tab .lss 3 v10 (AV.p (.int .i64 0)) fun v45=>
 grdV v45 false (iA_ tab 22 v9 v37 fun v49=>
 lV_ tab 3 v49 H fun v50=>
 iA_ tab 22 v9 v10 fun v53=>
 lV_ tab 3 v53 H fun v54=>
 binV tab .lss 3 v50 v54 fun v55=>
 cV_ v55 (binV tab .add 3 v34 (AV.p (.int .i64 1)) fun v59=>
 N1 v37 v59 H)
 (binV tab .add 3 v34 (AV.p (.int .i64 1)) fun v59=>
 N1 v10 v59 H))
 (binV tab .add 3 v34 (AV.p (.int .i64 1)) fun v59=>
 N1 v37 v59 H))
 (binV tab .add 3 v34 (AV.p (.int .i64 1)) fun v59=>
 N1 v10 v59 H))
 (binV tab .lss 3 v10 (AV.p (.int .i64 0)) fun v61=>
 cV_ v61 (K (.tup [(AV.p .nil),(AV.p .nil),(AV.p (.bool false))]) H)
 (bS_ tab 22 1 [(0,v10)] H (wkK fun v66 H3=>
 CallT Tryz.prog 69 [v0,v1,v66] H3 fun v67 H4=>
 xV_ v67 0 fun v68=>
 xV_ v67 1 fun v69=>
 CallT Tryz.prog 70 [v0] H4 fun v71 H5=>
 CallT Tryz.prog 71 [v0,v71] H5 fun v74 H6=>
 bS_ tab 22 1 [(0,v10)] H6 (wkK fun v76 H7=>
 lenV tab 24 v2 fun v78=>
 L30_1 K v10 v68 v71 v74 v76 v2 v78 (AV.p (.int .i64 0)) H7))))
def W30 (v0:AV) (v1:AV) (v2:AV) (H:Heap) (K:AV→Heap→Prop):Prop:=
 CallT Tryz.prog 67 [v0,v1] H fun v29 H1=>
 CallT Tryz.prog 68 [v0,v2] H1 fun v32 H2=>
 lenV tab 22 v32 fun v33=>
 L30_0 K v0 v1 v2 v29 (AV.p (.int .i64 (-1))) v32 v33 (AV.p (.int .i64 0)) H2
theorem W30_wp (v0:AV) (v1:AV) (v2:AV) (H:Heap) (K:AV→Heap→Prop):wpC Tryz.prog tab D30 (bO_ Tryz.f30) (retF tab [.tmp 6,.tmp 7,.tmp 8] K) (nthA [v0,v1,v2]) H=W30 v0 v1 v2 H K:=by kernel_rfl
theorem W30_ok {v0 v1 v2:AV} {H:Heap} {K:AV→Heap→Prop} (h:W30 v0 v1 v2 H K):CallT Tryz.prog 30 [v0,v1,v2] H K:=
 CallT.of_wp (D:=D30) tO_ mixed Tryz.func30 (c:=bO_ Tryz.f30) (by kernel_rfl) rfl (by kernel_rfl) (rs:=#[.tmp 6,.tmp 7,.tmp 8]) rfl (by decide +kernel) (by kernel_rfl) (W30_wp v0 v1 v2 H K) h
theorem L30_2_rule {K:AV→Heap→Prop} {N1:AV→AV→Heap→Prop} {v10 v13 v15 v16 v17 v20 v77 v78 v79 v83 v84 v85:AV} {H:Heap} {σ:Type} (s0:σ) (f20:σ→AV) (f85:σ→AV) (TH:σ→Heap) (pre:σ→Prop) (μ:σ→Nat)
  (h0:pre s0∧AV.wk v20 (f20 s0)∧AV.wk v85 (f85 s0)∧Heap.le (TH s0) H)
  (round:∀s,pre s→B30_2 K N1 (fun w20 w85 H'=>∃s',pre s'∧μ s' < μ s∧AV.wk w20 (f20 s')∧AV.wk w85 (f85 s')∧Heap.le (TH s') H') v10 v13 v15 v16 v17 (f20 s) v77 v78 v79 v83 v84 (f85 s) (TH s)) :
  L30_2 K N1 v10 v13 v15 v16 v17 v20 v77 v78 v79 v83 v84 v85 H:=by
 unfold L30_2
 exact LoopV.mk s0 (fun s=>[f20 s,f85 s]) TH pre μ (fun _=>rfl) (Eq.mp (by kernel_rfl) h0) (fun s hs=>Eq.mp (by kernel_rfl) (round s hs))
theorem L30_1_rule {K:AV→Heap→Prop} {v10 v13 v15 v16 v17 v77 v78 v79:AV} {H:Heap} {σ:Type} (s0:σ) (f17:σ→AV) (f79:σ→AV) (TH:σ→Heap) (pre:σ→Prop) (μ:σ→Nat)
  (h0:pre s0∧AV.wk v17 (f17 s0)∧AV.wk v79 (f79 s0)∧Heap.le (TH s0) H)
  (round:∀s,pre s→B30_1 K (fun w17 w79 H'=>∃s',pre s'∧μ s' < μ s∧AV.wk w17 (f17 s')∧AV.wk w79 (f79 s')∧Heap.le (TH s') H') v10 v13 v15 v16 (f17 s) v77 v78 (f79 s) (TH s)) :
  L30_1 K v10 v13 v15 v16 v17 v77 v78 v79 H:=by
 unfold L30_1
 exact LoopV.mk s0 (fun s=>[f17 s,f79 s]) TH pre μ (fun _=>rfl) (Eq.mp (by kernel_rfl) h0) (fun s hs=>Eq.mp (by kernel_rfl) (round s hs))
theorem L30_0_rule {K:AV→Heap→Prop} {v0 v1 v2 v9 v10 v32 v33 v34:AV} {H:Heap} {σ:Type} (s0:σ) (f10:σ→AV) (f34:σ→AV) (TH:σ→Heap) (pre:σ→Prop) (μ:σ→Nat)
  (h0:pre s0∧AV.wk v10 (f10 s0)∧AV.wk v34 (f34 s0)∧Heap.le (TH s0) H)
  (round:∀s,pre s→B30_0 K (fun w10 w34 H'=>∃s',pre s'∧μ s' < μ s∧AV.wk w10 (f10 s')∧AV.wk w34 (f34 s')∧Heap.le (TH s') H') v0 v1 v2 v9 (f10 s) v32 v33 (f34 s) (TH s)) :
  L30_0 K v0 v1 v2 v9 v10 v32 v33 v34 H:=by
 unfold L30_0
 exact LoopV.mk s0 (fun s=>[f10 s,f34 s]) TH pre μ (fun _=>rfl) (Eq.mp (by kernel_rfl) h0) (fun s hs=>Eq.mp (by kernel_rfl) (round s hs))
def D32:Info:=⟨6,fun i=>([],[]),fun i=>([],[])⟩
def W32 (v0:AV) (H:Heap) (K:AV→Heap→Prop):Prop:=
 bS_ tab 22 0 [] H (wkK fun v3 H1=>
 aP_ tab 22 22 v3 v0 H1 (wkK fun v5 H2=>
 K v5 H2))
theorem W32_wp (v0:AV) (H:Heap) (K:AV→Heap→Prop):wpC Tryz.prog tab D32 (bO_ Tryz.f32) (retF tab [.tmp 2] K) (nthA [v0]) H=W32 v0 H K:=by kernel_rfl
theorem W32_ok {v0:AV} {H:Heap} {K:AV→Heap→Prop} (h:W32 v0 H K):CallT Tryz.prog 32 [v0] H K:=
 CallT.of_wp (D:=D32) tO_ mixed Tryz.func32 (c:=bO_ Tryz.f32) (by kernel_rfl) rfl (by kernel_rfl) (rs:=#[.tmp 2]) rfl (by decide +kernel) (by kernel_rfl) (W32_wp v0 H K) h
end Go.Proofs.YtolffbcnbcjeaaaGreat
namespace Go.Proofs.YtolffbcnbcjeaaaGreat
open Go Go.Sep
attribute [local irreducible] wpC headF
def D40:Info:=⟨51,fun i=>if i=5 then ([[],[],[1],[],[],[4],[3,4,5],[3,4,5,6],[],[8],[8,9],[3,4,5,6,7,8,9,10],[0,1,2,3,4,5,6,7,8,9,10,11],[0,1,2,3,4,5,6,7,8,9,10,11,12]],[(0,[]),(1,[]),(2,[]),(3,[]),(4,[]),(5,[]),(6,[]),(7,[]),(8,[]),(9,[]),(10,[2,5,7]),(11,[2]),(12,[]),(13,[])]) else ([],[]),fun i=>if i=3 then ([3,11,12],[13]) else if i=8 then ([3,32],[33]) else ([],[])⟩
def L40_0 (K:AV→Heap→Prop) (v3:AV) (v11:AV) (v12:AV) (v13:AV) (H:Heap):Prop:=LoopV (wpC Tryz.prog tab D40 (cAt [1,1,0,1,0,0] (bO_ Tryz.f40))) [3,11,12] (PostF.block 0 (PostF.thenA (wpC Tryz.prog tab D40 (cAt [1,1,1] (bO_ Tryz.f40))) (retF tab [.tmp 2] K))) [13] [Q_,Q_,Q_,v3,Q_,Q_,Q_,Q_,Q_,Q_,Q_,v11,v12,v13,Q_,Q_,Q_,Q_,Q_,Q_,Q_,Q_,Q_,Q_,Q_,Q_,Q_,Q_,Q_,Q_,Q_,Q_,Q_,Q_,Q_,Q_,Q_,Q_,Q_,Q_,Q_,Q_,Q_,Q_,Q_,Q_,Q_,Q_,Q_,Q_,Q_] H
def L40_1 (K:AV→Heap→Prop) (v3:AV) (v32:AV) (v33:AV) (H:Heap):Prop:=LoopV (wpC Tryz.prog tab D40 (cAt [1,1,1,0,1,0,0] (bO_ Tryz.f40))) [3,32] (PostF.block 2 (PostF.thenA (wpC Tryz.prog tab D40 (cAt [1,1,1,1] (bO_ Tryz.f40))) (retF tab [.tmp 2] K))) [33] [Q_,Q_,Q_,v3,Q_,Q_,Q_,Q_,Q_,Q_,Q_,Q_,Q_,Q_,Q_,Q_,Q_,Q_,Q_,Q_,Q_,Q_,Q_,Q_,Q_,Q_,Q_,Q_,Q_,Q_,Q_,Q_,v32,v33,Q_,Q_,Q_,Q_,Q_,Q_,Q_,Q_,Q_,Q_,Q_,Q_,Q_,Q_,Q_,Q_,Q_] H
def B40_1 (K:AV→Heap→Prop) (N1:AV→Heap→Prop) (v3:AV) (v32:AV) (v33:AV) (H:Heap):Prop:=
 binV tab .lss 3 v33 v32 fun v34=>
 cV_ v34 (iA_ tab 24 v3 v33 fun v38=>
 lV_ tab 22 v38 H fun v39=>
 CallT Tryz.prog 84 [v39] H fun v40 H8=>
 iA_ tab 24 v3 v33 fun v45=>
 lV_ tab 22 v45 H8 fun v46=>
 CallT Tryz.prog 85 [v46] H8 fun v47 H9=>
 iA_ tab 24 v3 v33 fun v48=>
 sV_ tab 22 v48 v47 H9 fun H10=>
 binV tab .add 3 v33 (AV.p (.int .i64 1)) fun v49=>
 N1 v49 H10)
 (K v3 H)
def B40_0 (K:AV→Heap→Prop) (N1:AV→Heap→Prop) (v3:AV) (v11:AV) (v12:AV) (v13:AV) (H:Heap):Prop:=
 binV tab .lss 3 v13 v12 fun v14=>
 cV_ v14 (iA_ tab 32 v11 v13 fun v15=>
 lV_ tab 84 v15 H fun v16=>
 allocV tab 84 H fun v5 H3=>
 sV_ tab 84 v5 v16 H3 fun H4=>
 fA_ tab 84 v5 0 fun v18=>
 lV_ tab 3 v18 H4 fun v19=>
 fA_ tab 84 v5 0 fun v21=>
 lV_ tab 3 v21 H4 fun v22=>
 iA_ tab 24 v3 v22 fun v23=>
 lV_ tab 22 v23 H4 fun v24=>
 fA_ tab 84 v5 2 fun v25=>
 lV_ tab 3 v25 H4 fun v26=>
 bS_ tab 22 1 [(0,v26)] H4 (wkK fun v27 H5=>
 (lV_ tab 3 v18 H5 fun v9019=>
 v19=v9019)∧
 (lV_ tab 3 v21 H5 fun v9022=>
 v22=v9022)∧
 (lV_ tab 22 v23 H5 fun v9024=>
 v24=v9024)∧
 aP_ tab 22 22 v24 v27 H5 (wkK fun v28 H6=>
 (lV_ tab 3 v18 H6 fun v9019=>
 v19=v9019)∧
 iA_ tab 24 v3 v19 fun v29=>
 sV_ tab 22 v29 v28 H6 fun H7=>
 binV tab .add 3 v13 (AV.p (.int .i64 1)) fun v30=>
 N1 v30 H7)))
 (lenV tab 24 v3 fun v32=>
 L40_1 K v3 v32 (AV.p (.int .i64 0)) H)
def W40 (v0:AV) (H:Heap) (K:AV→Heap→Prop):Prop:=
 boxV v0 H fun v1 H1=>
 fA_ tab 34 v1 0 fun v7=>
 lV_ tab 3 v7 H1 fun v8=>
 mS_ tab 24 v8 v8 H1 fun v9 H2=>
 fA_ tab 34 v1 2 fun v10=>
 lV_ tab 32 v10 H2 fun v11=>
 lenV tab 32 v11 fun v12=>
 L40_0 K v9 v11 v12 (AV.p (.int .i64 0)) H2
theorem W40_wp (v0:AV) (H:Heap) (K:AV→Heap→Prop):wpC Tryz.prog tab D40 (bO_ Tryz.f40) (retF tab [.tmp 2] K) (nthA [v0]) H=W40 v0 H K:=by kernel_rfl
theorem W40_ok {v0:AV} {H:Heap} {K:AV→Heap→Prop} (h:W40 v0 H K):CallT Tryz.prog 40 [v0] H K:=
 CallT.of_wp (D:=D40) tO_ mixed Tryz.func40 (c:=bO_ Tryz.f40) (by kernel_rfl) rfl (by kernel_rfl) (rs:=#[.tmp 2]) rfl (by decide +kernel) (by kernel_rfl) (W40_wp v0 H K) h
theorem L40_1_rule {K:AV→Heap→Prop} {v3 v32 v33:AV} {H:Heap} {σ:Type} (s0:σ) (f33:σ→AV) (TH:σ→Heap) (pre:σ→Prop) (μ:σ→Nat)
  (h0:pre s0∧AV.wk v33 (f33 s0)∧Heap.le (TH s0) H)
  (round:∀s,pre s→B40_1 K (fun w33 H'=>∃s',pre s'∧μ s' < μ s∧AV.wk w33 (f33 s')∧Heap.le (TH s') H') v3 v32 (f33 s) (TH s)) :
  L40_1 K v3 v32 v33 H:=by
 unfold L40_1
 exact LoopV.mk s0 (fun s=>[f33 s]) TH pre μ (fun _=>rfl) (Eq.mp (by kernel_rfl) h0) (fun s hs=>Eq.mp (by kernel_rfl) (round s hs))
theorem L40_0_rule {K:AV→Heap→Prop} {v3 v11 v12 v13:AV} {H:Heap} {σ:Type} (s0:σ) (f13:σ→AV) (TH:σ→Heap) (pre:σ→Prop) (μ:σ→Nat)
  (h0:pre s0∧AV.wk v13 (f13 s0)∧Heap.le (TH s0) H)
  (round:∀s,pre s→B40_0 K (fun w13 H'=>∃s',pre s'∧μ s' < μ s∧AV.wk w13 (f13 s')∧Heap.le (TH s') H') v3 v11 v12 (f13 s) (TH s)) :
  L40_0 K v3 v11 v12 v13 H:=by
 unfold L40_0
 exact LoopV.mk s0 (fun s=>[f13 s]) TH pre μ (fun _=>rfl) (Eq.mp (by kernel_rfl) h0) (fun s hs=>Eq.mp (by kernel_rfl) (round s hs))
end Go.Proofs.YtolffbcnbcjeaaaGreat
namespace Go.Proofs.YtolffbcnbcjeaaaGreat
open Go Go.Sep
attribute [local irreducible] wpC headF
def D51:Info:=⟨11,fun i=>([],[]),fun i=>([],[])⟩
def W51 (v0:AV) (H:Heap) (K:AV→Heap→Prop):Prop:=
 CallT Tryz.prog 91 [v0] H fun v4 H1=>
 grdV v4 true (CallT Tryz.prog 92 [v0] H1 fun v7 H2=>
 lenV tab 22 v7 fun v8=>
 binV tab .leq 3 v8 (AV.p (.int .i64 5)) fun v9=>
 K v9 H2)
 (K (AV.p (.bool false)) H1)
theorem W51_wp (v0:AV) (H:Heap) (K:AV→Heap→Prop):wpC Tryz.prog tab D51 (bO_ Tryz.f51) (retF tab [.tmp 2] K) (nthA [v0]) H=W51 v0 H K:=by kernel_rfl
theorem W51_ok {v0:AV} {H:Heap} {K:AV→Heap→Prop} (h:W51 v0 H K):CallT Tryz.prog 51 [v0] H K:=
 CallT.of_wp (D:=D51) tO_ mixed Tryz.func51 (c:=bO_ Tryz.f51) (by kernel_rfl) rfl (by kernel_rfl) (rs:=#[.tmp 2]) rfl (by decide +kernel) (by kernel_rfl) (W51_wp v0 H K) h
def D53:Info:=⟨67,fun i=>([],[]),fun i=>if i=5 then ([0,1,4,5,6,7],[8]) else if i=10 then ([0,1,4,5,6,7,8],[9]) else if i=13 then ([0,1,4,5,6,7,8,9],[10]) else ([],[])⟩
def L53_0 (K:AV→Heap→Prop) (v0:AV) (v1:AV) (v4:AV) (v5:AV) (v6:AV) (v7:AV) (v8:AV) (H:Heap):Prop:=LoopV (wpC Tryz.prog tab D53 (cAt [1,1,1,1,0,1,0,0] (bO_ Tryz.f53))) [0,1,4,5,6,7] (PostF.block 0 (PostF.thenA (wpC Tryz.prog tab D53 (cAt [1,1,1,1,1] (bO_ Tryz.f53))) (retF tab [.cell 4 34] K))) [8] [v0,v1,Q_,Q_,v4,v5,v6,v7,v8,Q_,Q_,Q_,Q_,Q_,Q_,Q_,Q_,Q_,Q_,Q_,Q_,Q_,Q_,Q_,Q_,Q_,Q_,Q_,Q_,Q_,Q_,Q_,Q_,Q_,Q_,Q_,Q_,Q_,Q_,Q_,Q_,Q_,Q_,Q_,Q_,Q_,Q_,Q_,Q_,Q_,Q_,Q_,Q_,Q_,Q_,Q_,Q_,Q_,Q_,Q_,Q_,Q_,Q_,Q_,Q_,Q_,Q_] H
def L53_1 (K:AV→Heap→Prop) (N1:AV→Heap→Prop) (v0:AV) (v1:AV) (v4:AV) (v5:AV) (v6:AV) (v7:AV) (v8:AV) (v9:AV) (H:Heap):Prop:=LoopV (wpC Tryz.prog tab D53 (cAt [1,1,1,1,0,1,0,0,1,0,0,1,1,0,0] (bO_ Tryz.f53))) [0,1,4,5,6,7,8] (PostF.block 2 (PostF.block 1 (PostF.thenA (wpC Tryz.prog tab D53 (cAt [1,1,1,1,0,1,0,0,1,1] (bO_ Tryz.f53))) (loopF (PostF.block 0 (PostF.thenA (wpC Tryz.prog tab D53 (cAt [1,1,1,1,1] (bO_ Tryz.f53))) (retF tab [.cell 4 34] K))) (fun e h=>N1 (e 8) h))))) [9] [v0,v1,Q_,Q_,v4,v5,v6,v7,v8,v9,Q_,Q_,Q_,Q_,Q_,Q_,Q_,Q_,Q_,Q_,Q_,Q_,Q_,Q_,Q_,Q_,Q_,Q_,Q_,Q_,Q_,Q_,Q_,Q_,Q_,Q_,Q_,Q_,Q_,Q_,Q_,Q_,Q_,Q_,Q_,Q_,Q_,Q_,Q_,Q_,Q_,Q_,Q_,Q_,Q_,Q_,Q_,Q_,Q_,Q_,Q_,Q_,Q_,Q_,Q_,Q_,Q_] H
def L53_2 (K:AV→Heap→Prop) (N1:AV→Heap→Prop) (N2:AV→Heap→Prop) (v0:AV) (v1:AV) (v4:AV) (v5:AV) (v6:AV) (v7:AV) (v8:AV) (v9:AV) (v10:AV) (H:Heap):Prop:=LoopV (wpC Tryz.prog tab D53 (cAt [1,1,1,1,0,1,0,0,1,0,0,1,1,0,0,1,0,0,1,0,0] (bO_ Tryz.f53))) [0,1,4,5,6,7,8,9] (PostF.block 4 (PostF.block 3 (PostF.thenA (wpC Tryz.prog tab D53 (cAt [1,1,1,1,0,1,0,0,1,0,0,1,1,0,0,1,1] (bO_ Tryz.f53))) (loopF (PostF.block 2 (PostF.block 1 (PostF.thenA (wpC Tryz.prog tab D53 (cAt [1,1,1,1,0,1,0,0,1,1] (bO_ Tryz.f53))) (loopF (PostF.block 0 (PostF.thenA (wpC Tryz.prog tab D53 (cAt [1,1,1,1,1] (bO_ Tryz.f53))) (retF tab [.cell 4 34] K))) (fun e h=>N1 (e 8) h))))) (fun e h=>N2 (e 9) h))))) [10] [v0,v1,Q_,Q_,v4,v5,v6,v7,v8,v9,v10,Q_,Q_,Q_,Q_,Q_,Q_,Q_,Q_,Q_,Q_,Q_,Q_,Q_,Q_,Q_,Q_,Q_,Q_,Q_,Q_,Q_,Q_,Q_,Q_,Q_,Q_,Q_,Q_,Q_,Q_,Q_,Q_,Q_,Q_,Q_,Q_,Q_,Q_,Q_,Q_,Q_,Q_,Q_,Q_,Q_,Q_,Q_,Q_,Q_,Q_,Q_,Q_,Q_,Q_,Q_,Q_] H
def B53_2 (K:AV→Heap→Prop) (N1:AV→Heap→Prop) (N2:AV→Heap→Prop) (N3:AV→Heap→Prop) (v0:AV) (v1:AV) (v4:AV) (v5:AV) (v6:AV) (v7:AV) (v8:AV) (v9:AV) (v10:AV) (H:Heap):Prop:=
 binV tab .lss 3 v10 v6 fun v47=>
 cV_ v47 (CallT Tryz.prog 95 [v0,v5,v9,v10] H fun v54 H10=>
 binV tab .eql 3 v54 v8 fun v56=>
 cV_ v56 (fA_ tab 34 v7 2 fun v57=>
 lV_ tab 32 v57 H10 fun v58=>
 buildV tab 84 [(0,v8),(1,v9),(2,v10)] fun v62=>
 bS_ tab 32 1 [(0,v62)] H10 (wkK fun v63 H11=>
 aP_ tab 32 32 v58 v63 H11 (wkK fun v64 H12=>
 fA_ tab 34 v7 2 fun v65=>
 sV_ tab 32 v65 v64 H12 fun H13=>
 binV tab .add 3 v10 (AV.p (.int .i64 1)) fun v49=>
 N3 v49 H13)))
 (binV tab .add 3 v10 (AV.p (.int .i64 1)) fun v49=>
 N3 v49 H10))
 (binV tab .add 3 v9 (AV.p (.int .i64 1)) fun v44=>
 N2 v44 H)
def B53_1 (K:AV→Heap→Prop) (N1:AV→Heap→Prop) (N2:AV→Heap→Prop) (v0:AV) (v1:AV) (v4:AV) (v5:AV) (v6:AV) (v7:AV) (v8:AV) (v9:AV) (H:Heap):Prop:=
 binV tab .lss 3 v9 (AV.p (.int .i64 8)) fun v42=>
 cV_ v42 (L53_2 K N1 N2 v0 v1 v4 v5 v6 v7 v8 v9 (AV.p (.int .i64 0)) H)
 (binV tab .add 3 v8 (AV.p (.int .i64 1)) fun v26=>
 N1 v26 H)
def B53_0 (K:AV→Heap→Prop) (N1:AV→Heap→Prop) (v0:AV) (v1:AV) (v4:AV) (v5:AV) (v6:AV) (v7:AV) (v8:AV) (H:Heap):Prop:=
 binV tab .lss 3 v8 v6 fun v24=>
 cV_ v24 (lenV tab 45 v0 fun v30=>
 binV tab .sub 3 v30 (AV.p (.int .i64 1)) fun v31=>
 CallT Tryz.prog 94 [v5,v8,v31] H fun v32 H6=>
 binV tab .neq 4 v32 v1 fun v34=>
 cV_ v34 (fA_ tab 34 v7 1 fun v35=>
 lV_ tab 22 v35 H6 fun v36=>
 bS_ tab 22 1 [(0,v8)] H6 (wkK fun v38 H7=>
 aP_ tab 22 22 v36 v38 H7 (wkK fun v39 H8=>
 fA_ tab 34 v7 1 fun v40=>
 sV_ tab 22 v40 v39 H8 fun H9=>
 L53_1 K N1 v0 v1 v4 v5 v6 v7 v8 (AV.p (.int .i64 0)) H9)))
 (L53_1 K N1 v0 v1 v4 v5 v6 v7 v8 (AV.p (.int .i64 0)) H6))
 (lV_ tab 34 v7 H fun v66=>
 sV_ tab 34 v4 v66 H fun H14=>
 lV_ tab 34 v4 H14 fun r0=>
 K r0 H14)
def W53 (v0:AV) (v1:AV) (H:Heap) (K:AV→Heap→Prop):Prop:=
 allocV tab 34 H fun v4 H1=>
 CallT Tryz.prog 92 [v0] H1 fun v12 H2=>
 lenV tab 22 v12 fun v14=>
 convV tab 3 111 v14 fun v15=>
 binV tab .shl 3 (AV.p (.int .i64 1)) v15 fun v16=>
 CallT Tryz.prog 93 [v0,v12] H2 fun v20 H3=>
 buildV tab 34 [(0,v16),(3,v20)] fun v21=>
 allocV tab 34 H3 fun v7 H4=>
 sV_ tab 34 v7 v21 H4 fun H5=>
 L53_0 K v0 v1 v4 v12 v16 v7 (AV.p (.int .i64 0)) H5
theorem W53_wp (v0:AV) (v1:AV) (H:Heap) (K:AV→Heap→Prop):wpC Tryz.prog tab D53 (bO_ Tryz.f53) (retF tab [.cell 4 34] K) (nthA [v0,v1]) H=W53 v0 v1 H K:=by kernel_rfl
theorem W53_ok {v0 v1:AV} {H:Heap} {K:AV→Heap→Prop} (h:W53 v0 v1 H K):CallT Tryz.prog 53 [v0,v1] H K:=
 CallT.of_wp (D:=D53) tO_ mixed Tryz.func53 (c:=bO_ Tryz.f53) (by kernel_rfl) rfl (by kernel_rfl) (rs:=#[.cell 4 34]) rfl (by decide +kernel) (by kernel_rfl) (W53_wp v0 v1 H K) h
theorem W53_hb:HasBody Tryz.prog 53:=⟨_,bO_ Tryz.f53,Tryz.func53,by kernel_rfl,rfl⟩
theorem L53_2_rule {K:AV→Heap→Prop} {N1:AV→Heap→Prop} {N2:AV→Heap→Prop} {v0 v1 v4 v5 v6 v7 v8 v9 v10:AV} {H:Heap} {σ:Type} (s0:σ) (f10:σ→AV) (TH:σ→Heap) (pre:σ→Prop) (μ:σ→Nat)
  (h0:pre s0∧AV.wk v10 (f10 s0)∧Heap.le (TH s0) H)
  (round:∀s,pre s→B53_2 K N1 N2 (fun w10 H'=>∃s',pre s'∧μ s' < μ s∧AV.wk w10 (f10 s')∧Heap.le (TH s') H') v0 v1 v4 v5 v6 v7 v8 v9 (f10 s) (TH s)) :
  L53_2 K N1 N2 v0 v1 v4 v5 v6 v7 v8 v9 v10 H:=by
 unfold L53_2
 exact LoopV.mk s0 (fun s=>[f10 s]) TH pre μ (fun _=>rfl) (Eq.mp (by kernel_rfl) h0) (fun s hs=>Eq.mp (by kernel_rfl) (round s hs))
theorem L53_1_rule {K:AV→Heap→Prop} {N1:AV→Heap→Prop} {v0 v1 v4 v5 v6 v7 v8 v9:AV} {H:Heap} {σ:Type} (s0:σ) (f9:σ→AV) (TH:σ→Heap) (pre:σ→Prop) (μ:σ→Nat)
  (h0:pre s0∧AV.wk v9 (f9 s0)∧Heap.le (TH s0) H)
  (round:∀s,pre s→B53_1 K N1 (fun w9 H'=>∃s',pre s'∧μ s' < μ s∧AV.wk w9 (f9 s')∧Heap.le (TH s') H') v0 v1 v4 v5 v6 v7 v8 (f9 s) (TH s)) :
  L53_1 K N1 v0 v1 v4 v5 v6 v7 v8 v9 H:=by
 unfold L53_1
 exact LoopV.mk s0 (fun s=>[f9 s]) TH pre μ (fun _=>rfl) (Eq.mp (by kernel_rfl) h0) (fun s hs=>Eq.mp (by kernel_rfl) (round s hs))
theorem L53_0_rule {K:AV→Heap→Prop} {v0 v1 v4 v5 v6 v7 v8:AV} {H:Heap} {σ:Type} (s0:σ) (f8:σ→AV) (TH:σ→Heap) (pre:σ→Prop) (μ:σ→Nat)
  (h0:pre s0∧AV.wk v8 (f8 s0)∧Heap.le (TH s0) H)
  (round:∀s,pre s→B53_0 K (fun w8 H'=>∃s',pre s'∧μ s' < μ s∧AV.wk w8 (f8 s')∧Heap.le (TH s') H') v0 v1 v4 v5 v6 v7 (f8 s) (TH s)) :
  L53_0 K v0 v1 v4 v5 v6 v7 v8 H:=by
 unfold L53_0
 exact LoopV.mk s0 (fun s=>[f8 s]) TH pre μ (fun _=>rfl) (Eq.mp (by kernel_rfl) h0) (fun s hs=>Eq.mp (by kernel_rfl) (round s hs))
def D54:Info:=⟨11,fun i=>([],[]),fun i=>([],[])⟩
def W54 (v0:AV) (H:Heap) (K:AV→Heap→Prop):Prop:=
 boxV v0 H fun v1 H1=>
 allocV tab 76 H1 fun v2 H2=>
 allocV tab 76 H2 fun v3 H3=>
 fA_ tab 78 v1 0 fun v4=>
 lV_ tab 3 v4 H3 fun v5=>
 fA_ tab 76 v3 0 fun v6=>
 sV_ tab 3 v6 v5 H3 fun H4=>
 fA_ tab 78 v1 1 fun v7=>
 lV_ tab 3 v7 H4 fun v8=>
 fA_ tab 76 v3 1 fun v9=>
 sV_ tab 3 v9 v8 H4 fun H5=>
 lV_ tab 76 v3 H5 fun v10=>
 sV_ tab 76 v2 v10 H5 fun H6=>
 lV_ tab 76 v2 H6 fun r0=>
 K r0 H6
theorem W54_wp (v0:AV) (H:Heap) (K:AV→Heap→Prop):wpC Tryz.prog tab D54 (bO_ Tryz.f54) (retF tab [.cell 2 76] K) (nthA [v0]) H=W54 v0 H K:=by kernel_rfl
theorem W54_ok {v0:AV} {H:Heap} {K:AV→Heap→Prop} (h:W54 v0 H K):CallT Tryz.prog 54 [v0] H K:=
 CallT.of_wp (D:=D54) tO_ mixed Tryz.func54 (c:=bO_ Tryz.f54) (by kernel_rfl) rfl (by kernel_rfl) (rs:=#[.cell 2 76]) rfl (by decide +kernel) (by kernel_rfl) (W54_wp v0 H K) h
def D56:Info:=⟨49,fun i=>if i=5 then ([[],[0],[0,1],[0,1],[0,1,2,3],[0,1,2,3,4],[0,1,2,3,4,5],[0,1,2,3,4,5,6],[0,1,2,3,4,5,6,7],[0,1,2,3,4,5,6,7,8],[0,1,2,3,4,5,6,7,8,9],[0,1,2,3,4,5,6,7,8,9,10],[0,1,2,3,4,5,6,7,8,9,10,11],[0,1,2,3,4,5,6,7,8,9,10,11],[0,1,2,3,4,5,6,7,8,9,10,11,12,13],[0,1,2,3,4,5,6,7,8,9,10,11,12,13,14],[0,1,2,3,4,5,6,7,8,9,10,11],[0,1,2,3,4,5,6,7,8,9,10,11],[0,1,2,3,4,5,6,7,8,9,10,11,16,17],[0,1,2,3,4,5,6,7,8,9,10,11,16,17,18],[0,1,2,3,4,5,6,7,8,9,10,11,12,13,14,15,16,17,18,19],[0,1,2,3,4,5,6,7,8,9,10,11,12,13,14,15,16,17,18,19,20],[0,1,2,3,4,5,6,7,8,9,10,11,12,13,14,15,16,17,18,19,20,21]],[(0,[]),(1,[]),(2,[]),(3,[]),(4,[]),(5,[]),(6,[]),(7,[]),(8,[]),(9,[]),(10,[]),(11,[]),(12,[]),(13,[]),(14,[]),(15,[]),(16,[]),(17,[]),(18,[]),(19,[]),(20,[]),(21,[]),(22,[])]) else ([],[]),fun i=>if i=3 then ([7,16,17],[8,18]) else ([],[])⟩
def L56_0 (K:AV→Heap→Prop) (v7:AV) (v8:AV) (v16:AV) (v17:AV) (v18:AV) (H:Heap):Prop:=LoopV (wpC Tryz.prog tab D56 (cAt [1,1,0,1,0,0] (bO_ Tryz.f56))) [7,16,17] (PostF.block 0 (PostF.thenA (wpC Tryz.prog tab D56 (cAt [1,1,1] (bO_ Tryz.f56))) (retF tab [.tmp 6] K))) [8,18] [Q_,Q_,Q_,Q_,Q_,Q_,Q_,v7,v8,Q_,Q_,Q_,Q_,Q_,Q_,Q_,v16,v17,v18,Q_,Q_,Q_,Q_,Q_,Q_,Q_,Q_,Q_,Q_,Q_,Q_,Q_,Q_,Q_,Q_,Q_,Q_,Q_,Q_,Q_,Q_,Q_,Q_,Q_,Q_,Q_,Q_,Q_,Q_] H
def B56_0 (K:AV→Heap→Prop) (N1:AV→AV→Heap→Prop) (v7:AV) (v8:AV) (v16:AV) (v17:AV) (v18:AV) (H:Heap):Prop:=
 binV tab .lss 3 v18 v17 fun v19=>
 cV_ v19 (iA_ tab 116 v16 v18 fun v21=>
 lV_ tab 4 v21 H fun v22=>
 grdV v22 true (iA_ tab 22 v7 v18 fun v27=>
 lV_ tab 3 v27 H fun v28=>
 binV tab .geq 3 v28 (AV.p (.int .i64 0)) fun v29=>
 grdV v29 true (binV tab .lss 3 v8 (AV.p (.int .i64 0)) fun v33=>
 grdV v33 false (iA_ tab 22 v7 v18 fun v37=>
 lV_ tab 3 v37 H fun v38=>
 iA_ tab 22 v7 v8 fun v41=>
 lV_ tab 3 v41 H fun v42=>
 binV tab .lss 3 v38 v42 fun v43=>
 cV_ v43 (binV tab .add 3 v18 (AV.p (.int .i64 1)) fun v47=>
 N1 v18 v47 H)
 (binV tab .add 3 v18 (AV.p (.int .i64 1)) fun v47=>
 N1 v8 v47 H))
 (binV tab .add 3 v18 (AV.p (.int .i64 1)) fun v47=>
 N1 v18 v47 H))
 (binV tab .add 3 v18 (AV.p (.int .i64 1)) fun v47=>
 N1 v8 v47 H))
 (binV tab .add 3 v18 (AV.p (.int .i64 1)) fun v47=>
 N1 v8 v47 H))
 (K v8 H)
def W56 (v0:AV) (v1:AV) (v2:AV) (H:Heap) (K:AV→Heap→Prop):Prop:=
 CallT Tryz.prog 97 [v0,v1] H fun v13 H1=>
 CallT Tryz.prog 98 [v0,v2] H1 fun v16 H2=>
 lenV tab 116 v16 fun v17=>
 L56_0 K v13 (AV.p (.int .i64 (-1))) v16 v17 (AV.p (.int .i64 0)) H2
theorem W56_wp (v0:AV) (v1:AV) (v2:AV) (H:Heap) (K:AV→Heap→Prop):wpC Tryz.prog tab D56 (bO_ Tryz.f56) (retF tab [.tmp 6] K) (nthA [v0,v1,v2]) H=W56 v0 v1 v2 H K:=by kernel_rfl
theorem W56_ok {v0 v1 v2:AV} {H:Heap} {K:AV→Heap→Prop} (h:W56 v0 v1 v2 H K):CallT Tryz.prog 56 [v0,v1,v2] H K:=
 CallT.of_wp (D:=D56) tO_ mixed Tryz.func56 (c:=bO_ Tryz.f56) (by kernel_rfl) rfl (by kernel_rfl) (rs:=#[.tmp 6]) rfl (by decide +kernel) (by kernel_rfl) (W56_wp v0 v1 v2 H K) h
theorem L56_0_rule {K:AV→Heap→Prop} {v7 v8 v16 v17 v18:AV} {H:Heap} {σ:Type} (s0:σ) (f8:σ→AV) (f18:σ→AV) (TH:σ→Heap) (pre:σ→Prop) (μ:σ→Nat)
  (h0:pre s0∧AV.wk v8 (f8 s0)∧AV.wk v18 (f18 s0)∧Heap.le (TH s0) H)
  (round:∀s,pre s→B56_0 K (fun w8 w18 H'=>∃s',pre s'∧μ s' < μ s∧AV.wk w8 (f8 s')∧AV.wk w18 (f18 s')∧Heap.le (TH s') H') v7 (f8 s) v16 v17 (f18 s) (TH s)) :
  L56_0 K v7 v8 v16 v17 v18 H:=by
 unfold L56_0
 exact LoopV.mk s0 (fun s=>[f8 s,f18 s]) TH pre μ (fun _=>rfl) (Eq.mp (by kernel_rfl) h0) (fun s hs=>Eq.mp (by kernel_rfl) (round s hs))
def D57:Info:=⟨15,fun i=>([],[]),fun i=>([],[])⟩
def W57 (v0:AV) (v1:AV) (H:Heap) (K:AV→Heap→Prop):Prop:=
 boxV v0 H fun v2 H1=>
 boxV v1 H1 fun v3 H2=>
 fA_ tab 76 v2 0 fun v5=>
 lV_ tab 3 v5 H2 fun v6=>
 fA_ tab 76 v3 0 fun v7=>
 lV_ tab 3 v7 H2 fun v8=>
 binV tab .neq 3 v6 v8 fun v9=>
 cV_ v9 (K (AV.p (.bool false)) H2)
 (fA_ tab 76 v2 1 fun v10=>
 lV_ tab 3 v10 H2 fun v11=>
 fA_ tab 76 v3 1 fun v12=>
 lV_ tab 3 v12 H2 fun v13=>
 binV tab .neq 3 v11 v13 fun v14=>
 cV_ v14 (K (AV.p (.bool false)) H2)
 (K (AV.p (.bool true)) H2))
theorem W57_wp (v0:AV) (v1:AV) (H:Heap) (K:AV→Heap→Prop):wpC Tryz.prog tab D57 (bO_ Tryz.f57) (retF tab [.tmp 4] K) (nthA [v0,v1]) H=W57 v0 v1 H K:=by kernel_rfl
theorem W57_ok {v0 v1:AV} {H:Heap} {K:AV→Heap→Prop} (h:W57 v0 v1 H K):CallT Tryz.prog 57 [v0,v1] H K:=
 CallT.of_wp (D:=D57) tO_ mixed Tryz.func57 (c:=bO_ Tryz.f57) (by kernel_rfl) rfl (by kernel_rfl) (rs:=#[.tmp 4]) rfl (by decide +kernel) (by kernel_rfl) (W57_wp v0 v1 H K) h
def D58:Info:=⟨35,fun i=>([],[]),fun i=>if i=3 then ([1,2,12,13],[7,14]) else if i=6 then ([1,2,9,12,13,14,18,19],[7,20]) else ([],[])⟩
def L58_0 (K:AV→Heap→Prop) (v1:AV) (v2:AV) (v7:AV) (v12:AV) (v13:AV) (v14:AV) (H:Heap):Prop:=LoopV (wpC Tryz.prog tab D58 (cAt [1,1,0,1,0,0] (bO_ Tryz.f58))) [1,2,12,13] (PostF.block 0 (PostF.thenA (wpC Tryz.prog tab D58 (cAt [1,1,1] (bO_ Tryz.f58))) (retF tab [.tmp 6] K))) [7,14] [Q_,v1,v2,Q_,Q_,Q_,Q_,v7,Q_,Q_,Q_,Q_,v12,v13,v14,Q_,Q_,Q_,Q_,Q_,Q_,Q_,Q_,Q_,Q_,Q_,Q_,Q_,Q_,Q_,Q_,Q_,Q_,Q_,Q_] H
def L58_1 (K:AV→Heap→Prop) (N1:AV→AV→Heap→Prop) (v1:AV) (v2:AV) (v7:AV) (v9:AV) (v12:AV) (v13:AV) (v14:AV) (v18:AV) (v19:AV) (v20:AV) (H:Heap):Prop:=LoopV (wpC Tryz.prog tab D58 (cAt [1,1,0,1,0,0,1,1,0,0,1,1,0,0] (bO_ Tryz.f58))) [1,2,9,12,13,14,18,19] (PostF.block 2 (PostF.block 1 (PostF.thenA (wpC Tryz.prog tab D58 (cAt [1,1,0,1,0,0,1,1,1] (bO_ Tryz.f58))) (loopF (PostF.block 0 (PostF.thenA (wpC Tryz.prog tab D58 (cAt [1,1,1] (bO_ Tryz.f58))) (retF tab [.tmp 6] K))) (fun e h=>N1 (e 7) (e 14) h))))) [7,20] [Q_,v1,v2,Q_,Q_,Q_,Q_,v7,Q_,v9,Q_,Q_,v12,v13,v14,Q_,Q_,Q_,v18,v19,v20,Q_,Q_,Q_,Q_,Q_,Q_,Q_,Q_,Q_,Q_,Q_,Q_,Q_,Q_] H
def B58_1 (K:AV→Heap→Prop) (N1:AV→AV→Heap→Prop) (N2:AV→AV→Heap→Prop) (v1:AV) (v2:AV) (v7:AV) (v9:AV) (v12:AV) (v13:AV) (v14:AV) (v18:AV) (v19:AV) (v20:AV) (H:Heap):Prop:=
 binV tab .lss 3 v20 v19 fun v21=>
 cV_ v21 (iA_ tab 22 v18 v20 fun v22=>
 lV_ tab 3 v22 H fun v23=>
 binV tab .mul 3 v9 v2 fun v27=>
 binV tab .add 3 v27 v23 fun v29=>
 bS_ tab 22 1 [(0,v29)] H (wkK fun v30 H1=>
 aP_ tab 22 22 v7 v30 H1 (wkK fun v31 H2=>
 binV tab .add 3 v20 (AV.p (.int .i64 1)) fun v32=>
 N2 v31 v32 H2)))
 (binV tab .add 3 v14 (AV.p (.int .i64 1)) fun v33=>
 N1 v7 v33 H)
def B58_0 (K:AV→Heap→Prop) (N1:AV→AV→Heap→Prop) (v1:AV) (v2:AV) (v7:AV) (v12:AV) (v13:AV) (v14:AV) (H:Heap):Prop:=
 binV tab .lss 3 v14 v13 fun v15=>
 cV_ v15 (iA_ tab 22 v12 v14 fun v16=>
 lV_ tab 3 v16 H fun v17=>
 lenV tab 22 v1 fun v19=>
 L58_1 K N1 v1 v2 v7 v17 v12 v13 v14 v1 v19 (AV.p (.int .i64 0)) H)
 (K v7 H)
def W58 (v0:AV) (v1:AV) (v2:AV) (H:Heap) (K:AV→Heap→Prop):Prop:=
 lenV tab 22 v0 fun v13=>
 L58_0 K v1 v2 (AV.p .nil) v0 v13 (AV.p (.int .i64 0)) H
theorem W58_wp (v0:AV) (v1:AV) (v2:AV) (H:Heap) (K:AV→Heap→Prop):wpC Tryz.prog tab D58 (bO_ Tryz.f58) (retF tab [.tmp 6] K) (nthA [v0,v1,v2]) H=W58 v0 v1 v2 H K:=by kernel_rfl
theorem W58_ok {v0 v1 v2:AV} {H:Heap} {K:AV→Heap→Prop} (h:W58 v0 v1 v2 H K):CallT Tryz.prog 58 [v0,v1,v2] H K:=
 CallT.of_wp (D:=D58) tO_ mixed Tryz.func58 (c:=bO_ Tryz.f58) (by kernel_rfl) rfl (by kernel_rfl) (rs:=#[.tmp 6]) rfl (by decide +kernel) (by kernel_rfl) (W58_wp v0 v1 v2 H K) h
theorem W58_hb:HasBody Tryz.prog 58:=⟨_,bO_ Tryz.f58,Tryz.func58,by kernel_rfl,rfl⟩
theorem L58_1_rule {K:AV→Heap→Prop} {N1:AV→AV→Heap→Prop} {v1 v2 v7 v9 v12 v13 v14 v18 v19 v20:AV} {H:Heap} {σ:Type} (s0:σ) (f7:σ→AV) (f20:σ→AV) (TH:σ→Heap) (pre:σ→Prop) (μ:σ→Nat)
  (h0:pre s0∧AV.wk v7 (f7 s0)∧AV.wk v20 (f20 s0)∧Heap.le (TH s0) H)
  (round:∀s,pre s→B58_1 K N1 (fun w7 w20 H'=>∃s',pre s'∧μ s' < μ s∧AV.wk w7 (f7 s')∧AV.wk w20 (f20 s')∧Heap.le (TH s') H') v1 v2 (f7 s) v9 v12 v13 v14 v18 v19 (f20 s) (TH s)) :
  L58_1 K N1 v1 v2 v7 v9 v12 v13 v14 v18 v19 v20 H:=by
 unfold L58_1
 exact LoopV.mk s0 (fun s=>[f7 s,f20 s]) TH pre μ (fun _=>rfl) (Eq.mp (by kernel_rfl) h0) (fun s hs=>Eq.mp (by kernel_rfl) (round s hs))
theorem L58_0_rule {K:AV→Heap→Prop} {v1 v2 v7 v12 v13 v14:AV} {H:Heap} {σ:Type} (s0:σ) (f7:σ→AV) (f14:σ→AV) (TH:σ→Heap) (pre:σ→Prop) (μ:σ→Nat)
  (h0:pre s0∧AV.wk v7 (f7 s0)∧AV.wk v14 (f14 s0)∧Heap.le (TH s0) H)
  (round:∀s,pre s→B58_0 K (fun w7 w14 H'=>∃s',pre s'∧μ s' < μ s∧AV.wk w7 (f7 s')∧AV.wk w14 (f14 s')∧Heap.le (TH s') H') v1 v2 (f7 s) v12 v13 (f14 s) (TH s)) :
  L58_0 K v1 v2 v7 v12 v13 v14 H:=by
 unfold L58_0
 exact LoopV.mk s0 (fun s=>[f7 s,f14 s]) TH pre μ (fun _=>rfl) (Eq.mp (by kernel_rfl) h0) (fun s hs=>Eq.mp (by kernel_rfl) (round s hs))
def D59:Info:=⟨15,fun i=>([],[]),fun i=>if i=3 then ([0],[3,4]) else ([],[])⟩
def L59_0 (K:AV→Heap→Prop) (v0:AV) (v3:AV) (v4:AV) (H:Heap):Prop:=LoopV (wpC Tryz.prog tab D59 (cAt [1,1,0,1,0,0] (bO_ Tryz.f59))) [0] (PostF.block 0 (PostF.thenA (wpC Tryz.prog tab D59 (cAt [1,1,1] (bO_ Tryz.f59))) (retF tab [.tmp 2] K))) [3,4] [v0,Q_,Q_,v3,v4,Q_,Q_,Q_,Q_,Q_,Q_,Q_,Q_,Q_,Q_] H
def B59_0 (K:AV→Heap→Prop) (N1:AV→AV→Heap→Prop) (v0:AV) (v3:AV) (v4:AV) (H:Heap):Prop:=
 binV tab .lss 3 v4 v0 fun v7=>
 cV_ v7 (bS_ tab 22 1 [(0,v4)] H (wkK fun v12 H1=>
 aP_ tab 22 22 v3 v12 H1 (wkK fun v13 H2=>
 binV tab .add 3 v4 (AV.p (.int .i64 1)) fun v9=>
 N1 v13 v9 H2)))
 (K v3 H)
def W59 (v0:AV) (H:Heap) (K:AV→Heap→Prop):Prop:=
 L59_0 K v0 (AV.p .nil) (AV.p (.int .i64 0)) H
theorem W59_wp (v0:AV) (H:Heap) (K:AV→Heap→Prop):wpC Tryz.prog tab D59 (bO_ Tryz.f59) (retF tab [.tmp 2] K) (nthA [v0]) H=W59 v0 H K:=by kernel_rfl
theorem W59_ok {v0:AV} {H:Heap} {K:AV→Heap→Prop} (h:W59 v0 H K):CallT Tryz.prog 59 [v0] H K:=
 CallT.of_wp (D:=D59) tO_ mixed Tryz.func59 (c:=bO_ Tryz.f59) (by kernel_rfl) rfl (by kernel_rfl) (rs:=#[.tmp 2]) rfl (by decide +kernel) (by kernel_rfl) (W59_wp v0 H K) h
theorem W59_hb:HasBody Tryz.prog 59:=⟨_,bO_ Tryz.f59,Tryz.func59,by kernel_rfl,rfl⟩
theorem L59_0_rule {K:AV→Heap→Prop} {v0 v3 v4:AV} {H:Heap} {σ:Type} (s0:σ) (f3:σ→AV) (f4:σ→AV) (TH:σ→Heap) (pre:σ→Prop) (μ:σ→Nat)
  (h0:pre s0∧AV.wk v3 (f3 s0)∧AV.wk v4 (f4 s0)∧Heap.le (TH s0) H)
  (round:∀s,pre s→B59_0 K (fun w3 w4 H'=>∃s',pre s'∧μ s' < μ s∧AV.wk w3 (f3 s')∧AV.wk w4 (f4 s')∧Heap.le (TH s') H') v0 (f3 s) (f4 s) (TH s)) :
  L59_0 K v0 v3 v4 H:=by
 unfold L59_0
 exact LoopV.mk s0 (fun s=>[f3 s,f4 s]) TH pre μ (fun _=>rfl) (Eq.mp (by kernel_rfl) h0) (fun s hs=>Eq.mp (by kernel_rfl) (round s hs))
def D60:Info:=⟨11,fun i=>([],[]),fun i=>([],[])⟩
def W60 (v0:AV) (H:Heap) (K:AV→Heap→Prop):Prop:=
 CallT Tryz.prog 99 [v0] H fun v4 H1=>
 grdV v4 true (CallT Tryz.prog 100 [v0] H1 fun v7 H2=>
 lenV tab 22 v7 fun v8=>
 binV tab .leq 3 v8 (AV.p (.int .i64 5)) fun v9=>
 K v9 H2)
 (K (AV.p (.bool false)) H1)
theorem W60_wp (v0:AV) (H:Heap) (K:AV→Heap→Prop):wpC Tryz.prog tab D60 (bO_ Tryz.f60) (retF tab [.tmp 2] K) (nthA [v0]) H=W60 v0 H K:=by kernel_rfl
theorem W60_ok {v0:AV} {H:Heap} {K:AV→Heap→Prop} (h:W60 v0 H K):CallT Tryz.prog 60 [v0] H K:=
 CallT.of_wp (D:=D60) tO_ mixed Tryz.func60 (c:=bO_ Tryz.f60) (by kernel_rfl) rfl (by kernel_rfl) (rs:=#[.tmp 2]) rfl (by decide +kernel) (by kernel_rfl) (W60_wp v0 H K) h
end Go.Proofs.YtolffbcnbcjeaaaGreat
namespace Go.Proofs.YtolffbcnbcjeaaaGreat
open Go Go.Sep
attribute [local irreducible] wpC headF
def D61:Info:=⟨182,fun i=>([],[]),fun i=>if i=3 then ([2,3,4,5,33,34],[35]) else if i=6 then ([2,3,4,5,7,33,34,35,40,41],[42]) else if i=12 then ([2,3,4,5,60,61],[62]) else if i=15 then ([2,3,4,5,11,60,61,62,67,68],[69]) else if i=23 then ([2,3,4,5,108,109],[110]) else if i=27 then ([2,3,4,5,108,109,110,115,116],[16,117]) else if i=30 then ([2,3,4,5,18,108,109,110,115,116,117,122],[16,123]) else if i=38 then ([2,3,4,5,145,146],[147]) else if i=42 then ([2,3,4,5,21,145,146,147,153],[22,154]) else if i=45 then ([2,3,4,5,21,23,145,146,147,153,154,157,158],[22,159]) else ([],[])⟩
def L61_0 (K:AV→Heap→Prop) (v2:AV) (v3:AV) (v4:AV) (v5:AV) (v33:AV) (v34:AV) (v35:AV) (H:Heap):Prop:=LoopV (wpC Tryz.prog tab D61 (cAt [1,1,0,1,0,0] (bO_ Tryz.f61))) [2,3,4,5,33,34] (PostF.block 0 (PostF.thenA (wpC Tryz.prog tab D61 (cAt [1,1,1] (bO_ Tryz.f61))) (retF tab [.cell 4 34] K))) [35] [Q_,Q_,v2,v3,v4,v5,Q_,Q_,Q_,Q_,Q_,Q_,Q_,Q_,Q_,Q_,Q_,Q_,Q_,Q_,Q_,Q_,Q_,Q_,Q_,Q_,Q_,Q_,Q_,Q_,Q_,Q_,Q_,v33,v34,v35,Q_,Q_,Q_,Q_,Q_,Q_,Q_,Q_,Q_,Q_,Q_,Q_,Q_,Q_,Q_,Q_,Q_,Q_,Q_,Q_,Q_,Q_,Q_,Q_,Q_,Q_,Q_,Q_,Q_,Q_,Q_,Q_,Q_,Q_,Q_,Q_,Q_,Q_,Q_,Q_,Q_,Q_,Q_,Q_,Q_,Q_,Q_,Q_,Q_,Q_,Q_,Q_,Q_,Q_,Q_,Q_,Q_,Q_,Q_,Q_,Q_,Q_,Q_,Q_,Q_,Q_,Q_,Q_,Q_,Q_,Q_,Q_,Q_,Q_,Q_,Q_,Q_,Q_,Q_,Q_,Q_,Q_,Q_,Q_,Q_,Q_,Q_,Q_,Q_,Q_,Q_,Q_,Q_,Q_,Q_,Q_,Q_,Q_,Q_,Q_,Q_,Q_,Q_,Q_,Q_,Q_,Q_,Q_,Q_,Q_,Q_,Q_,Q_,Q_,Q_,Q_,Q_,Q_,Q_,Q_,Q_,Q_,Q_,Q_,Q_,Q_,Q_,Q_,Q_,Q_,Q_,Q_,Q_,Q_,Q_,Q_,Q_,Q_,Q_,Q_,Q_,Q_,Q_,Q_,Q_,Q_] H
def L61_1 (K:AV→Heap→Prop) (N1:AV→Heap→Prop) (v2:AV) (v3:AV) (v4:AV) (v5:AV) (v7:AV) (v33:AV) (v34:AV) (v35:AV) (v40:AV) (v41:AV) (v42:AV) (H:Heap):Prop:=LoopV (wpC Tryz.prog tab D61 (cAt [1,1,0,1,0,0,1,1,0,0,1,1,0,0] (bO_ Tryz.f61))) [2,3,4,5,7,33,34,35,40,41] (PostF.block 2 (PostF.block 1 (PostF.thenA (wpC Tryz.prog tab D61 (cAt [1,1,0,1,0,0,1,1,1] (bO_ Tryz.f61))) (loopF (PostF.block 0 (PostF.thenA (wpC Tryz.prog tab D61 (cAt [1,1,1] (bO_ Tryz.f61))) (retF tab [.cell 4 34] K))) (fun e h=>N1 (e 35) h))))) [42] [Q_,Q_,v2,v3,v4,v5,Q_,v7,Q_,Q_,Q_,Q_,Q_,Q_,Q_,Q_,Q_,Q_,Q_,Q_,Q_,Q_,Q_,Q_,Q_,Q_,Q_,Q_,Q_,Q_,Q_,Q_,Q_,v33,v34,v35,Q_,Q_,Q_,Q_,v40,v41,v42,Q_,Q_,Q_,Q_,Q_,Q_,Q_,Q_,Q_,Q_,Q_,Q_,Q_,Q_,Q_,Q_,Q_,Q_,Q_,Q_,Q_,Q_,Q_,Q_,Q_,Q_,Q_,Q_,Q_,Q_,Q_,Q_,Q_,Q_,Q_,Q_,Q_,Q_,Q_,Q_,Q_,Q_,Q_,Q_,Q_,Q_,Q_,Q_,Q_,Q_,Q_,Q_,Q_,Q_,Q_,Q_,Q_,Q_,Q_,Q_,Q_,Q_,Q_,Q_,Q_,Q_,Q_,Q_,Q_,Q_,Q_,Q_,Q_,Q_,Q_,Q_,Q_,Q_,Q_,Q_,Q_,Q_,Q_,Q_,Q_,Q_,Q_,Q_,Q_,Q_,Q_,Q_,Q_,Q_,Q_,Q_,Q_,Q_,Q_,Q_,Q_,Q_,Q_,Q_,Q_,Q_,Q_,Q_,Q_,Q_,Q_,Q_,Q_,Q_,Q_,Q_,Q_,Q_,Q_,Q_,Q_,Q_,Q_,Q_,Q_,Q_,Q_,Q_,Q_,Q_,Q_,Q_,Q_,Q_,Q_,Q_,Q_,Q_,Q_] H
def B61_1 (K:AV→Heap→Prop) (N1:AV→Heap→Prop) (N2:AV→Heap→Prop) (v2:AV) (v3:AV) (v4:AV) (v5:AV) (v7:AV) (v33:AV) (v34:AV) (v35:AV) (v40:AV) (v41:AV) (v42:AV) (H:Heap):Prop:=
 binV tab .lss 3 v42 v41 fun v43=>
 cV_ v43 (iA_ tab 22 v40 v42 fun v44=>
 lV_ tab 3 v44 H fun v45=>
 fA_ tab 34 v5 1 fun v46=>
 lV_ tab 22 v46 H fun v47=>
 fA_ tab 34 v3 0 fun v49=>
 lV_ tab 3 v49 H fun v50=>
 binV tab .mul 3 v7 v50 fun v51=>
 binV tab .add 3 v51 v45 fun v53=>
 bS_ tab 22 1 [(0,v53)] H (wkK fun v54 H6=>
 aP_ tab 22 22 v47 v54 H6 (wkK fun v55 H7=>
 fA_ tab 34 v5 1 fun v56=>
 sV_ tab 22 v56 v55 H7 fun H8=>
 binV tab .add 3 v42 (AV.p (.int .i64 1)) fun v57=>
 N2 v57 H8)))
 (binV tab .add 3 v35 (AV.p (.int .i64 1)) fun v58=>
 N1 v58 H)
def L61_2 (K:AV→Heap→Prop) (v2:AV) (v3:AV) (v4:AV) (v5:AV) (v60:AV) (v61:AV) (v62:AV) (H:Heap):Prop:=LoopV (wpC Tryz.prog tab D61 (cAt [1,1,1,0,1,0,0] (bO_ Tryz.f61))) [2,3,4,5,60,61] (PostF.block 4 (PostF.thenA (wpC Tryz.prog tab D61 (cAt [1,1,1,1] (bO_ Tryz.f61))) (retF tab [.cell 4 34] K))) [62] [Q_,Q_,v2,v3,v4,v5,Q_,Q_,Q_,Q_,Q_,Q_,Q_,Q_,Q_,Q_,Q_,Q_,Q_,Q_,Q_,Q_,Q_,Q_,Q_,Q_,Q_,Q_,Q_,Q_,Q_,Q_,Q_,Q_,Q_,Q_,Q_,Q_,Q_,Q_,Q_,Q_,Q_,Q_,Q_,Q_,Q_,Q_,Q_,Q_,Q_,Q_,Q_,Q_,Q_,Q_,Q_,Q_,Q_,Q_,v60,v61,v62,Q_,Q_,Q_,Q_,Q_,Q_,Q_,Q_,Q_,Q_,Q_,Q_,Q_,Q_,Q_,Q_,Q_,Q_,Q_,Q_,Q_,Q_,Q_,Q_,Q_,Q_,Q_,Q_,Q_,Q_,Q_,Q_,Q_,Q_,Q_,Q_,Q_,Q_,Q_,Q_,Q_,Q_,Q_,Q_,Q_,Q_,Q_,Q_,Q_,Q_,Q_,Q_,Q_,Q_,Q_,Q_,Q_,Q_,Q_,Q_,Q_,Q_,Q_,Q_,Q_,Q_,Q_,Q_,Q_,Q_,Q_,Q_,Q_,Q_,Q_,Q_,Q_,Q_,Q_,Q_,Q_,Q_,Q_,Q_,Q_,Q_,Q_,Q_,Q_,Q_,Q_,Q_,Q_,Q_,Q_,Q_,Q_,Q_,Q_,Q_,Q_,Q_,Q_,Q_,Q_,Q_,Q_,Q_,Q_,Q_,Q_,Q_,Q_,Q_,Q_,Q_,Q_,Q_,Q_] H
def L61_3 (K:AV→Heap→Prop) (N1:AV→Heap→Prop) (v2:AV) (v3:AV) (v4:AV) (v5:AV) (v11:AV) (v60:AV) (v61:AV) (v62:AV) (v67:AV) (v68:AV) (v69:AV) (H:Heap):Prop:=LoopV (wpC Tryz.prog tab D61 (cAt [1,1,1,0,1,0,0,1,1,0,0,1,1,0,0] (bO_ Tryz.f61))) [2,3,4,5,11,60,61,62,67,68] (PostF.block 6 (PostF.block 5 (PostF.thenA (wpC Tryz.prog tab D61 (cAt [1,1,1,0,1,0,0,1,1,1] (bO_ Tryz.f61))) (loopF (PostF.block 4 (PostF.thenA (wpC Tryz.prog tab D61 (cAt [1,1,1,1] (bO_ Tryz.f61))) (retF tab [.cell 4 34] K))) (fun e h=>N1 (e 62) h))))) [69] [Q_,Q_,v2,v3,v4,v5,Q_,Q_,Q_,Q_,Q_,v11,Q_,Q_,Q_,Q_,Q_,Q_,Q_,Q_,Q_,Q_,Q_,Q_,Q_,Q_,Q_,Q_,Q_,Q_,Q_,Q_,Q_,Q_,Q_,Q_,Q_,Q_,Q_,Q_,Q_,Q_,Q_,Q_,Q_,Q_,Q_,Q_,Q_,Q_,Q_,Q_,Q_,Q_,Q_,Q_,Q_,Q_,Q_,Q_,v60,v61,v62,Q_,Q_,Q_,Q_,v67,v68,v69,Q_,Q_,Q_,Q_,Q_,Q_,Q_,Q_,Q_,Q_,Q_,Q_,Q_,Q_,Q_,Q_,Q_,Q_,Q_,Q_,Q_,Q_,Q_,Q_,Q_,Q_,Q_,Q_,Q_,Q_,Q_,Q_,Q_,Q_,Q_,Q_,Q_,Q_,Q_,Q_,Q_,Q_,Q_,Q_,Q_,Q_,Q_,Q_,Q_,Q_,Q_,Q_,Q_,Q_,Q_,Q_,Q_,Q_,Q_,Q_,Q_,Q_,Q_,Q_,Q_,Q_,Q_,Q_,Q_,Q_,Q_,Q_,Q_,Q_,Q_,Q_,Q_,Q_,Q_,Q_,Q_,Q_,Q_,Q_,Q_,Q_,Q_,Q_,Q_,Q_,Q_,Q_,Q_,Q_,Q_,Q_,Q_,Q_,Q_,Q_,Q_,Q_,Q_,Q_,Q_,Q_,Q_,Q_,Q_,Q_,Q_,Q_] H
def B61_3 (K:AV→Heap→Prop) (N1:AV→Heap→Prop) (N2:AV→Heap→Prop) (v2:AV) (v3:AV) (v4:AV) (v5:AV) (v11:AV) (v60:AV) (v61:AV) (v62:AV) (v67:AV) (v68:AV) (v69:AV) (H:Heap):Prop:=
 binV tab .lss 3 v69 v68 fun v70=>
 cV_ v70 (iA_ tab 32 v67 v69 fun v71=>
 lV_ tab 84 v71 H fun v72=>
 allocV tab 84 H fun v13 H11=>
 sV_ tab 84 v13 v72 H11 fun H12=>
 fA_ tab 84 v11 1 fun v73=>
 lV_ tab 3 v73 H12 fun v74=>
 fA_ tab 84 v13 1 fun v75=>
 lV_ tab 3 v75 H12 fun v76=>
 binV tab .eql 3 v74 v76 fun v77=>
 cV_ v77 (fA_ tab 34 v5 2 fun v78=>
 lV_ tab 32 v78 H12 fun v79=>
 fA_ tab 84 v11 0 fun v80=>
 lV_ tab 3 v80 H12 fun v81=>
 fA_ tab 34 v3 0 fun v82=>
 lV_ tab 3 v82 H12 fun v83=>
 binV tab .mul 3 v81 v83 fun v84=>
 fA_ tab 84 v13 0 fun v85=>
 lV_ tab 3 v85 H12 fun v86=>
 binV tab .add 3 v84 v86 fun v87=>
 fA_ tab 84 v11 1 fun v88=>
 lV_ tab 3 v88 H12 fun v89=>
 fA_ tab 84 v11 2 fun v90=>
 lV_ tab 3 v90 H12 fun v91=>
 fA_ tab 34 v3 0 fun v92=>
 lV_ tab 3 v92 H12 fun v93=>
 binV tab .mul 3 v91 v93 fun v94=>
 fA_ tab 84 v13 2 fun v95=>
 lV_ tab 3 v95 H12 fun v96=>
 binV tab .add 3 v94 v96 fun v97=>
 buildV tab 84 [(0,v87),(1,v89),(2,v97)] fun v98=>
 bS_ tab 32 1 [(0,v98)] H12 (wkK fun v99 H13=>
 aP_ tab 32 32 v79 v99 H13 (wkK fun v100 H14=>
 fA_ tab 34 v5 2 fun v101=>
 sV_ tab 32 v101 v100 H14 fun H15=>
 binV tab .add 3 v69 (AV.p (.int .i64 1)) fun v102=>
 N2 v102 H15)))
 (binV tab .add 3 v69 (AV.p (.int .i64 1)) fun v102=>
 N2 v102 H12))
 (binV tab .add 3 v62 (AV.p (.int .i64 1)) fun v103=>
 N1 v103 H)
def L61_4 (K:AV→Heap→Prop) (v2:AV) (v3:AV) (v4:AV) (v5:AV) (v108:AV) (v109:AV) (v110:AV) (H:Heap):Prop:=LoopV (wpC Tryz.prog tab D61 (cAt [1,1,1,1,1,0,1,0,0] (bO_ Tryz.f61))) [2,3,4,5,108,109] (PostF.block 8 (PostF.thenA (wpC Tryz.prog tab D61 (cAt [1,1,1,1,1,1] (bO_ Tryz.f61))) (retF tab [.cell 4 34] K))) [110] [Q_,Q_,v2,v3,v4,v5,Q_,Q_,Q_,Q_,Q_,Q_,Q_,Q_,Q_,Q_,Q_,Q_,Q_,Q_,Q_,Q_,Q_,Q_,Q_,Q_,Q_,Q_,Q_,Q_,Q_,Q_,Q_,Q_,Q_,Q_,Q_,Q_,Q_,Q_,Q_,Q_,Q_,Q_,Q_,Q_,Q_,Q_,Q_,Q_,Q_,Q_,Q_,Q_,Q_,Q_,Q_,Q_,Q_,Q_,Q_,Q_,Q_,Q_,Q_,Q_,Q_,Q_,Q_,Q_,Q_,Q_,Q_,Q_,Q_,Q_,Q_,Q_,Q_,Q_,Q_,Q_,Q_,Q_,Q_,Q_,Q_,Q_,Q_,Q_,Q_,Q_,Q_,Q_,Q_,Q_,Q_,Q_,Q_,Q_,Q_,Q_,Q_,Q_,Q_,Q_,Q_,Q_,v108,v109,v110,Q_,Q_,Q_,Q_,Q_,Q_,Q_,Q_,Q_,Q_,Q_,Q_,Q_,Q_,Q_,Q_,Q_,Q_,Q_,Q_,Q_,Q_,Q_,Q_,Q_,Q_,Q_,Q_,Q_,Q_,Q_,Q_,Q_,Q_,Q_,Q_,Q_,Q_,Q_,Q_,Q_,Q_,Q_,Q_,Q_,Q_,Q_,Q_,Q_,Q_,Q_,Q_,Q_,Q_,Q_,Q_,Q_,Q_,Q_,Q_,Q_,Q_,Q_,Q_,Q_,Q_,Q_,Q_,Q_,Q_,Q_] H
def L61_5 (K:AV→Heap→Prop) (N1:AV→Heap→Prop) (v2:AV) (v3:AV) (v4:AV) (v5:AV) (v16:AV) (v108:AV) (v109:AV) (v110:AV) (v115:AV) (v116:AV) (v117:AV) (H:Heap):Prop:=LoopV (wpC Tryz.prog tab D61 (cAt [1,1,1,1,1,0,1,0,0,1,1,0,0,1,1,0,1,0,0] (bO_ Tryz.f61))) [2,3,4,5,108,109,110,115,116] (PostF.block 10 (PostF.thenA (wpC Tryz.prog tab D61 (cAt [1,1,1,1,1,0,1,0,0,1,1,0,0,1,1,1] (bO_ Tryz.f61))) (PostF.block 9 (PostF.thenA (wpC Tryz.prog tab D61 (cAt [1,1,1,1,1,0,1,0,0,1,1,1] (bO_ Tryz.f61))) (loopF (PostF.block 8 (PostF.thenA (wpC Tryz.prog tab D61 (cAt [1,1,1,1,1,1] (bO_ Tryz.f61))) (retF tab [.cell 4 34] K))) (fun e h=>N1 (e 110) h)))))) [16,117] [Q_,Q_,v2,v3,v4,v5,Q_,Q_,Q_,Q_,Q_,Q_,Q_,Q_,Q_,Q_,v16,Q_,Q_,Q_,Q_,Q_,Q_,Q_,Q_,Q_,Q_,Q_,Q_,Q_,Q_,Q_,Q_,Q_,Q_,Q_,Q_,Q_,Q_,Q_,Q_,Q_,Q_,Q_,Q_,Q_,Q_,Q_,Q_,Q_,Q_,Q_,Q_,Q_,Q_,Q_,Q_,Q_,Q_,Q_,Q_,Q_,Q_,Q_,Q_,Q_,Q_,Q_,Q_,Q_,Q_,Q_,Q_,Q_,Q_,Q_,Q_,Q_,Q_,Q_,Q_,Q_,Q_,Q_,Q_,Q_,Q_,Q_,Q_,Q_,Q_,Q_,Q_,Q_,Q_,Q_,Q_,Q_,Q_,Q_,Q_,Q_,Q_,Q_,Q_,Q_,Q_,Q_,v108,v109,v110,Q_,Q_,Q_,Q_,v115,v116,v117,Q_,Q_,Q_,Q_,Q_,Q_,Q_,Q_,Q_,Q_,Q_,Q_,Q_,Q_,Q_,Q_,Q_,Q_,Q_,Q_,Q_,Q_,Q_,Q_,Q_,Q_,Q_,Q_,Q_,Q_,Q_,Q_,Q_,Q_,Q_,Q_,Q_,Q_,Q_,Q_,Q_,Q_,Q_,Q_,Q_,Q_,Q_,Q_,Q_,Q_,Q_,Q_,Q_,Q_,Q_,Q_,Q_,Q_,Q_,Q_,Q_,Q_,Q_,Q_] H
def L61_6 (K:AV→Heap→Prop) (N1:AV→Heap→Prop) (N2:AV→AV→Heap→Prop) (v2:AV) (v3:AV) (v4:AV) (v5:AV) (v16:AV) (v18:AV) (v108:AV) (v109:AV) (v110:AV) (v115:AV) (v116:AV) (v117:AV) (v122:AV) (v123:AV) (H:Heap):Prop:=LoopV (wpC Tryz.prog tab D61 (cAt [1,1,1,1,1,0,1,0,0,1,1,0,0,1,1,0,1,0,0,1,1,0,0,1,1,0,0] (bO_ Tryz.f61))) [2,3,4,5,18,108,109,110,115,116,117,122] (PostF.block 12 (PostF.block 11 (PostF.thenA (wpC Tryz.prog tab D61 (cAt [1,1,1,1,1,0,1,0,0,1,1,0,0,1,1,0,1,0,0,1,1,1] (bO_ Tryz.f61))) (loopF (PostF.block 10 (PostF.thenA (wpC Tryz.prog tab D61 (cAt [1,1,1,1,1,0,1,0,0,1,1,0,0,1,1,1] (bO_ Tryz.f61))) (PostF.block 9 (PostF.thenA (wpC Tryz.prog tab D61 (cAt [1,1,1,1,1,0,1,0,0,1,1,1] (bO_ Tryz.f61))) (loopF (PostF.block 8 (PostF.thenA (wpC Tryz.prog tab D61 (cAt [1,1,1,1,1,1] (bO_ Tryz.f61))) (retF tab [.cell 4 34] K))) (fun e h=>N1 (e 110) h)))))) (fun e h=>N2 (e 16) (e 117) h))))) [16,123] [Q_,Q_,v2,v3,v4,v5,Q_,Q_,Q_,Q_,Q_,Q_,Q_,Q_,Q_,Q_,v16,Q_,v18,Q_,Q_,Q_,Q_,Q_,Q_,Q_,Q_,Q_,Q_,Q_,Q_,Q_,Q_,Q_,Q_,Q_,Q_,Q_,Q_,Q_,Q_,Q_,Q_,Q_,Q_,Q_,Q_,Q_,Q_,Q_,Q_,Q_,Q_,Q_,Q_,Q_,Q_,Q_,Q_,Q_,Q_,Q_,Q_,Q_,Q_,Q_,Q_,Q_,Q_,Q_,Q_,Q_,Q_,Q_,Q_,Q_,Q_,Q_,Q_,Q_,Q_,Q_,Q_,Q_,Q_,Q_,Q_,Q_,Q_,Q_,Q_,Q_,Q_,Q_,Q_,Q_,Q_,Q_,Q_,Q_,Q_,Q_,Q_,Q_,Q_,Q_,Q_,Q_,v108,v109,v110,Q_,Q_,Q_,Q_,v115,v116,v117,Q_,Q_,Q_,Q_,v122,v123,Q_,Q_,Q_,Q_,Q_,Q_,Q_,Q_,Q_,Q_,Q_,Q_,Q_,Q_,Q_,Q_,Q_,Q_,Q_,Q_,Q_,Q_,Q_,Q_,Q_,Q_,Q_,Q_,Q_,Q_,Q_,Q_,Q_,Q_,Q_,Q_,Q_,Q_,Q_,Q_,Q_,Q_,Q_,Q_,Q_,Q_,Q_,Q_,Q_,Q_,Q_,Q_,Q_,Q_,Q_,Q_,Q_,Q_] H
def B61_6 (K:AV→Heap→Prop) (N1:AV→Heap→Prop) (N2:AV→AV→Heap→Prop) (N3:AV→AV→Heap→Prop) (v2:AV) (v3:AV) (v4:AV) (v5:AV) (v16:AV) (v18:AV) (v108:AV) (v109:AV) (v110:AV) (v115:AV) (v116:AV) (v117:AV) (v122:AV) (v123:AV) (H:Heap):Prop:=
 binV tab .lss 3 v123 v122 fun v124=>
 cV_ v124 (fA_ tab 34 v3 0 fun v128=>
 lV_ tab 3 v128 H fun v129=>
 binV tab .mul 3 v18 v129 fun v130=>
 binV tab .add 3 v130 v123 fun v132=>
 bS_ tab 22 1 [(0,v132)] H (wkK fun v133 H18=>
 aP_ tab 22 22 v16 v133 H18 (wkK fun v134 H19=>
 binV tab .add 3 v123 (AV.p (.int .i64 1)) fun v135=>
 N3 v134 v135 H19)))
 (binV tab .add 3 v117 (AV.p (.int .i64 1)) fun v136=>
 N2 v16 v136 H)
def B61_5 (K:AV→Heap→Prop) (N1:AV→Heap→Prop) (N2:AV→AV→Heap→Prop) (v2:AV) (v3:AV) (v4:AV) (v5:AV) (v16:AV) (v108:AV) (v109:AV) (v110:AV) (v115:AV) (v116:AV) (v117:AV) (H:Heap):Prop:=
 binV tab .lss 3 v117 v116 fun v118=>
 cV_ v118 (iA_ tab 22 v115 v117 fun v119=>
 lV_ tab 3 v119 H fun v120=>
 fA_ tab 34 v3 0 fun v121=>
 lV_ tab 3 v121 H fun v122=>
 L61_6 K N1 N2 v2 v3 v4 v5 v16 v120 v108 v109 v110 v115 v116 v117 v122 (AV.p (.int .i64 0)) H)
 (fA_ tab 34 v5 3 fun v137=>
 lV_ tab 24 v137 H fun v138=>
 bS_ tab 24 1 [(0,v16)] H (wkK fun v140 H20=>
 aP_ tab 24 24 v138 v140 H20 (wkK fun v141 H21=>
 fA_ tab 34 v5 3 fun v142=>
 sV_ tab 24 v142 v141 H21 fun H22=>
 binV tab .add 3 v110 (AV.p (.int .i64 1)) fun v143=>
 N1 v143 H22)))
def L61_7 (K:AV→Heap→Prop) (v2:AV) (v3:AV) (v4:AV) (v5:AV) (v145:AV) (v146:AV) (v147:AV) (H:Heap):Prop:=LoopV (wpC Tryz.prog tab D61 (cAt [1,1,1,1,1,1,0,1,0,0] (bO_ Tryz.f61))) [2,3,4,5,145,146] (PostF.block 14 (PostF.thenA (wpC Tryz.prog tab D61 (cAt [1,1,1,1,1,1,1] (bO_ Tryz.f61))) (retF tab [.cell 4 34] K))) [147] [Q_,Q_,v2,v3,v4,v5,Q_,Q_,Q_,Q_,Q_,Q_,Q_,Q_,Q_,Q_,Q_,Q_,Q_,Q_,Q_,Q_,Q_,Q_,Q_,Q_,Q_,Q_,Q_,Q_,Q_,Q_,Q_,Q_,Q_,Q_,Q_,Q_,Q_,Q_,Q_,Q_,Q_,Q_,Q_,Q_,Q_,Q_,Q_,Q_,Q_,Q_,Q_,Q_,Q_,Q_,Q_,Q_,Q_,Q_,Q_,Q_,Q_,Q_,Q_,Q_,Q_,Q_,Q_,Q_,Q_,Q_,Q_,Q_,Q_,Q_,Q_,Q_,Q_,Q_,Q_,Q_,Q_,Q_,Q_,Q_,Q_,Q_,Q_,Q_,Q_,Q_,Q_,Q_,Q_,Q_,Q_,Q_,Q_,Q_,Q_,Q_,Q_,Q_,Q_,Q_,Q_,Q_,Q_,Q_,Q_,Q_,Q_,Q_,Q_,Q_,Q_,Q_,Q_,Q_,Q_,Q_,Q_,Q_,Q_,Q_,Q_,Q_,Q_,Q_,Q_,Q_,Q_,Q_,Q_,Q_,Q_,Q_,Q_,Q_,Q_,Q_,Q_,Q_,Q_,v145,v146,v147,Q_,Q_,Q_,Q_,Q_,Q_,Q_,Q_,Q_,Q_,Q_,Q_,Q_,Q_,Q_,Q_,Q_,Q_,Q_,Q_,Q_,Q_,Q_,Q_,Q_,Q_,Q_,Q_,Q_,Q_,Q_,Q_,Q_,Q_] H
def L61_8 (K:AV→Heap→Prop) (N1:AV→Heap→Prop) (v2:AV) (v3:AV) (v4:AV) (v5:AV) (v21:AV) (v22:AV) (v145:AV) (v146:AV) (v147:AV) (v153:AV) (v154:AV) (H:Heap):Prop:=LoopV (wpC Tryz.prog tab D61 (cAt [1,1,1,1,1,1,0,1,0,0,1,1,0,0,1,1,0,1,0,0] (bO_ Tryz.f61))) [2,3,4,5,21,145,146,147,153] (PostF.block 16 (PostF.thenA (wpC Tryz.prog tab D61 (cAt [1,1,1,1,1,1,0,1,0,0,1,1,0,0,1,1,1] (bO_ Tryz.f61))) (PostF.block 15 (PostF.thenA (wpC Tryz.prog tab D61 (cAt [1,1,1,1,1,1,0,1,0,0,1,1,1] (bO_ Tryz.f61))) (loopF (PostF.block 14 (PostF.thenA (wpC Tryz.prog tab D61 (cAt [1,1,1,1,1,1,1] (bO_ Tryz.f61))) (retF tab [.cell 4 34] K))) (fun e h=>N1 (e 147) h)))))) [22,154] [Q_,Q_,v2,v3,v4,v5,Q_,Q_,Q_,Q_,Q_,Q_,Q_,Q_,Q_,Q_,Q_,Q_,Q_,Q_,Q_,v21,v22,Q_,Q_,Q_,Q_,Q_,Q_,Q_,Q_,Q_,Q_,Q_,Q_,Q_,Q_,Q_,Q_,Q_,Q_,Q_,Q_,Q_,Q_,Q_,Q_,Q_,Q_,Q_,Q_,Q_,Q_,Q_,Q_,Q_,Q_,Q_,Q_,Q_,Q_,Q_,Q_,Q_,Q_,Q_,Q_,Q_,Q_,Q_,Q_,Q_,Q_,Q_,Q_,Q_,Q_,Q_,Q_,Q_,Q_,Q_,Q_,Q_,Q_,Q_,Q_,Q_,Q_,Q_,Q_,Q_,Q_,Q_,Q_,Q_,Q_,Q_,Q_,Q_,Q_,Q_,Q_,Q_,Q_,Q_,Q_,Q_,Q_,Q_,Q_,Q_,Q_,Q_,Q_,Q_,Q_,Q_,Q_,Q_,Q_,Q_,Q_,Q_,Q_,Q_,Q_,Q_,Q_,Q_,Q_,Q_,Q_,Q_,Q_,Q_,Q_,Q_,Q_,Q_,Q_,Q_,Q_,Q_,Q_,v145,v146,v147,Q_,Q_,Q_,Q_,Q_,v153,v154,Q_,Q_,Q_,Q_,Q_,Q_,Q_,Q_,Q_,Q_,Q_,Q_,Q_,Q_,Q_,Q_,Q_,Q_,Q_,Q_,Q_,Q_,Q_,Q_,Q_,Q_,Q_] H
def L61_9 (K:AV→Heap→Prop) (N1:AV→Heap→Prop) (N2:AV→AV→Heap→Prop) (v2:AV) (v3:AV) (v4:AV) (v5:AV) (v21:AV) (v22:AV) (v23:AV) (v145:AV) (v146:AV) (v147:AV) (v153:AV) (v154:AV) (v157:AV) (v158:AV) (v159:AV) (H:Heap):Prop:=LoopV (wpC Tryz.prog tab D61 (cAt [1,1,1,1,1,1,0,1,0,0,1,1,0,0,1,1,0,1,0,0,1,1,0,0,1,1,0,0] (bO_ Tryz.f61))) [2,3,4,5,21,23,145,146,147,153,154,157,158] (PostF.block 18 (PostF.block 17 (PostF.thenA (wpC Tryz.prog tab D61 (cAt [1,1,1,1,1,1,0,1,0,0,1,1,0,0,1,1,0,1,0,0,1,1,1] (bO_ Tryz.f61))) (loopF (PostF.block 16 (PostF.thenA (wpC Tryz.prog tab D61 (cAt [1,1,1,1,1,1,0,1,0,0,1,1,0,0,1,1,1] (bO_ Tryz.f61))) (PostF.block 15 (PostF.thenA (wpC Tryz.prog tab D61 (cAt [1,1,1,1,1,1,0,1,0,0,1,1,1] (bO_ Tryz.f61))) (loopF (PostF.block 14 (PostF.thenA (wpC Tryz.prog tab D61 (cAt [1,1,1,1,1,1,1] (bO_ Tryz.f61))) (retF tab [.cell 4 34] K))) (fun e h=>N1 (e 147) h)))))) (fun e h=>N2 (e 22) (e 154) h))))) [22,159] [Q_,Q_,v2,v3,v4,v5,Q_,Q_,Q_,Q_,Q_,Q_,Q_,Q_,Q_,Q_,Q_,Q_,Q_,Q_,Q_,v21,v22,v23,Q_,Q_,Q_,Q_,Q_,Q_,Q_,Q_,Q_,Q_,Q_,Q_,Q_,Q_,Q_,Q_,Q_,Q_,Q_,Q_,Q_,Q_,Q_,Q_,Q_,Q_,Q_,Q_,Q_,Q_,Q_,Q_,Q_,Q_,Q_,Q_,Q_,Q_,Q_,Q_,Q_,Q_,Q_,Q_,Q_,Q_,Q_,Q_,Q_,Q_,Q_,Q_,Q_,Q_,Q_,Q_,Q_,Q_,Q_,Q_,Q_,Q_,Q_,Q_,Q_,Q_,Q_,Q_,Q_,Q_,Q_,Q_,Q_,Q_,Q_,Q_,Q_,Q_,Q_,Q_,Q_,Q_,Q_,Q_,Q_,Q_,Q_,Q_,Q_,Q_,Q_,Q_,Q_,Q_,Q_,Q_,Q_,Q_,Q_,Q_,Q_,Q_,Q_,Q_,Q_,Q_,Q_,Q_,Q_,Q_,Q_,Q_,Q_,Q_,Q_,Q_,Q_,Q_,Q_,Q_,Q_,v145,v146,v147,Q_,Q_,Q_,Q_,Q_,v153,v154,Q_,Q_,v157,v158,v159,Q_,Q_,Q_,Q_,Q_,Q_,Q_,Q_,Q_,Q_,Q_,Q_,Q_,Q_,Q_,Q_,Q_,Q_,Q_,Q_,Q_,Q_] H
def B61_9 (K:AV→Heap→Prop) (N1:AV→Heap→Prop) (N2:AV→AV→Heap→Prop) (N3:AV→AV→Heap→Prop) (v2:AV) (v3:AV) (v4:AV) (v5:AV) (v21:AV) (v22:AV) (v23:AV) (v145:AV) (v146:AV) (v147:AV) (v153:AV) (v154:AV) (v157:AV) (v158:AV) (v159:AV) (H:Heap):Prop:=
 binV tab .lss 3 v159 v158 fun v160=>
 cV_ v160 (iA_ tab 22 v157 v159 fun v161=>
 lV_ tab 3 v161 H fun v162=>
 fA_ tab 34 v3 0 fun v165=>
 lV_ tab 3 v165 H fun v166=>
 binV tab .mul 3 v23 v166 fun v167=>
 binV tab .add 3 v167 v162 fun v169=>
 bS_ tab 22 1 [(0,v169)] H (wkK fun v170 H24=>
 aP_ tab 22 22 v22 v170 H24 (wkK fun v171 H25=>
 binV tab .add 3 v159 (AV.p (.int .i64 1)) fun v172=>
 N3 v171 v172 H25)))
 (binV tab .add 3 v154 (AV.p (.int .i64 1)) fun v173=>
 N2 v22 v173 H)
def B61_8 (K:AV→Heap→Prop) (N1:AV→Heap→Prop) (N2:AV→AV→Heap→Prop) (v2:AV) (v3:AV) (v4:AV) (v5:AV) (v21:AV) (v22:AV) (v145:AV) (v146:AV) (v147:AV) (v153:AV) (v154:AV) (H:Heap):Prop:=
 binV tab .lss 3 v154 v153 fun v155=>
 cV_ v155 (lenV tab 22 v21 fun v158=>
 L61_9 K N1 N2 v2 v3 v4 v5 v21 v22 v154 v145 v146 v147 v153 v154 v21 v158 (AV.p (.int .i64 0)) H)
 (fA_ tab 34 v5 3 fun v174=>
 lV_ tab 24 v174 H fun v175=>
 bS_ tab 24 1 [(0,v22)] H (wkK fun v177 H26=>
 aP_ tab 24 24 v175 v177 H26 (wkK fun v178 H27=>
 fA_ tab 34 v5 3 fun v179=>
 sV_ tab 24 v179 v178 H27 fun H28=>
 binV tab .add 3 v147 (AV.p (.int .i64 1)) fun v180=>
 N1 v180 H28)))
def B61_7 (K:AV→Heap→Prop) (N1:AV→Heap→Prop) (v2:AV) (v3:AV) (v4:AV) (v5:AV) (v145:AV) (v146:AV) (v147:AV) (H:Heap):Prop:=
 binV tab .lss 3 v147 v146 fun v148=>
 cV_ v148 (iA_ tab 24 v145 v147 fun v149=>
 lV_ tab 22 v149 H fun v150=>
 bS_ tab 22 0 [] H (wkK fun v151 H23=>
 fA_ tab 34 v2 0 fun v152=>
 lV_ tab 3 v152 H23 fun v153=>
 L61_8 K N1 v2 v3 v4 v5 v150 v151 v145 v146 v147 v153 (AV.p (.int .i64 0)) H23))
 (lV_ tab 34 v5 H fun v181=>
 sV_ tab 34 v4 v181 H fun H29=>
 lV_ tab 34 v4 H29 fun r0=>
 K r0 H29)
def B61_4 (K:AV→Heap→Prop) (N1:AV→Heap→Prop) (v2:AV) (v3:AV) (v4:AV) (v5:AV) (v108:AV) (v109:AV) (v110:AV) (H:Heap):Prop:=
 binV tab .lss 3 v110 v109 fun v111=>
 cV_ v111 (iA_ tab 24 v108 v110 fun v112=>
 lV_ tab 22 v112 H fun v113=>
 bS_ tab 22 0 [] H (wkK fun v114 H17=>
 lenV tab 22 v113 fun v116=>
 L61_5 K N1 v2 v3 v4 v5 v114 v108 v109 v110 v113 v116 (AV.p (.int .i64 0)) H17))
 (fA_ tab 34 v3 3 fun v144=>
 lV_ tab 24 v144 H fun v145=>
 lenV tab 24 v145 fun v146=>
 L61_7 K v2 v3 v4 v5 v145 v146 (AV.p (.int .i64 0)) H)
def B61_2 (K:AV→Heap→Prop) (N1:AV→Heap→Prop) (v2:AV) (v3:AV) (v4:AV) (v5:AV) (v60:AV) (v61:AV) (v62:AV) (H:Heap):Prop:=
 binV tab .lss 3 v62 v61 fun v63=>
 cV_ v63 (iA_ tab 32 v60 v62 fun v64=>
 lV_ tab 84 v64 H fun v65=>
 allocV tab 84 H fun v11 H9=>
 sV_ tab 84 v11 v65 H9 fun H10=>
 fA_ tab 34 v3 2 fun v66=>
 lV_ tab 32 v66 H10 fun v67=>
 lenV tab 32 v67 fun v68=>
 L61_3 K N1 v2 v3 v4 v5 v11 v60 v61 v62 v67 v68 (AV.p (.int .i64 0)) H10)
 (fA_ tab 34 v5 2 fun v104=>
 lV_ tab 32 v104 H fun v105=>
 CallT Tryz.prog 101 [v105,(.fn 77 [])] H fun v106 H16=>
 fA_ tab 34 v2 3 fun v107=>
 lV_ tab 24 v107 H16 fun v108=>
 lenV tab 24 v108 fun v109=>
 L61_4 K v2 v3 v4 v5 v108 v109 (AV.p (.int .i64 0)) H16)
def B61_0 (K:AV→Heap→Prop) (N1:AV→Heap→Prop) (v2:AV) (v3:AV) (v4:AV) (v5:AV) (v33:AV) (v34:AV) (v35:AV) (H:Heap):Prop:=
 binV tab .lss 3 v35 v34 fun v36=>
 cV_ v36 (iA_ tab 22 v33 v35 fun v37=>
 lV_ tab 3 v37 H fun v38=>
 fA_ tab 34 v3 1 fun v39=>
 lV_ tab 22 v39 H fun v40=>
 lenV tab 22 v40 fun v41=>
 L61_1 K N1 v2 v3 v4 v5 v38 v33 v34 v35 v40 v41 (AV.p (.int .i64 0)) H)
 (fA_ tab 34 v2 2 fun v59=>
 lV_ tab 32 v59 H fun v60=>
 lenV tab 32 v60 fun v61=>
 L61_2 K v2 v3 v4 v5 v60 v61 (AV.p (.int .i64 0)) H)
def W61 (v0:AV) (v1:AV) (H:Heap) (K:AV→Heap→Prop):Prop:=
 boxV v0 H fun v2 H1=>
 boxV v1 H1 fun v3 H2=>
 allocV tab 34 H2 fun v4 H3=>
 fA_ tab 34 v2 0 fun v26=>
 lV_ tab 3 v26 H3 fun v27=>
 fA_ tab 34 v3 0 fun v28=>
 lV_ tab 3 v28 H3 fun v29=>
 binV tab .mul 3 v27 v29 fun v30=>
 buildV tab 34 [(0,v30)] fun v31=>
 allocV tab 34 H3 fun v5 H4=>
 sV_ tab 34 v5 v31 H4 fun H5=>
 fA_ tab 34 v2 1 fun v32=>
 lV_ tab 22 v32 H5 fun v33=>
 lenV tab 22 v33 fun v34=>
 L61_0 K v2 v3 v4 v5 v33 v34 (AV.p (.int .i64 0)) H5
theorem W61_wp (v0:AV) (v1:AV) (H:Heap) (K:AV→Heap→Prop):wpC Tryz.prog tab D61 (bO_ Tryz.f61) (retF tab [.cell 4 34] K) (nthA [v0,v1]) H=W61 v0 v1 H K:=by kernel_rfl
theorem W61_ok {v0 v1:AV} {H:Heap} {K:AV→Heap→Prop} (h:W61 v0 v1 H K):CallT Tryz.prog 61 [v0,v1] H K:=
 CallT.of_wp (D:=D61) tO_ mixed Tryz.func61 (c:=bO_ Tryz.f61) (by kernel_rfl) rfl (by kernel_rfl) (rs:=#[.cell 4 34]) rfl (by decide +kernel) (by kernel_rfl) (W61_wp v0 v1 H K) h
theorem W61_hb:HasBody Tryz.prog 61:=⟨_,bO_ Tryz.f61,Tryz.func61,by kernel_rfl,rfl⟩
theorem L61_1_rule {K:AV→Heap→Prop} {N1:AV→Heap→Prop} {v2 v3 v4 v5 v7 v33 v34 v35 v40 v41 v42:AV} {H:Heap} {σ:Type} (s0:σ) (f42:σ→AV) (TH:σ→Heap) (pre:σ→Prop) (μ:σ→Nat)
  (h0:pre s0∧AV.wk v42 (f42 s0)∧Heap.le (TH s0) H)
  (round:∀s,pre s→B61_1 K N1 (fun w42 H'=>∃s',pre s'∧μ s' < μ s∧AV.wk w42 (f42 s')∧Heap.le (TH s') H') v2 v3 v4 v5 v7 v33 v34 v35 v40 v41 (f42 s) (TH s)) :
  L61_1 K N1 v2 v3 v4 v5 v7 v33 v34 v35 v40 v41 v42 H:=by
 unfold L61_1
 exact LoopV.mk s0 (fun s=>[f42 s]) TH pre μ (fun _=>rfl) (Eq.mp (by kernel_rfl) h0) (fun s hs=>Eq.mp (by kernel_rfl) (round s hs))
theorem L61_3_rule {K:AV→Heap→Prop} {N1:AV→Heap→Prop} {v2 v3 v4 v5 v11 v60 v61 v62 v67 v68 v69:AV} {H:Heap} {σ:Type} (s0:σ) (f69:σ→AV) (TH:σ→Heap) (pre:σ→Prop) (μ:σ→Nat)
  (h0:pre s0∧AV.wk v69 (f69 s0)∧Heap.le (TH s0) H)
  (round:∀s,pre s→B61_3 K N1 (fun w69 H'=>∃s',pre s'∧μ s' < μ s∧AV.wk w69 (f69 s')∧Heap.le (TH s') H') v2 v3 v4 v5 v11 v60 v61 v62 v67 v68 (f69 s) (TH s)) :
  L61_3 K N1 v2 v3 v4 v5 v11 v60 v61 v62 v67 v68 v69 H:=by
 unfold L61_3
 exact LoopV.mk s0 (fun s=>[f69 s]) TH pre μ (fun _=>rfl) (Eq.mp (by kernel_rfl) h0) (fun s hs=>Eq.mp (by kernel_rfl) (round s hs))
theorem L61_6_rule {K:AV→Heap→Prop} {N1:AV→Heap→Prop} {N2:AV→AV→Heap→Prop} {v2 v3 v4 v5 v16 v18 v108 v109 v110 v115 v116 v117 v122 v123:AV} {H:Heap} {σ:Type} (s0:σ) (f16:σ→AV) (f123:σ→AV) (TH:σ→Heap) (pre:σ→Prop) (μ:σ→Nat)
  (h0:pre s0∧AV.wk v16 (f16 s0)∧AV.wk v123 (f123 s0)∧Heap.le (TH s0) H)
  (round:∀s,pre s→B61_6 K N1 N2 (fun w16 w123 H'=>∃s',pre s'∧μ s' < μ s∧AV.wk w16 (f16 s')∧AV.wk w123 (f123 s')∧Heap.le (TH s') H') v2 v3 v4 v5 (f16 s) v18 v108 v109 v110 v115 v116 v117 v122 (f123 s) (TH s)) :
  L61_6 K N1 N2 v2 v3 v4 v5 v16 v18 v108 v109 v110 v115 v116 v117 v122 v123 H:=by
 unfold L61_6
 exact LoopV.mk s0 (fun s=>[f16 s,f123 s]) TH pre μ (fun _=>rfl) (Eq.mp (by kernel_rfl) h0) (fun s hs=>Eq.mp (by kernel_rfl) (round s hs))
theorem L61_5_rule {K:AV→Heap→Prop} {N1:AV→Heap→Prop} {v2 v3 v4 v5 v16 v108 v109 v110 v115 v116 v117:AV} {H:Heap} {σ:Type} (s0:σ) (f16:σ→AV) (f117:σ→AV) (TH:σ→Heap) (pre:σ→Prop) (μ:σ→Nat)
  (h0:pre s0∧AV.wk v16 (f16 s0)∧AV.wk v117 (f117 s0)∧Heap.le (TH s0) H)
  (round:∀s,pre s→B61_5 K N1 (fun w16 w117 H'=>∃s',pre s'∧μ s' < μ s∧AV.wk w16 (f16 s')∧AV.wk w117 (f117 s')∧Heap.le (TH s') H') v2 v3 v4 v5 (f16 s) v108 v109 v110 v115 v116 (f117 s) (TH s)) :
  L61_5 K N1 v2 v3 v4 v5 v16 v108 v109 v110 v115 v116 v117 H:=by
 unfold L61_5
 exact LoopV.mk s0 (fun s=>[f16 s,f117 s]) TH pre μ (fun _=>rfl) (Eq.mp (by kernel_rfl) h0) (fun s hs=>Eq.mp (by kernel_rfl) (round s hs))
theorem L61_9_rule {K:AV→Heap→Prop} {N1:AV→Heap→Prop} {N2:AV→AV→Heap→Prop} {v2 v3 v4 v5 v21 v22 v23 v145 v146 v147 v153 v154 v157 v158 v159:AV} {H:Heap} {σ:Type} (s0:σ) (f22:σ→AV) (f159:σ→AV) (TH:σ→Heap) (pre:σ→Prop) (μ:σ→Nat)
  (h0:pre s0∧AV.wk v22 (f22 s0)∧AV.wk v159 (f159 s0)∧Heap.le (TH s0) H)
  (round:∀s,pre s→B61_9 K N1 N2 (fun w22 w159 H'=>∃s',pre s'∧μ s' < μ s∧AV.wk w22 (f22 s')∧AV.wk w159 (f159 s')∧Heap.le (TH s') H') v2 v3 v4 v5 v21 (f22 s) v23 v145 v146 v147 v153 v154 v157 v158 (f159 s) (TH s)) :
  L61_9 K N1 N2 v2 v3 v4 v5 v21 v22 v23 v145 v146 v147 v153 v154 v157 v158 v159 H:=by
 unfold L61_9
 exact LoopV.mk s0 (fun s=>[f22 s,f159 s]) TH pre μ (fun _=>rfl) (Eq.mp (by kernel_rfl) h0) (fun s hs=>Eq.mp (by kernel_rfl) (round s hs))
theorem L61_8_rule {K:AV→Heap→Prop} {N1:AV→Heap→Prop} {v2 v3 v4 v5 v21 v22 v145 v146 v147 v153 v154:AV} {H:Heap} {σ:Type} (s0:σ) (f22:σ→AV) (f154:σ→AV) (TH:σ→Heap) (pre:σ→Prop) (μ:σ→Nat)
  (h0:pre s0∧AV.wk v22 (f22 s0)∧AV.wk v154 (f154 s0)∧Heap.le (TH s0) H)
  (round:∀s,pre s→B61_8 K N1 (fun w22 w154 H'=>∃s',pre s'∧μ s' < μ s∧AV.wk w22 (f22 s')∧AV.wk w154 (f154 s')∧Heap.le (TH s') H') v2 v3 v4 v5 v21 (f22 s) v145 v146 v147 v153 (f154 s) (TH s)) :
  L61_8 K N1 v2 v3 v4 v5 v21 v22 v145 v146 v147 v153 v154 H:=by
 unfold L61_8
 exact LoopV.mk s0 (fun s=>[f22 s,f154 s]) TH pre μ (fun _=>rfl) (Eq.mp (by kernel_rfl) h0) (fun s hs=>Eq.mp (by kernel_rfl) (round s hs))
theorem L61_7_rule {K:AV→Heap→Prop} {v2 v3 v4 v5 v145 v146 v147:AV} {H:Heap} {σ:Type} (s0:σ) (f147:σ→AV) (TH:σ→Heap) (pre:σ→Prop) (μ:σ→Nat)
  (h0:pre s0∧AV.wk v147 (f147 s0)∧Heap.le (TH s0) H)
  (round:∀s,pre s→B61_7 K (fun w147 H'=>∃s',pre s'∧μ s' < μ s∧AV.wk w147 (f147 s')∧Heap.le (TH s') H') v2 v3 v4 v5 v145 v146 (f147 s) (TH s)) :
  L61_7 K v2 v3 v4 v5 v145 v146 v147 H:=by
 unfold L61_7
 exact LoopV.mk s0 (fun s=>[f147 s]) TH pre μ (fun _=>rfl) (Eq.mp (by kernel_rfl) h0) (fun s hs=>Eq.mp (by kernel_rfl) (round s hs))
theorem L61_4_rule {K:AV→Heap→Prop} {v2 v3 v4 v5 v108 v109 v110:AV} {H:Heap} {σ:Type} (s0:σ) (f110:σ→AV) (TH:σ→Heap) (pre:σ→Prop) (μ:σ→Nat)
  (h0:pre s0∧AV.wk v110 (f110 s0)∧Heap.le (TH s0) H)
  (round:∀s,pre s→B61_4 K (fun w110 H'=>∃s',pre s'∧μ s' < μ s∧AV.wk w110 (f110 s')∧Heap.le (TH s') H') v2 v3 v4 v5 v108 v109 (f110 s) (TH s)) :
  L61_4 K v2 v3 v4 v5 v108 v109 v110 H:=by
 unfold L61_4
 exact LoopV.mk s0 (fun s=>[f110 s]) TH pre μ (fun _=>rfl) (Eq.mp (by kernel_rfl) h0) (fun s hs=>Eq.mp (by kernel_rfl) (round s hs))
theorem L61_2_rule {K:AV→Heap→Prop} {v2 v3 v4 v5 v60 v61 v62:AV} {H:Heap} {σ:Type} (s0:σ) (f62:σ→AV) (TH:σ→Heap) (pre:σ→Prop) (μ:σ→Nat)
  (h0:pre s0∧AV.wk v62 (f62 s0)∧Heap.le (TH s0) H)
  (round:∀s,pre s→B61_2 K (fun w62 H'=>∃s',pre s'∧μ s' < μ s∧AV.wk w62 (f62 s')∧Heap.le (TH s') H') v2 v3 v4 v5 v60 v61 (f62 s) (TH s)) :
  L61_2 K v2 v3 v4 v5 v60 v61 v62 H:=by
 unfold L61_2
 exact LoopV.mk s0 (fun s=>[f62 s]) TH pre μ (fun _=>rfl) (Eq.mp (by kernel_rfl) h0) (fun s hs=>Eq.mp (by kernel_rfl) (round s hs))
theorem L61_0_rule {K:AV→Heap→Prop} {v2 v3 v4 v5 v33 v34 v35:AV} {H:Heap} {σ:Type} (s0:σ) (f35:σ→AV) (TH:σ→Heap) (pre:σ→Prop) (μ:σ→Nat)
  (h0:pre s0∧AV.wk v35 (f35 s0)∧Heap.le (TH s0) H)
  (round:∀s,pre s→B61_0 K (fun w35 H'=>∃s',pre s'∧μ s' < μ s∧AV.wk w35 (f35 s')∧Heap.le (TH s') H') v2 v3 v4 v5 v33 v34 (f35 s) (TH s)) :
  L61_0 K v2 v3 v4 v5 v33 v34 v35 H:=by
 unfold L61_0
 exact LoopV.mk s0 (fun s=>[f35 s]) TH pre μ (fun _=>rfl) (Eq.mp (by kernel_rfl) h0) (fun s hs=>Eq.mp (by kernel_rfl) (round s hs))
def D62:Info:=⟨42,fun i=>if i=8 then ([[],[0],[],[],[],[2,3,4],[],[],[2,3,4,5,6,7],[2,3,4,5,6,7,8],[0,1,2,3,4,5,6,7,8,9],[0,1,2,3,4,5,6,7,8,9,10],[0,1,2,3,4,5,6,7,8,9,10,11]],[(0,[]),(1,[]),(2,[]),(3,[]),(4,[]),(6,[]),(7,[]),(5,[1]),(8,[]),(9,[1]),(10,[]),(11,[]),(12,[])]) else ([],[]),fun i=>if i=3 then ([0,4,5],[16]) else if i=6 then ([0,4,5,6,16,20],[21]) else ([],[])⟩
def L62_0 (K:AV→Heap→Prop) (v0:AV) (v4:AV) (v5:AV) (v16:AV) (H:Heap):Prop:=LoopV (wpC Tryz.prog tab D62 (cAt [1,1,0,1,0,0] (bO_ Tryz.f62))) [0,4,5] (PostF.block 0 (PostF.thenA (wpC Tryz.prog tab D62 (cAt [1,1,1] (bO_ Tryz.f62))) (retF tab [.cell 4 34] K))) [16] [v0,Q_,Q_,Q_,v4,v5,Q_,Q_,Q_,Q_,Q_,Q_,Q_,Q_,Q_,Q_,v16,Q_,Q_,Q_,Q_,Q_,Q_,Q_,Q_,Q_,Q_,Q_,Q_,Q_,Q_,Q_,Q_,Q_,Q_,Q_,Q_,Q_,Q_,Q_,Q_,Q_] H
def L62_1 (K:AV→Heap→Prop) (N1:AV→Heap→Prop) (v0:AV) (v4:AV) (v5:AV) (v6:AV) (v16:AV) (v20:AV) (v21:AV) (H:Heap):Prop:=LoopV (wpC Tryz.prog tab D62 (cAt [1,1,0,1,0,0,1,1,0,0,1,1,0,0] (bO_ Tryz.f62))) [0,4,5,6,16,20] (PostF.block 2 (PostF.block 1 (PostF.thenA (wpC Tryz.prog tab D62 (cAt [1,1,0,1,0,0,1,1,1] (bO_ Tryz.f62))) (loopF (PostF.block 0 (PostF.thenA (wpC Tryz.prog tab D62 (cAt [1,1,1] (bO_ Tryz.f62))) (retF tab [.cell 4 34] K))) (fun e h=>N1 (e 16) h))))) [21] [v0,Q_,Q_,Q_,v4,v5,v6,Q_,Q_,Q_,Q_,Q_,Q_,Q_,Q_,Q_,v16,Q_,Q_,Q_,v20,v21,Q_,Q_,Q_,Q_,Q_,Q_,Q_,Q_,Q_,Q_,Q_,Q_,Q_,Q_,Q_,Q_,Q_,Q_,Q_,Q_] H
def B62_1 (K:AV→Heap→Prop) (N1:AV→Heap→Prop) (N2:AV→Heap→Prop) (v0:AV) (v4:AV) (v5:AV) (v6:AV) (v16:AV) (v20:AV) (v21:AV) (H:Heap):Prop:=
 binV tab .lss 3 v21 v20 fun v22=>
 cV_ v22 (fA_ tab 34 v5 2 fun v24=>
 lV_ tab 32 v24 H fun v25=>
 CallT Tryz.prog 105 [v0,v6,v21] H fun v29 H7=>
 (lV_ tab 32 v24 H7 fun v9025=>
 v25=v9025)∧
 buildV tab 84 [(0,v29),(1,v6),(2,v21)] fun v32=>
 bS_ tab 32 1 [(0,v32)] H7 (wkK fun v33 H8=>
 (lV_ tab 32 v24 H8 fun v9025=>
 v25=v9025)∧
 aP_ tab 32 32 v25 v33 H8 (wkK fun v34 H9=>
 fA_ tab 34 v5 2 fun v35=>
 sV_ tab 32 v35 v34 H9 fun H10=>
 binV tab .add 3 v21 (AV.p (.int .i64 1)) fun v36=>
 N2 v36 H10)))
 (binV tab .add 3 v16 (AV.p (.int .i64 1)) fun v37=>
 N1 v37 H)
def B62_0 (K:AV→Heap→Prop) (N1:AV→Heap→Prop) (v0:AV) (v4:AV) (v5:AV) (v16:AV) (H:Heap):Prop:=
 binV tab .lss 3 v16 (AV.p (.int .i64 8)) fun v17=>
 cV_ v17 (fA_ tab 34 v5 0 fun v19=>
 lV_ tab 3 v19 H fun v20=>
 L62_1 K N1 v0 v4 v5 v16 v16 v20 (AV.p (.int .i64 0)) H)
 (fA_ tab 34 v5 2 fun v38=>
 lV_ tab 32 v38 H fun v39=>
 CallT Tryz.prog 101 [v39,(.fn 77 [])] H fun v40 H11=>
 lV_ tab 34 v5 H11 fun v41=>
 sV_ tab 34 v4 v41 H11 fun H12=>
 lV_ tab 34 v4 H12 fun r0=>
 K r0 H12)
def W62 (v0:AV) (v1:AV) (H:Heap) (K:AV→Heap→Prop):Prop:=
 allocV tab 34 H fun v4 H1=>
 CallT Tryz.prog 102 [v0] H1 fun v9 H2=>
 CallT Tryz.prog 103 [v0,v1] H2 fun v12 H3=>
 CallT Tryz.prog 104 [v0] H3 fun v14 H4=>
 buildV tab 34 [(0,v9),(1,v12),(3,v14)] fun v15=>
 allocV tab 34 H4 fun v5 H5=>
 sV_ tab 34 v5 v15 H5 fun H6=>
 L62_0 K v0 v4 v5 (AV.p (.int .i64 0)) H6
theorem W62_wp (v0:AV) (v1:AV) (H:Heap) (K:AV→Heap→Prop):wpC Tryz.prog tab D62 (bO_ Tryz.f62) (retF tab [.cell 4 34] K) (nthA [v0,v1]) H=W62 v0 v1 H K:=by kernel_rfl
theorem W62_ok {v0 v1:AV} {H:Heap} {K:AV→Heap→Prop} (h:W62 v0 v1 H K):CallT Tryz.prog 62 [v0,v1] H K:=
 CallT.of_wp (D:=D62) tO_ mixed Tryz.func62 (c:=bO_ Tryz.f62) (by kernel_rfl) rfl (by kernel_rfl) (rs:=#[.cell 4 34]) rfl (by decide +kernel) (by kernel_rfl) (W62_wp v0 v1 H K) h
theorem W62_hb:HasBody Tryz.prog 62:=⟨_,bO_ Tryz.f62,Tryz.func62,by kernel_rfl,rfl⟩
theorem L62_1_rule {K:AV→Heap→Prop} {N1:AV→Heap→Prop} {v0 v4 v5 v6 v16 v20 v21:AV} {H:Heap} {σ:Type} (s0:σ) (f21:σ→AV) (TH:σ→Heap) (pre:σ→Prop) (μ:σ→Nat)
  (h0:pre s0∧AV.wk v21 (f21 s0)∧Heap.le (TH s0) H)
  (round:∀s,pre s→B62_1 K N1 (fun w21 H'=>∃s',pre s'∧μ s' < μ s∧AV.wk w21 (f21 s')∧Heap.le (TH s') H') v0 v4 v5 v6 v16 v20 (f21 s) (TH s)) :
  L62_1 K N1 v0 v4 v5 v6 v16 v20 v21 H:=by
 unfold L62_1
 exact LoopV.mk s0 (fun s=>[f21 s]) TH pre μ (fun _=>rfl) (Eq.mp (by kernel_rfl) h0) (fun s hs=>Eq.mp (by kernel_rfl) (round s hs))
theorem L62_0_rule {K:AV→Heap→Prop} {v0 v4 v5 v16:AV} {H:Heap} {σ:Type} (s0:σ) (f16:σ→AV) (TH:σ→Heap) (pre:σ→Prop) (μ:σ→Nat)
  (h0:pre s0∧AV.wk v16 (f16 s0)∧Heap.le (TH s0) H)
  (round:∀s,pre s→B62_0 K (fun w16 H'=>∃s',pre s'∧μ s' < μ s∧AV.wk w16 (f16 s')∧Heap.le (TH s') H') v0 v4 v5 (f16 s) (TH s)) :
  L62_0 K v0 v4 v5 v16 H:=by
 unfold L62_0
 exact LoopV.mk s0 (fun s=>[f16 s]) TH pre μ (fun _=>rfl) (Eq.mp (by kernel_rfl) h0) (fun s hs=>Eq.mp (by kernel_rfl) (round s hs))
def D63:Info:=⟨15,fun i=>([],[]),fun i=>([],[])⟩
def W63 (v0:AV) (v1:AV) (v2:AV) (H:Heap) (K:AV→Heap→Prop):Prop:=
 binV tab .geq 3 v0 v1 fun v9=>
 grdV v9 true (binV tab .leq 3 v0 v2 fun v13=>
 K v13 H)
 (K (AV.p (.bool false)) H)
theorem W63_wp (v0:AV) (v1:AV) (v2:AV) (H:Heap) (K:AV→Heap→Prop):wpC Tryz.prog tab D63 (bO_ Tryz.f63) (retF tab [.tmp 6] K) (nthA [v0,v1,v2]) H=W63 v0 v1 v2 H K:=by kernel_rfl
theorem W63_ok {v0 v1 v2:AV} {H:Heap} {K:AV→Heap→Prop} (h:W63 v0 v1 v2 H K):CallT Tryz.prog 63 [v0,v1,v2] H K:=
 CallT.of_wp (D:=D63) tO_ mixed Tryz.func63 (c:=bO_ Tryz.f63) (by kernel_rfl) rfl (by kernel_rfl) (rs:=#[.tmp 6]) rfl (by decide +kernel) (by kernel_rfl) (W63_wp v0 v1 v2 H K) h
end Go.Proofs.YtolffbcnbcjeaaaGreat
