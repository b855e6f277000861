/- Texts laid together: Lr0 Tab W0. -/
import Derived.Test.YtolffbcnbcjeaaaGreatPkc2
import Derived.Test.YtolffbcnbcjeaaaGreatProg
import Derived.KernelRfl
set_option linter.unusedVariables false
set_option linter.unusedSimpArgs false
open Nat renaming reduceAdd→ν1,reduceLeDiff→ν2,reduceLT→ν3,reduceMul→ν4,reduceSub→ν5
open Int renaming reduceToNat→ι1,reduceSub→ι2,reduceAdd→ι3,reduceNeg→ι4
open Array renaming toList→ι5
open Ne renaming symm→ν6
open List renaming forall_mem_cons→ν7
namespace Go.Sep
open Go Go.RowKit
def fieldsAre (P:Program) (t:TypeId) (ts:List TypeId):Bool:=match P.underlying t with
  | some (.struct fs)=>decide (fs.toList.map (·.type)=ts)
  | _=>false
def intIs (P:Program) (t:TypeId) (k:IntKind):Bool:=match P.underlying t with
  | some (.int k')=>decide (k'=k)
  | _=>false
def sliceIs (P:Program) (t e:TypeId):Bool:=match P.underlying t with
  | some (.slice e')=>decide (e'=e)
  | _=>false
theorem fieldsAre_ok {P:Program} {t:TypeId} {ts:List TypeId} (h:fieldsAre P t ts=true):∃fs,P.underlying t=some (.struct fs)∧fs.toList.map (·.type)=ts:=by
  unfold fieldsAre at h
  split at h
  · rename_i fs hu;exact ⟨fs,hu,of_decide_eq_true h⟩
  · cases h
theorem intIs_ok {P:Program} {t:TypeId} {k:IntKind} (h:intIs P t k=true):P.underlying t=some (.int k):=by
  unfold intIs at h
  split at h
  · rename_i k' hu;rw [hu,of_decide_eq_true h]
  · cases h
theorem sliceIs_ok {P:Program} {t e:TypeId} (h:sliceIs P t e=true):P.underlying t=some (.slice e):=by
  unfold sliceIs at h
  split at h
  · rename_i k' hu;rw [hu,of_decide_eq_true h]
  · cases h
theorem typed_int {P:Program} {t:TypeId} {k:IntKind} (hi:intIs P t k=true) {x:List PV} (h:Typed P t x):∃n,(Lit.int k n).wf=true∧x=[.int k n]:=by
  have hu:=intIs_ok hi
  cases h with
  | bool h=>rw [hu] at h;cases h
  | int h hw=>rw [hu] at h;cases h;exact ⟨_,hw,rfl⟩
  | str h _=>rw [hu] at h;cases h
  | sl h _ _=>rw [hu] at h;cases h
  | struct h _=>rw [hu] at h;cases h
theorem typed_slice {P:Program} {t e:TypeId} (hi:sliceIs P t e=true) {x:List PV} (h:Typed P t x):∃es,x=[.sl es]∧es.length≤9223372036854775807∧∀y∈es,Typed P e y:=by
  have hu:=sliceIs_ok hi
  cases h with
  | bool h=>rw [hu] at h;cases h
  | int h hw=>rw [hu] at h;cases h
  | str h _=>rw [hu] at h;cases h
  | sl h hl he=>rw [hu] at h;cases h;exact ⟨_,rfl,hl,he⟩
  | struct h _=>rw [hu] at h;cases h
theorem typed_fields {P:Program} {t:TypeId} {ts:List TypeId} (hf:fieldsAre P t ts=true) {x:List PV} (h:Typed P t x):TypedAll P ts x:=by
  obtain ⟨fs,hu,rfl⟩:=fieldsAre_ok hf
  cases h with
  | bool h=>rw [hu] at h;cases h
  | int h hw=>rw [hu] at h;cases h
  | str h _=>rw [hu] at h;cases h
  | sl h hl he=>rw [hu] at h;cases h
  | struct h hf=>rw [hu] at h;cases h;exact hf
theorem typedAll_cons {P:Program} {t:TypeId} {ts:List TypeId} {x:List PV} (h:TypedAll P (t::ts) x):∃a b,x=a++b∧Typed P t a∧TypedAll P ts b:=by
  cases h with
  | cons h r=>exact ⟨_,_,rfl,h,r⟩
theorem typedAll_nil {P:Program} {x:List PV} (h:TypedAll P [] x):x=[]:=by cases h;rfl
theorem arg_struct {P:Program} {t:TypeId} {ts:List TypeId} (hf:fieldsAre P t ts=true) {v:AV} (h:ArgT P t v):∃pvs,TypedAll P ts pvs∧v=.agg (pvs.map .p):=by
  obtain ⟨fs,hu,rfl⟩:=fieldsAre_ok hf
  cases h with
  | cell hs h=>exact absurd hu (hs fs)
  | agg hu' h=>rw [hu] at hu';cases hu';exact ⟨_,h,rfl⟩
theorem rows_of {α:Type} {Q:α→Prop} {e:α→List PV}:∀(es:List (List PV)),(∀y∈es,∃a,Q a∧y=e a)→∃az:List α,(∀a∈az,Q a)∧es=az.map e∧az.length=es.length
  | [],_=>⟨[],fun _ h=>by simp at h,rfl,rfl⟩
  | x::es,h=>by
    obtain ⟨a,ha,rfl⟩:=h x (by simp)
    obtain ⟨az,h1,rfl,h3⟩:=rows_of es fun y hy=>h y (by simp [hy])
    refine ⟨a::az,fun b hb=>?_,rfl,by simp⟩
    rcases List.mem_cons.1 hb with rfl | hb
    · exact ha
    · exact h1 b hb
theorem args_cons {P:Program} {t:TypeId} {ts:List TypeId} {avs:List AV} (h:ArgsT P (t::ts) avs):∃v vs,avs=v::vs∧ArgT P t v∧ArgsT P ts vs:=by
  cases h with
  | cons h r=>exact ⟨_,_,rfl,h,r⟩
theorem args_nil {P:Program} {avs:List AV} (h:ArgsT P [] avs):avs=[]:=by cases h;rfl
end Go.Sep
namespace Go.Proofs.YtolffbcnbcjeaaaGreat
open Go Go.Sep
def td1:TD:=⟨.func,1,8,[.nilfn]⟩
def td2:TD:=⟨.int .i64,1,8,[(.p (.int .i64 0))]⟩
def td3:TD:=⟨.int .i64,1,8,[(.p (.int .i64 0))]⟩
def td4:TD:=⟨.bool,1,1,[(.p (.bool false))]⟩
def td5:TD:=⟨.int .u8,1,1,[(.p (.int .u8 0))]⟩
def td6:TD:=⟨.int .u8,1,1,[(.p (.int .u8 0))]⟩
def td9:TD:=⟨.str,1,16,[(.p (.str ⟨#[]⟩))]⟩
def td10:TD:=⟨.str,1,16,[(.p (.str ⟨#[]⟩))]⟩
def td11:TD:=⟨.str,1,16,[(.p (.str ⟨#[]⟩))]⟩
def td12:TD:=⟨.int .u64,1,8,[(.p (.int .u64 0))]⟩
def td15:TD:=⟨.ptr 182,1,8,[.nilp]⟩
def td16:TD:=⟨.ptr 185,1,8,[.nilp]⟩
def td17:TD:=⟨.ptr 194,1,8,[.nilp]⟩
def td21:TD:=⟨.int .i32,1,4,[(.p (.int .i32 0))]⟩
def td22:TD:=⟨.slice 3,1,24,[(.p .nil)]⟩
def td23:TD:=⟨.slice 101,1,24,[(.p .nil)]⟩
def td24:TD:=⟨.slice 22,1,24,[(.p .nil)]⟩
def td25:TD:=⟨.struct [(0,3),(1,22),(2,23),(3,24)],4,80,[(.p (.int .i64 0)),(.p .nil),(.p .nil),(.p .nil)]⟩
def td26:TD:=⟨.struct [(0,3),(1,22),(2,23),(3,24)],4,80,[(.p (.int .i64 0)),(.p .nil),(.p .nil),(.p .nil)]⟩
def td27:TD:=⟨.func,1,8,[.nilfn]⟩
def td28:TD:=⟨.struct [(0,22),(1,22)],2,48,[(.p .nil),(.p .nil)]⟩
def td29:TD:=⟨.struct [(0,22),(1,22)],2,48,[(.p .nil),(.p .nil)]⟩
def td31:TD:=⟨.func,1,8,[.nilfn]⟩
def td32:TD:=⟨.slice 84,1,24,[(.p .nil)]⟩
def td33:TD:=⟨.struct [(0,3),(1,22),(2,32),(3,24)],4,80,[(.p (.int .i64 0)),(.p .nil),(.p .nil),(.p .nil)]⟩
def td34:TD:=⟨.struct [(0,3),(1,22),(2,32),(3,24)],4,80,[(.p (.int .i64 0)),(.p .nil),(.p .nil),(.p .nil)]⟩
def td35:TD:=⟨.func,1,8,[.nilfn]⟩
def td36:TD:=⟨.func,1,8,[.nilfn]⟩
def td37:TD:=⟨.func,1,8,[.nilfn]⟩
def td38:TD:=⟨.func,1,8,[.nilfn]⟩
def td39:TD:=⟨.func,1,8,[.nilfn]⟩
def td40:TD:=⟨.func,1,8,[.nilfn]⟩
def td41:TD:=⟨.slice 78,1,24,[(.p .nil)]⟩
def td42:TD:=⟨.func,1,8,[.nilfn]⟩
def td44:TD:=⟨.func,1,8,[.nilfn]⟩
def td45:TD:=⟨.slice 76,1,24,[(.p .nil)]⟩
def td46:TD:=⟨.func,1,8,[.nilfn]⟩
def td47:TD:=⟨.func,1,8,[.nilfn]⟩
def td48:TD:=⟨.func,1,8,[.nilfn]⟩
def td49:TD:=⟨.func,1,8,[.nilfn]⟩
def td50:TD:=⟨.func,1,8,[.nilfn]⟩
def td51:TD:=⟨.func,1,8,[.nilfn]⟩
def td52:TD:=⟨.func,1,8,[.nilfn]⟩
def td53:TD:=⟨.func,1,8,[.nilfn]⟩
def td54:TD:=⟨.func,1,8,[.nilfn]⟩
def td55:TD:=⟨.func,1,8,[.nilfn]⟩
def td56:TD:=⟨.func,1,8,[.nilfn]⟩
def td58:TD:=⟨.func,1,8,[.nilfn]⟩
def td59:TD:=⟨.func,1,8,[.nilfn]⟩
def td60:TD:=⟨.func,1,8,[.nilfn]⟩
def td61:TD:=⟨.func,1,8,[.nilfn]⟩
def td62:TD:=⟨.func,1,8,[.nilfn]⟩
def td63:TD:=⟨.func,1,8,[.nilfn]⟩
def td64:TD:=⟨.func,1,8,[.nilfn]⟩
def td65:TD:=⟨.func,1,8,[.nilfn]⟩
def td66:TD:=⟨.func,1,8,[.nilfn]⟩
def td67:TD:=⟨.func,1,8,[.nilfn]⟩
def td68:TD:=⟨.func,1,8,[.nilfn]⟩
def td69:TD:=⟨.func,1,8,[.nilfn]⟩
def td70:TD:=⟨.func,1,8,[.nilfn]⟩
def td71:TD:=⟨.func,1,8,[.nilfn]⟩
def td72:TD:=⟨.func,1,8,[.nilfn]⟩
def td73:TD:=⟨.func,1,8,[.nilfn]⟩
def td74:TD:=⟨.func,1,8,[.nilfn]⟩
def td75:TD:=⟨.struct [(0,3),(1,3)],2,16,[(.p (.int .i64 0)),(.p (.int .i64 0))]⟩
def td76:TD:=⟨.struct [(0,3),(1,3)],2,16,[(.p (.int .i64 0)),(.p (.int .i64 0))]⟩
def td77:TD:=⟨.func,1,8,[.nilfn]⟩
def td78:TD:=⟨.struct [(0,3),(1,3)],2,16,[(.p (.int .i64 0)),(.p (.int .i64 0))]⟩
def td80:TD:=⟨.func,1,8,[.nilfn]⟩
def td81:TD:=⟨.func,1,8,[.nilfn]⟩
def td82:TD:=⟨.func,1,8,[.nilfn]⟩
def td83:TD:=⟨.struct [(0,3),(1,3),(2,3)],3,24,[(.p (.int .i64 0)),(.p (.int .i64 0)),(.p (.int .i64 0))]⟩
def td84:TD:=⟨.struct [(0,3),(1,3),(2,3)],3,24,[(.p (.int .i64 0)),(.p (.int .i64 0)),(.p (.int .i64 0))]⟩
def td85:TD:=⟨.func,1,8,[.nilfn]⟩
def td86:TD:=⟨.func,1,8,[.nilfn]⟩
def td87:TD:=⟨.func,1,8,[.nilfn]⟩
def td88:TD:=⟨.func,1,8,[.nilfn]⟩
def td89:TD:=⟨.func,1,8,[.nilfn]⟩
def td90:TD:=⟨.func,1,8,[.nilfn]⟩
def td91:TD:=⟨.func,1,8,[.nilfn]⟩
def td92:TD:=⟨.func,1,8,[.nilfn]⟩
def td93:TD:=⟨.func,1,8,[.nilfn]⟩
def td95:TD:=⟨.func,1,8,[.nilfn]⟩
def td96:TD:=⟨.func,1,8,[.nilfn]⟩
def td97:TD:=⟨.func,1,8,[.nilfn]⟩
def td98:TD:=⟨.func,1,8,[.nilfn]⟩
def td99:TD:=⟨.func,1,8,[.nilfn]⟩
def td100:TD:=⟨.func,1,8,[.nilfn]⟩
def td101:TD:=⟨.struct [(0,3),(1,3),(2,3)],3,24,[(.p (.int .i64 0)),(.p (.int .i64 0)),(.p (.int .i64 0))]⟩
def td102:TD:=⟨.func,1,8,[.nilfn]⟩
def td103:TD:=⟨.func,1,8,[.nilfn]⟩
def td104:TD:=⟨.func,1,8,[.nilfn]⟩
def td105:TD:=⟨.func,1,8,[.nilfn]⟩
def td106:TD:=⟨.func,1,8,[.nilfn]⟩
def td107:TD:=⟨.func,1,8,[.nilfn]⟩
def td108:TD:=⟨.func,1,8,[.nilfn]⟩
def td109:TD:=⟨.func,1,8,[.nilfn]⟩
def td110:TD:=⟨.func,1,8,[.nilfn]⟩
def td111:TD:=⟨.int .u64,1,8,[(.p (.int .u64 0))]⟩
def td112:TD:=⟨.func,1,8,[.nilfn]⟩
def td113:TD:=⟨.func,1,8,[.nilfn]⟩
def td114:TD:=⟨.func,1,8,[.nilfn]⟩
def td115:TD:=⟨.func,1,8,[.nilfn]⟩
def td116:TD:=⟨.slice 4,1,24,[(.p .nil)]⟩
def td117:TD:=⟨.func,1,8,[.nilfn]⟩
def td118:TD:=⟨.func,1,8,[.nilfn]⟩
def td119:TD:=⟨.func,1,8,[.nilfn]⟩
def td120:TD:=⟨.func,1,8,[.nilfn]⟩
def td121:TD:=⟨.func,1,8,[.nilfn]⟩
def td122:TD:=⟨.func,1,8,[.nilfn]⟩
def td123:TD:=⟨.ptr 125,1,8,[.nilp]⟩
def td124:TD:=⟨.struct [(0,24),(1,116),(2,22)],3,72,[(.p .nil),(.p .nil),(.p .nil)]⟩
def td125:TD:=⟨.struct [(0,24),(1,116),(2,22)],3,72,[(.p .nil),(.p .nil),(.p .nil)]⟩
def td126:TD:=⟨.func,1,8,[.nilfn]⟩
def td127:TD:=⟨.func,1,8,[.nilfn]⟩
def td128:TD:=⟨.func,1,8,[.nilfn]⟩
def td129:TD:=⟨.func,1,8,[.nilfn]⟩
def td130:TD:=⟨.func,1,8,[.nilfn]⟩
def td131:TD:=⟨.ptr 133,1,8,[.nilp]⟩
def td132:TD:=⟨.struct [(0,24),(1,22),(2,22),(3,22),(4,22),(5,3)],6,128,[(.p .nil),(.p .nil),(.p .nil),(.p .nil),(.p .nil),(.p (.int .i64 0))]⟩
def td133:TD:=⟨.struct [(0,24),(1,22),(2,22),(3,22),(4,22),(5,3)],6,128,[(.p .nil),(.p .nil),(.p .nil),(.p .nil),(.p .nil),(.p (.int .i64 0))]⟩
def td134:TD:=⟨.func,1,8,[.nilfn]⟩
def td135:TD:=⟨.func,1,8,[.nilfn]⟩
def td136:TD:=⟨.func,1,8,[.nilfn]⟩
def td137:TD:=⟨.func,1,8,[.nilfn]⟩
def td138:TD:=⟨.func,1,8,[.nilfn]⟩
def td139:TD:=⟨.func,1,8,[.nilfn]⟩
def td140:TD:=⟨.func,1,8,[.nilfn]⟩
def td141:TD:=⟨.func,1,8,[.nilfn]⟩
def td142:TD:=⟨.func,1,8,[.nilfn]⟩
def td144:TD:=⟨.func,1,8,[.nilfn]⟩
def td145:TD:=⟨.func,1,8,[.nilfn]⟩
def td146:TD:=⟨.func,1,8,[.nilfn]⟩
def td147:TD:=⟨.int .i64,1,8,[(.p (.int .i64 0))]⟩
def td149:TD:=⟨.func,1,8,[.nilfn]⟩
def td150:TD:=⟨.func,1,8,[.nilfn]⟩
def td151:TD:=⟨.func,1,8,[.nilfn]⟩
def td153:TD:=⟨.func,1,8,[.nilfn]⟩
def td154:TD:=⟨.func,1,8,[.nilfn]⟩
def td155:TD:=⟨.int .u32,1,4,[(.p (.int .u32 0))]⟩
def td156:TD:=⟨.func,1,8,[.nilfn]⟩
def td157:TD:=⟨.int .u64,1,8,[(.p (.int .u64 0))]⟩
def td158:TD:=⟨.func,1,8,[.nilfn]⟩
def td159:TD:=⟨.func,1,8,[.nilfn]⟩
def td160:TD:=⟨.func,1,8,[.nilfn]⟩
def td161:TD:=⟨.func,1,8,[.nilfn]⟩
def td162:TD:=⟨.func,1,8,[.nilfn]⟩
def td163:TD:=⟨.func,1,8,[.nilfn]⟩
def td165:TD:=⟨.func,1,8,[.nilfn]⟩
def td167:TD:=⟨.func,1,8,[.nilfn]⟩
def td168:TD:=⟨.int .u64,1,8,[(.p (.int .u64 0))]⟩
def td169:TD:=⟨.func,1,8,[.nilfn]⟩
def td170:TD:=⟨.func,1,8,[.nilfn]⟩
def td171:TD:=⟨.func,1,8,[.nilfn]⟩
def td172:TD:=⟨.ptr 3,1,8,[.nilp]⟩
def td173:TD:=⟨.func,1,8,[.nilfn]⟩
def td174:TD:=⟨.func,1,8,[.nilfn]⟩
def td175:TD:=⟨.func,1,8,[.nilfn]⟩
def td176:TD:=⟨.ptr 168,1,8,[.nilp]⟩
def td178:TD:=⟨.func,1,8,[.nilfn]⟩
def td179:TD:=⟨.func,1,8,[.nilfn]⟩
def td180:TD:=⟨.func,1,8,[.nilfn]⟩
def td186:TD:=⟨.func,1,8,[.nilfn]⟩
def td187:TD:=⟨.int .u8,1,1,[(.p (.int .u8 0))]⟩
def td188:TD:=⟨.int .u8,1,1,[(.p (.int .u8 0))]⟩
def td189:TD:=⟨.func,1,8,[.nilfn]⟩
def td190:TD:=⟨.ptr 5,1,8,[.nilp]⟩
def td191:TD:=⟨.int .i32,1,4,[(.p (.int .i32 0))]⟩
def td192:TD:=⟨.int .i32,1,4,[(.p (.int .i32 0))]⟩
def tabL:List (Nat×TD):=[(1,td1),(2,td2),(3,td3),(4,td4),(5,td5),(6,td6),(9,td9),(10,td10),(11,td11),(12,td12),(15,td15),(16,td16),(17,td17),(21,td21),(22,td22),(23,td23),(24,td24),(25,td25),(26,td26),(27,td27),(28,td28),(29,td29),(31,td31),(32,td32),(33,td33),(34,td34),(35,td35),(36,td36),(37,td37),(38,td38),(39,td39),(40,td40),(41,td41),(42,td42),(44,td44),(45,td45),(46,td46),(47,td47),(48,td48),(49,td49),(50,td50),(51,td51),(52,td52),(53,td53),(54,td54),(55,td55),(56,td56),(58,td58),(59,td59),(60,td60),(61,td61),(62,td62),(63,td63),(64,td64),(65,td65),(66,td66),(67,td67),(68,td68),(69,td69),(70,td70),(71,td71),(72,td72),(73,td73),(74,td74),(75,td75),(76,td76),(77,td77),(78,td78),(80,td80),(81,td81),(82,td82),(83,td83),(84,td84),(85,td85),(86,td86),(87,td87),(88,td88),(89,td89),(90,td90),(91,td91),(92,td92),(93,td93),(95,td95),(96,td96),(97,td97),(98,td98),(99,td99),(100,td100),(101,td101),(102,td102),(103,td103),(104,td104),(105,td105),(106,td106),(107,td107),(108,td108),(109,td109),(110,td110),(111,td111),(112,td112),(113,td113),(114,td114),(115,td115),(116,td116),(117,td117),(118,td118),(119,td119),(120,td120),(121,td121),(122,td122),(123,td123),(124,td124),(125,td125),(126,td126),(127,td127),(128,td128),(129,td129),(130,td130),(131,td131),(132,td132),(133,td133),(134,td134),(135,td135),(136,td136),(137,td137),(138,td138),(139,td139),(140,td140),(141,td141),(142,td142),(144,td144),(145,td145),(146,td146),(147,td147),(149,td149),(150,td150),(151,td151),(153,td153),(154,td154),(155,td155),(156,td156),(157,td157),(158,td158),(159,td159),(160,td160),(161,td161),(162,td162),(163,td163),(165,td165),(167,td167),(168,td168),(169,td169),(170,td170),(171,td171),(172,td172),(173,td173),(174,td174),(175,td175),(176,td176),(178,td178),(179,td179),(180,td180),(186,td186),(187,td187),(188,td188),(189,td189),(190,td190),(191,td191),(192,td192)]
def tab:Tab:=fun t=>(tabL.find? (fun p=>p.1==t)).map (·.2)
theorem tab_1:tab 1=some ⟨.func,1,8,[.nilfn]⟩:=rfl
theorem tab_2:tab 2=some ⟨.int .i64,1,8,[(.p (.int .i64 0))]⟩:=rfl
theorem tab_3:tab 3=some ⟨.int .i64,1,8,[(.p (.int .i64 0))]⟩:=rfl
theorem tab_4:tab 4=some ⟨.bool,1,1,[(.p (.bool false))]⟩:=rfl
theorem tab_5:tab 5=some ⟨.int .u8,1,1,[(.p (.int .u8 0))]⟩:=rfl
theorem tab_6:tab 6=some ⟨.int .u8,1,1,[(.p (.int .u8 0))]⟩:=rfl
theorem tab_9:tab 9=some ⟨.str,1,16,[(.p (.str ⟨#[]⟩))]⟩:=rfl
theorem tab_10:tab 10=some ⟨.str,1,16,[(.p (.str ⟨#[]⟩))]⟩:=rfl
theorem tab_11:tab 11=some ⟨.str,1,16,[(.p (.str ⟨#[]⟩))]⟩:=rfl
theorem tab_12:tab 12=some ⟨.int .u64,1,8,[(.p (.int .u64 0))]⟩:=rfl
theorem tab_15:tab 15=some ⟨.ptr 182,1,8,[.nilp]⟩:=rfl
theorem tab_16:tab 16=some ⟨.ptr 185,1,8,[.nilp]⟩:=rfl
theorem tab_17:tab 17=some ⟨.ptr 194,1,8,[.nilp]⟩:=rfl
theorem tab_21:tab 21=some ⟨.int .i32,1,4,[(.p (.int .i32 0))]⟩:=rfl
theorem tab_22:tab 22=some ⟨.slice 3,1,24,[(.p .nil)]⟩:=rfl
theorem tab_23:tab 23=some ⟨.slice 101,1,24,[(.p .nil)]⟩:=rfl
theorem tab_24:tab 24=some ⟨.slice 22,1,24,[(.p .nil)]⟩:=rfl
theorem tab_25:tab 25=some ⟨.struct [(0,3),(1,22),(2,23),(3,24)],4,80,[(.p (.int .i64 0)),(.p .nil),(.p .nil),(.p .nil)]⟩:=rfl
theorem tab_26:tab 26=some ⟨.struct [(0,3),(1,22),(2,23),(3,24)],4,80,[(.p (.int .i64 0)),(.p .nil),(.p .nil),(.p .nil)]⟩:=rfl
theorem tab_27:tab 27=some ⟨.func,1,8,[.nilfn]⟩:=rfl
theorem tab_28:tab 28=some ⟨.struct [(0,22),(1,22)],2,48,[(.p .nil),(.p .nil)]⟩:=rfl
theorem tab_29:tab 29=some ⟨.struct [(0,22),(1,22)],2,48,[(.p .nil),(.p .nil)]⟩:=rfl
theorem tab_31:tab 31=some ⟨.func,1,8,[.nilfn]⟩:=rfl
theorem tab_32:tab 32=some ⟨.slice 84,1,24,[(.p .nil)]⟩:=rfl
theorem tab_33:tab 33=some ⟨.struct [(0,3),(1,22),(2,32),(3,24)],4,80,[(.p (.int .i64 0)),(.p .nil),(.p .nil),(.p .nil)]⟩:=rfl
theorem tab_34:tab 34=some ⟨.struct [(0,3),(1,22),(2,32),(3,24)],4,80,[(.p (.int .i64 0)),(.p .nil),(.p .nil),(.p .nil)]⟩:=rfl
theorem tab_35:tab 35=some ⟨.func,1,8,[.nilfn]⟩:=rfl
theorem tab_36:tab 36=some ⟨.func,1,8,[.nilfn]⟩:=rfl
theorem tab_37:tab 37=some ⟨.func,1,8,[.nilfn]⟩:=rfl
theorem tab_38:tab 38=some ⟨.func,1,8,[.nilfn]⟩:=rfl
theorem tab_39:tab 39=some ⟨.func,1,8,[.nilfn]⟩:=rfl
theorem tab_40:tab 40=some ⟨.func,1,8,[.nilfn]⟩:=rfl
theorem tab_41:tab 41=some ⟨.slice 78,1,24,[(.p .nil)]⟩:=rfl
theorem tab_42:tab 42=some ⟨.func,1,8,[.nilfn]⟩:=rfl
theorem tab_44:tab 44=some ⟨.func,1,8,[.nilfn]⟩:=rfl
theorem tab_45:tab 45=some ⟨.slice 76,1,24,[(.p .nil)]⟩:=rfl
theorem tab_46:tab 46=some ⟨.func,1,8,[.nilfn]⟩:=rfl
theorem tab_47:tab 47=some ⟨.func,1,8,[.nilfn]⟩:=rfl
theorem tab_48:tab 48=some ⟨.func,1,8,[.nilfn]⟩:=rfl
theorem tab_49:tab 49=some ⟨.func,1,8,[.nilfn]⟩:=rfl
theorem tab_50:tab 50=some ⟨.func,1,8,[.nilfn]⟩:=rfl
theorem tab_51:tab 51=some ⟨.func,1,8,[.nilfn]⟩:=rfl
theorem tab_52:tab 52=some ⟨.func,1,8,[.nilfn]⟩:=rfl
theorem tab_53:tab 53=some ⟨.func,1,8,[.nilfn]⟩:=rfl
theorem tab_54:tab 54=some ⟨.func,1,8,[.nilfn]⟩:=rfl
theorem tab_55:tab 55=some ⟨.func,1,8,[.nilfn]⟩:=rfl
theorem tab_56:tab 56=some ⟨.func,1,8,[.nilfn]⟩:=rfl
theorem tab_58:tab 58=some ⟨.func,1,8,[.nilfn]⟩:=rfl
theorem tab_59:tab 59=some ⟨.func,1,8,[.nilfn]⟩:=rfl
theorem tab_60:tab 60=some ⟨.func,1,8,[.nilfn]⟩:=rfl
theorem tab_61:tab 61=some ⟨.func,1,8,[.nilfn]⟩:=rfl
theorem tab_62:tab 62=some ⟨.func,1,8,[.nilfn]⟩:=rfl
theorem tab_63:tab 63=some ⟨.func,1,8,[.nilfn]⟩:=rfl
theorem tab_64:tab 64=some ⟨.func,1,8,[.nilfn]⟩:=rfl
theorem tab_65:tab 65=some ⟨.func,1,8,[.nilfn]⟩:=rfl
theorem tab_66:tab 66=some ⟨.func,1,8,[.nilfn]⟩:=rfl
theorem tab_67:tab 67=some ⟨.func,1,8,[.nilfn]⟩:=rfl
theorem tab_68:tab 68=some ⟨.func,1,8,[.nilfn]⟩:=rfl
theorem tab_69:tab 69=some ⟨.func,1,8,[.nilfn]⟩:=rfl
theorem tab_70:tab 70=some ⟨.func,1,8,[.nilfn]⟩:=rfl
theorem tab_71:tab 71=some ⟨.func,1,8,[.nilfn]⟩:=rfl
theorem tab_72:tab 72=some ⟨.func,1,8,[.nilfn]⟩:=rfl
theorem tab_73:tab 73=some ⟨.func,1,8,[.nilfn]⟩:=rfl
theorem tab_74:tab 74=some ⟨.func,1,8,[.nilfn]⟩:=rfl
theorem tab_75:tab 75=some ⟨.struct [(0,3),(1,3)],2,16,[(.p (.int .i64 0)),(.p (.int .i64 0))]⟩:=rfl
theorem tab_76:tab 76=some ⟨.struct [(0,3),(1,3)],2,16,[(.p (.int .i64 0)),(.p (.int .i64 0))]⟩:=rfl
theorem tab_77:tab 77=some ⟨.func,1,8,[.nilfn]⟩:=rfl
theorem tab_78:tab 78=some ⟨.struct [(0,3),(1,3)],2,16,[(.p (.int .i64 0)),(.p (.int .i64 0))]⟩:=rfl
theorem tab_80:tab 80=some ⟨.func,1,8,[.nilfn]⟩:=rfl
theorem tab_81:tab 81=some ⟨.func,1,8,[.nilfn]⟩:=rfl
theorem tab_82:tab 82=some ⟨.func,1,8,[.nilfn]⟩:=rfl
theorem tab_83:tab 83=some ⟨.struct [(0,3),(1,3),(2,3)],3,24,[(.p (.int .i64 0)),(.p (.int .i64 0)),(.p (.int .i64 0))]⟩:=rfl
theorem tab_84:tab 84=some ⟨.struct [(0,3),(1,3),(2,3)],3,24,[(.p (.int .i64 0)),(.p (.int .i64 0)),(.p (.int .i64 0))]⟩:=rfl
theorem tab_85:tab 85=some ⟨.func,1,8,[.nilfn]⟩:=rfl
theorem tab_86:tab 86=some ⟨.func,1,8,[.nilfn]⟩:=rfl
theorem tab_87:tab 87=some ⟨.func,1,8,[.nilfn]⟩:=rfl
theorem tab_88:tab 88=some ⟨.func,1,8,[.nilfn]⟩:=rfl
theorem tab_89:tab 89=some ⟨.func,1,8,[.nilfn]⟩:=rfl
theorem tab_90:tab 90=some ⟨.func,1,8,[.nilfn]⟩:=rfl
theorem tab_91:tab 91=some ⟨.func,1,8,[.nilfn]⟩:=rfl
theorem tab_92:tab 92=some ⟨.func,1,8,[.nilfn]⟩:=rfl
theorem tab_93:tab 93=some ⟨.func,1,8,[.nilfn]⟩:=rfl
theorem tab_95:tab 95=some ⟨.func,1,8,[.nilfn]⟩:=rfl
theorem tab_96:tab 96=some ⟨.func,1,8,[.nilfn]⟩:=rfl
theorem tab_97:tab 97=some ⟨.func,1,8,[.nilfn]⟩:=rfl
theorem tab_98:tab 98=some ⟨.func,1,8,[.nilfn]⟩:=rfl
theorem tab_99:tab 99=some ⟨.func,1,8,[.nilfn]⟩:=rfl
theorem tab_100:tab 100=some ⟨.func,1,8,[.nilfn]⟩:=rfl
theorem tab_101:tab 101=some ⟨.struct [(0,3),(1,3),(2,3)],3,24,[(.p (.int .i64 0)),(.p (.int .i64 0)),(.p (.int .i64 0))]⟩:=rfl
theorem tab_102:tab 102=some ⟨.func,1,8,[.nilfn]⟩:=rfl
theorem tab_103:tab 103=some ⟨.func,1,8,[.nilfn]⟩:=rfl
theorem tab_104:tab 104=some ⟨.func,1,8,[.nilfn]⟩:=rfl
theorem tab_105:tab 105=some ⟨.func,1,8,[.nilfn]⟩:=rfl
theorem tab_106:tab 106=some ⟨.func,1,8,[.nilfn]⟩:=rfl
theorem tab_107:tab 107=some ⟨.func,1,8,[.nilfn]⟩:=rfl
theorem tab_108:tab 108=some ⟨.func,1,8,[.nilfn]⟩:=rfl
theorem tab_109:tab 109=some ⟨.func,1,8,[.nilfn]⟩:=rfl
theorem tab_110:tab 110=some ⟨.func,1,8,[.nilfn]⟩:=rfl
theorem tab_111:tab 111=some ⟨.int .u64,1,8,[(.p (.int .u64 0))]⟩:=rfl
theorem tab_112:tab 112=some ⟨.func,1,8,[.nilfn]⟩:=rfl
theorem tab_113:tab 113=some ⟨.func,1,8,[.nilfn]⟩:=rfl
theorem tab_114:tab 114=some ⟨.func,1,8,[.nilfn]⟩:=rfl
theorem tab_115:tab 115=some ⟨.func,1,8,[.nilfn]⟩:=rfl
theorem tab_116:tab 116=some ⟨.slice 4,1,24,[(.p .nil)]⟩:=rfl
theorem tab_117:tab 117=some ⟨.func,1,8,[.nilfn]⟩:=rfl
theorem tab_118:tab 118=some ⟨.func,1,8,[.nilfn]⟩:=rfl
theorem tab_119:tab 119=some ⟨.func,1,8,[.nilfn]⟩:=rfl
theorem tab_120:tab 120=some ⟨.func,1,8,[.nilfn]⟩:=rfl
theorem tab_121:tab 121=some ⟨.func,1,8,[.nilfn]⟩:=rfl
theorem tab_122:tab 122=some ⟨.func,1,8,[.nilfn]⟩:=rfl
theorem tab_123:tab 123=some ⟨.ptr 125,1,8,[.nilp]⟩:=rfl
theorem tab_124:tab 124=some ⟨.struct [(0,24),(1,116),(2,22)],3,72,[(.p .nil),(.p .nil),(.p .nil)]⟩:=rfl
theorem tab_125:tab 125=some ⟨.struct [(0,24),(1,116),(2,22)],3,72,[(.p .nil),(.p .nil),(.p .nil)]⟩:=rfl
theorem tab_126:tab 126=some ⟨.func,1,8,[.nilfn]⟩:=rfl
theorem tab_127:tab 127=some ⟨.func,1,8,[.nilfn]⟩:=rfl
theorem tab_128:tab 128=some ⟨.func,1,8,[.nilfn]⟩:=rfl
theorem tab_129:tab 129=some ⟨.func,1,8,[.nilfn]⟩:=rfl
theorem tab_130:tab 130=some ⟨.func,1,8,[.nilfn]⟩:=rfl
theorem tab_131:tab 131=some ⟨.ptr 133,1,8,[.nilp]⟩:=rfl
theorem tab_132:tab 132=some ⟨.struct [(0,24),(1,22),(2,22),(3,22),(4,22),(5,3)],6,128,[(.p .nil),(.p .nil),(.p .nil),(.p .nil),(.p .nil),(.p (.int .i64 0))]⟩:=rfl
theorem tab_133:tab 133=some ⟨.struct [(0,24),(1,22),(2,22),(3,22),(4,22),(5,3)],6,128,[(.p .nil),(.p .nil),(.p .nil),(.p .nil),(.p .nil),(.p (.int .i64 0))]⟩:=rfl
theorem tab_134:tab 134=some ⟨.func,1,8,[.nilfn]⟩:=rfl
theorem tab_135:tab 135=some ⟨.func,1,8,[.nilfn]⟩:=rfl
theorem tab_136:tab 136=some ⟨.func,1,8,[.nilfn]⟩:=rfl
theorem tab_137:tab 137=some ⟨.func,1,8,[.nilfn]⟩:=rfl
theorem tab_138:tab 138=some ⟨.func,1,8,[.nilfn]⟩:=rfl
theorem tab_139:tab 139=some ⟨.func,1,8,[.nilfn]⟩:=rfl
theorem tab_140:tab 140=some ⟨.func,1,8,[.nilfn]⟩:=rfl
theorem tab_141:tab 141=some ⟨.func,1,8,[.nilfn]⟩:=rfl
theorem tab_142:tab 142=some ⟨.func,1,8,[.nilfn]⟩:=rfl
theorem tab_144:tab 144=some ⟨.func,1,8,[.nilfn]⟩:=rfl
theorem tab_145:tab 145=some ⟨.func,1,8,[.nilfn]⟩:=rfl
theorem tab_146:tab 146=some ⟨.func,1,8,[.nilfn]⟩:=rfl
theorem tab_147:tab 147=some ⟨.int .i64,1,8,[(.p (.int .i64 0))]⟩:=rfl
theorem tab_149:tab 149=some ⟨.func,1,8,[.nilfn]⟩:=rfl
theorem tab_150:tab 150=some ⟨.func,1,8,[.nilfn]⟩:=rfl
theorem tab_151:tab 151=some ⟨.func,1,8,[.nilfn]⟩:=rfl
theorem tab_153:tab 153=some ⟨.func,1,8,[.nilfn]⟩:=rfl
theorem tab_154:tab 154=some ⟨.func,1,8,[.nilfn]⟩:=rfl
theorem tab_155:tab 155=some ⟨.int .u32,1,4,[(.p (.int .u32 0))]⟩:=rfl
theorem tab_156:tab 156=some ⟨.func,1,8,[.nilfn]⟩:=rfl
theorem tab_157:tab 157=some ⟨.int .u64,1,8,[(.p (.int .u64 0))]⟩:=rfl
theorem tab_158:tab 158=some ⟨.func,1,8,[.nilfn]⟩:=rfl
theorem tab_159:tab 159=some ⟨.func,1,8,[.nilfn]⟩:=rfl
theorem tab_160:tab 160=some ⟨.func,1,8,[.nilfn]⟩:=rfl
theorem tab_161:tab 161=some ⟨.func,1,8,[.nilfn]⟩:=rfl
theorem tab_162:tab 162=some ⟨.func,1,8,[.nilfn]⟩:=rfl
theorem tab_163:tab 163=some ⟨.func,1,8,[.nilfn]⟩:=rfl
theorem tab_165:tab 165=some ⟨.func,1,8,[.nilfn]⟩:=rfl
theorem tab_167:tab 167=some ⟨.func,1,8,[.nilfn]⟩:=rfl
theorem tab_168:tab 168=some ⟨.int .u64,1,8,[(.p (.int .u64 0))]⟩:=rfl
theorem tab_169:tab 169=some ⟨.func,1,8,[.nilfn]⟩:=rfl
theorem tab_170:tab 170=some ⟨.func,1,8,[.nilfn]⟩:=rfl
theorem tab_171:tab 171=some ⟨.func,1,8,[.nilfn]⟩:=rfl
theorem tab_172:tab 172=some ⟨.ptr 3,1,8,[.nilp]⟩:=rfl
theorem tab_173:tab 173=some ⟨.func,1,8,[.nilfn]⟩:=rfl
theorem tab_174:tab 174=some ⟨.func,1,8,[.nilfn]⟩:=rfl
theorem tab_175:tab 175=some ⟨.func,1,8,[.nilfn]⟩:=rfl
theorem tab_176:tab 176=some ⟨.ptr 168,1,8,[.nilp]⟩:=rfl
theorem tab_178:tab 178=some ⟨.func,1,8,[.nilfn]⟩:=rfl
theorem tab_179:tab 179=some ⟨.func,1,8,[.nilfn]⟩:=rfl
theorem tab_180:tab 180=some ⟨.func,1,8,[.nilfn]⟩:=rfl
theorem tab_186:tab 186=some ⟨.func,1,8,[.nilfn]⟩:=rfl
theorem tab_187:tab 187=some ⟨.int .u8,1,1,[(.p (.int .u8 0))]⟩:=rfl
theorem tab_188:tab 188=some ⟨.int .u8,1,1,[(.p (.int .u8 0))]⟩:=rfl
theorem tab_189:tab 189=some ⟨.func,1,8,[.nilfn]⟩:=rfl
theorem tab_190:tab 190=some ⟨.ptr 5,1,8,[.nilp]⟩:=rfl
theorem tab_191:tab 191=some ⟨.int .i32,1,4,[(.p (.int .i32 0))]⟩:=rfl
theorem tab_192:tab 192=some ⟨.int .i32,1,4,[(.p (.int .i32 0))]⟩:=rfl
set_option maxRecDepth 100000 in
theorem tabs:tab 1=some ⟨.func,1,8,[.nilfn]⟩∧tab 2=some ⟨.int .i64,1,8,[(.p (.int .i64 0))]⟩∧tab 3=some ⟨.int .i64,1,8,[(.p (.int .i64 0))]⟩∧tab 4=some ⟨.bool,1,1,[(.p (.bool false))]⟩∧tab 5=some ⟨.int .u8,1,1,[(.p (.int .u8 0))]⟩∧tab 6=some ⟨.int .u8,1,1,[(.p (.int .u8 0))]⟩∧tab 9=some ⟨.str,1,16,[(.p (.str ⟨#[]⟩))]⟩∧tab 10=some ⟨.str,1,16,[(.p (.str ⟨#[]⟩))]⟩∧tab 11=some ⟨.str,1,16,[(.p (.str ⟨#[]⟩))]⟩∧tab 12=some ⟨.int .u64,1,8,[(.p (.int .u64 0))]⟩∧tab 15=some ⟨.ptr 182,1,8,[.nilp]⟩∧tab 16=some ⟨.ptr 185,1,8,[.nilp]⟩∧tab 17=some ⟨.ptr 194,1,8,[.nilp]⟩∧tab 21=some ⟨.int .i32,1,4,[(.p (.int .i32 0))]⟩∧tab 22=some ⟨.slice 3,1,24,[(.p .nil)]⟩∧tab 23=some ⟨.slice 101,1,24,[(.p .nil)]⟩∧tab 24=some ⟨.slice 22,1,24,[(.p .nil)]⟩∧tab 25=some ⟨.struct [(0,3),(1,22),(2,23),(3,24)],4,80,[(.p (.int .i64 0)),(.p .nil),(.p .nil),(.p .nil)]⟩∧tab 26=some ⟨.struct [(0,3),(1,22),(2,23),(3,24)],4,80,[(.p (.int .i64 0)),(.p .nil),(.p .nil),(.p .nil)]⟩∧tab 27=some ⟨.func,1,8,[.nilfn]⟩∧tab 28=some ⟨.struct [(0,22),(1,22)],2,48,[(.p .nil),(.p .nil)]⟩∧tab 29=some ⟨.struct [(0,22),(1,22)],2,48,[(.p .nil),(.p .nil)]⟩∧tab 31=some ⟨.func,1,8,[.nilfn]⟩∧tab 32=some ⟨.slice 84,1,24,[(.p .nil)]⟩∧tab 33=some ⟨.struct [(0,3),(1,22),(2,32),(3,24)],4,80,[(.p (.int .i64 0)),(.p .nil),(.p .nil),(.p .nil)]⟩∧tab 34=some ⟨.struct [(0,3),(1,22),(2,32),(3,24)],4,80,[(.p (.int .i64 0)),(.p .nil),(.p .nil),(.p .nil)]⟩∧tab 35=some ⟨.func,1,8,[.nilfn]⟩∧tab 36=some ⟨.func,1,8,[.nilfn]⟩∧tab 37=some ⟨.func,1,8,[.nilfn]⟩∧tab 38=some ⟨.func,1,8,[.nilfn]⟩∧tab 39=some ⟨.func,1,8,[.nilfn]⟩∧tab 40=some ⟨.func,1,8,[.nilfn]⟩∧tab 41=some ⟨.slice 78,1,24,[(.p .nil)]⟩∧tab 42=some ⟨.func,1,8,[.nilfn]⟩∧tab 44=some ⟨.func,1,8,[.nilfn]⟩∧tab 45=some ⟨.slice 76,1,24,[(.p .nil)]⟩∧tab 46=some ⟨.func,1,8,[.nilfn]⟩∧tab 47=some ⟨.func,1,8,[.nilfn]⟩∧tab 48=some ⟨.func,1,8,[.nilfn]⟩∧tab 49=some ⟨.func,1,8,[.nilfn]⟩∧tab 50=some ⟨.func,1,8,[.nilfn]⟩∧tab 51=some ⟨.func,1,8,[.nilfn]⟩∧tab 52=some ⟨.func,1,8,[.nilfn]⟩∧tab 53=some ⟨.func,1,8,[.nilfn]⟩∧tab 54=some ⟨.func,1,8,[.nilfn]⟩∧tab 55=some ⟨.func,1,8,[.nilfn]⟩∧tab 56=some ⟨.func,1,8,[.nilfn]⟩∧tab 58=some ⟨.func,1,8,[.nilfn]⟩∧tab 59=some ⟨.func,1,8,[.nilfn]⟩∧tab 60=some ⟨.func,1,8,[.nilfn]⟩∧tab 61=some ⟨.func,1,8,[.nilfn]⟩∧tab 62=some ⟨.func,1,8,[.nilfn]⟩∧tab 63=some ⟨.func,1,8,[.nilfn]⟩∧tab 64=some ⟨.func,1,8,[.nilfn]⟩∧tab 65=some ⟨.func,1,8,[.nilfn]⟩∧tab 66=some ⟨.func,1,8,[.nilfn]⟩∧tab 67=some ⟨.func,1,8,[.nilfn]⟩∧tab 68=some ⟨.func,1,8,[.nilfn]⟩∧tab 69=some ⟨.func,1,8,[.nilfn]⟩∧tab 70=some ⟨.func,1,8,[.nilfn]⟩∧tab 71=some ⟨.func,1,8,[.nilfn]⟩∧tab 72=some ⟨.func,1,8,[.nilfn]⟩∧tab 73=some ⟨.func,1,8,[.nilfn]⟩∧tab 74=some ⟨.func,1,8,[.nilfn]⟩∧tab 75=some ⟨.struct [(0,3),(1,3)],2,16,[(.p (.int .i64 0)),(.p (.int .i64 0))]⟩∧tab 76=some ⟨.struct [(0,3),(1,3)],2,16,[(.p (.int .i64 0)),(.p (.int .i64 0))]⟩∧tab 77=some ⟨.func,1,8,[.nilfn]⟩∧tab 78=some ⟨.struct [(0,3),(1,3)],2,16,[(.p (.int .i64 0)),(.p (.int .i64 0))]⟩∧tab 80=some ⟨.func,1,8,[.nilfn]⟩∧tab 81=some ⟨.func,1,8,[.nilfn]⟩∧tab 82=some ⟨.func,1,8,[.nilfn]⟩∧tab 83=some ⟨.struct [(0,3),(1,3),(2,3)],3,24,[(.p (.int .i64 0)),(.p (.int .i64 0)),(.p (.int .i64 0))]⟩∧tab 84=some ⟨.struct [(0,3),(1,3),(2,3)],3,24,[(.p (.int .i64 0)),(.p (.int .i64 0)),(.p (.int .i64 0))]⟩∧tab 85=some ⟨.func,1,8,[.nilfn]⟩∧tab 86=some ⟨.func,1,8,[.nilfn]⟩∧tab 87=some ⟨.func,1,8,[.nilfn]⟩∧tab 88=some ⟨.func,1,8,[.nilfn]⟩∧tab 89=some ⟨.func,1,8,[.nilfn]⟩∧tab 90=some ⟨.func,1,8,[.nilfn]⟩∧tab 91=some ⟨.func,1,8,[.nilfn]⟩∧tab 92=some ⟨.func,1,8,[.nilfn]⟩∧tab 93=some ⟨.func,1,8,[.nilfn]⟩∧tab 95=some ⟨.func,1,8,[.nilfn]⟩∧tab 96=some ⟨.func,1,8,[.nilfn]⟩∧tab 97=some ⟨.func,1,8,[.nilfn]⟩∧tab 98=some ⟨.func,1,8,[.nilfn]⟩∧tab 99=some ⟨.func,1,8,[.nilfn]⟩∧tab 100=some ⟨.func,1,8,[.nilfn]⟩∧tab 101=some ⟨.struct [(0,3),(1,3),(2,3)],3,24,[(.p (.int .i64 0)),(.p (.int .i64 0)),(.p (.int .i64 0))]⟩∧tab 102=some ⟨.func,1,8,[.nilfn]⟩∧tab 103=some ⟨.func,1,8,[.nilfn]⟩∧tab 104=some ⟨.func,1,8,[.nilfn]⟩∧tab 105=some ⟨.func,1,8,[.nilfn]⟩∧tab 106=some ⟨.func,1,8,[.nilfn]⟩∧tab 107=some ⟨.func,1,8,[.nilfn]⟩∧tab 108=some ⟨.func,1,8,[.nilfn]⟩∧tab 109=some ⟨.func,1,8,[.nilfn]⟩∧tab 110=some ⟨.func,1,8,[.nilfn]⟩∧tab 111=some ⟨.int .u64,1,8,[(.p (.int .u64 0))]⟩∧tab 112=some ⟨.func,1,8,[.nilfn]⟩∧tab 113=some ⟨.func,1,8,[.nilfn]⟩∧tab 114=some ⟨.func,1,8,[.nilfn]⟩∧tab 115=some ⟨.func,1,8,[.nilfn]⟩∧tab 116=some ⟨.slice 4,1,24,[(.p .nil)]⟩∧tab 117=some ⟨.func,1,8,[.nilfn]⟩∧tab 118=some ⟨.func,1,8,[.nilfn]⟩∧tab 119=some ⟨.func,1,8,[.nilfn]⟩∧tab 120=some ⟨.func,1,8,[.nilfn]⟩∧tab 121=some ⟨.func,1,8,[.nilfn]⟩∧tab 122=some ⟨.func,1,8,[.nilfn]⟩∧tab 123=some ⟨.ptr 125,1,8,[.nilp]⟩∧tab 124=some ⟨.struct [(0,24),(1,116),(2,22)],3,72,[(.p .nil),(.p .nil),(.p .nil)]⟩∧tab 125=some ⟨.struct [(0,24),(1,116),(2,22)],3,72,[(.p .nil),(.p .nil),(.p .nil)]⟩∧tab 126=some ⟨.func,1,8,[.nilfn]⟩∧tab 127=some ⟨.func,1,8,[.nilfn]⟩∧tab 128=some ⟨.func,1,8,[.nilfn]⟩∧tab 129=some ⟨.func,1,8,[.nilfn]⟩∧tab 130=some ⟨.func,1,8,[.nilfn]⟩∧tab 131=some ⟨.ptr 133,1,8,[.nilp]⟩∧tab 132=some ⟨.struct [(0,24),(1,22),(2,22),(3,22),(4,22),(5,3)],6,128,[(.p .nil),(.p .nil),(.p .nil),(.p .nil),(.p .nil),(.p (.int .i64 0))]⟩∧tab 133=some ⟨.struct [(0,24),(1,22),(2,22),(3,22),(4,22),(5,3)],6,128,[(.p .nil),(.p .nil),(.p .nil),(.p .nil),(.p .nil),(.p (.int .i64 0))]⟩∧tab 134=some ⟨.func,1,8,[.nilfn]⟩∧tab 135=some ⟨.func,1,8,[.nilfn]⟩∧tab 136=some ⟨.func,1,8,[.nilfn]⟩∧tab 137=some ⟨.func,1,8,[.nilfn]⟩∧tab 138=some ⟨.func,1,8,[.nilfn]⟩∧tab 139=some ⟨.func,1,8,[.nilfn]⟩∧tab 140=some ⟨.func,1,8,[.nilfn]⟩∧tab 141=some ⟨.func,1,8,[.nilfn]⟩∧tab 142=some ⟨.func,1,8,[.nilfn]⟩∧tab 144=some ⟨.func,1,8,[.nilfn]⟩∧tab 145=some ⟨.func,1,8,[.nilfn]⟩∧tab 146=some ⟨.func,1,8,[.nilfn]⟩∧tab 147=some ⟨.int .i64,1,8,[(.p (.int .i64 0))]⟩∧tab 149=some ⟨.func,1,8,[.nilfn]⟩∧tab 150=some ⟨.func,1,8,[.nilfn]⟩∧tab 151=some ⟨.func,1,8,[.nilfn]⟩∧tab 153=some ⟨.func,1,8,[.nilfn]⟩∧tab 154=some ⟨.func,1,8,[.nilfn]⟩∧tab 155=some ⟨.int .u32,1,4,[(.p (.int .u32 0))]⟩∧tab 156=some ⟨.func,1,8,[.nilfn]⟩∧tab 157=some ⟨.int .u64,1,8,[(.p (.int .u64 0))]⟩∧tab 158=some ⟨.func,1,8,[.nilfn]⟩∧tab 159=some ⟨.func,1,8,[.nilfn]⟩∧tab 160=some ⟨.func,1,8,[.nilfn]⟩∧tab 161=some ⟨.func,1,8,[.nilfn]⟩∧tab 162=some ⟨.func,1,8,[.nilfn]⟩∧tab 163=some ⟨.func,1,8,[.nilfn]⟩∧tab 165=some ⟨.func,1,8,[.nilfn]⟩∧tab 167=some ⟨.func,1,8,[.nilfn]⟩∧tab 168=some ⟨.int .u64,1,8,[(.p (.int .u64 0))]⟩∧tab 169=some ⟨.func,1,8,[.nilfn]⟩∧tab 170=some ⟨.func,1,8,[.nilfn]⟩∧tab 171=some ⟨.func,1,8,[.nilfn]⟩∧tab 172=some ⟨.ptr 3,1,8,[.nilp]⟩∧tab 173=some ⟨.func,1,8,[.nilfn]⟩∧tab 174=some ⟨.func,1,8,[.nilfn]⟩∧tab 175=some ⟨.func,1,8,[.nilfn]⟩∧tab 176=some ⟨.ptr 168,1,8,[.nilp]⟩∧tab 178=some ⟨.func,1,8,[.nilfn]⟩∧tab 179=some ⟨.func,1,8,[.nilfn]⟩∧tab 180=some ⟨.func,1,8,[.nilfn]⟩∧tab 186=some ⟨.func,1,8,[.nilfn]⟩∧tab 187=some ⟨.int .u8,1,1,[(.p (.int .u8 0))]⟩∧tab 188=some ⟨.int .u8,1,1,[(.p (.int .u8 0))]⟩∧tab 189=some ⟨.func,1,8,[.nilfn]⟩∧tab 190=some ⟨.ptr 5,1,8,[.nilp]⟩∧tab 191=some ⟨.int .i32,1,4,[(.p (.int .i32 0))]⟩∧tab 192=some ⟨.int .i32,1,4,[(.p (.int .i32 0))]⟩:=⟨tab_1,tab_2,tab_3,tab_4,tab_5,tab_6,tab_9,tab_10,tab_11,tab_12,tab_15,tab_16,tab_17,tab_21,tab_22,tab_23,tab_24,tab_25,tab_26,tab_27,tab_28,tab_29,tab_31,tab_32,tab_33,tab_34,tab_35,tab_36,tab_37,tab_38,tab_39,tab_40,tab_41,tab_42,tab_44,tab_45,tab_46,tab_47,tab_48,tab_49,tab_50,tab_51,tab_52,tab_53,tab_54,tab_55,tab_56,tab_58,tab_59,tab_60,tab_61,tab_62,tab_63,tab_64,tab_65,tab_66,tab_67,tab_68,tab_69,tab_70,tab_71,tab_72,tab_73,tab_74,tab_75,tab_76,tab_77,tab_78,tab_80,tab_81,tab_82,tab_83,tab_84,tab_85,tab_86,tab_87,tab_88,tab_89,tab_90,tab_91,tab_92,tab_93,tab_95,tab_96,tab_97,tab_98,tab_99,tab_100,tab_101,tab_102,tab_103,tab_104,tab_105,tab_106,tab_107,tab_108,tab_109,tab_110,tab_111,tab_112,tab_113,tab_114,tab_115,tab_116,tab_117,tab_118,tab_119,tab_120,tab_121,tab_122,tab_123,tab_124,tab_125,tab_126,tab_127,tab_128,tab_129,tab_130,tab_131,tab_132,tab_133,tab_134,tab_135,tab_136,tab_137,tab_138,tab_139,tab_140,tab_141,tab_142,tab_144,tab_145,tab_146,tab_147,tab_149,tab_150,tab_151,tab_153,tab_154,tab_155,tab_156,tab_157,tab_158,tab_159,tab_160,tab_161,tab_162,tab_163,tab_165,tab_167,tab_168,tab_169,tab_170,tab_171,tab_172,tab_173,tab_174,tab_175,tab_176,tab_178,tab_179,tab_180,tab_186,tab_187,tab_188,tab_189,tab_190,tab_191,tab_192⟩
theorem info1:(Tryz.prog.info? 1).map (fun i=>(i.zero,i.size,i.bytes))=some (some .nilFunc,1,8):=by kernel_rfl
theorem td1_ok:TD.Ok Tryz.prog 1 td1:=TD.Ok.of ⟨_,_,_,Tryz.underlying1⟩ info1 rfl rfl (by decide) (fun _=>rfl)
theorem info2:(Tryz.prog.info? 2).map (fun i=>(i.zero,i.size,i.bytes))=some (some (.int .i64 0),1,8):=by kernel_rfl
theorem td2_ok:TD.Ok Tryz.prog 2 td2:=TD.Ok.of Tryz.underlying2 info2 rfl rfl (by decide) (fun _=>rfl)
theorem info3:(Tryz.prog.info? 3).map (fun i=>(i.zero,i.size,i.bytes))=some (some (.int .i64 0),1,8):=by kernel_rfl
theorem td3_ok:TD.Ok Tryz.prog 3 td3:=TD.Ok.of Tryz.underlying3 info3 rfl rfl (by decide) (fun _=>rfl)
theorem info4:(Tryz.prog.info? 4).map (fun i=>(i.zero,i.size,i.bytes))=some (some (.bool false),1,1):=by kernel_rfl
theorem td4_ok:TD.Ok Tryz.prog 4 td4:=TD.Ok.of Tryz.underlying4 info4 rfl rfl (by decide) (fun _=>rfl)
theorem info5:(Tryz.prog.info? 5).map (fun i=>(i.zero,i.size,i.bytes))=some (some (.int .u8 0),1,1):=by kernel_rfl
theorem td5_ok:TD.Ok Tryz.prog 5 td5:=TD.Ok.of Tryz.underlying5 info5 rfl rfl (by decide) (fun _=>rfl)
theorem info6:(Tryz.prog.info? 6).map (fun i=>(i.zero,i.size,i.bytes))=some (some (.int .u8 0),1,1):=by kernel_rfl
theorem td6_ok:TD.Ok Tryz.prog 6 td6:=TD.Ok.of Tryz.underlying6 info6 rfl rfl (by decide) (fun _=>rfl)
theorem info9:(Tryz.prog.info? 9).map (fun i=>(i.zero,i.size,i.bytes))=some (some (.string ⟨#[]⟩),1,16):=by kernel_rfl
theorem td9_ok:TD.Ok Tryz.prog 9 td9:=TD.Ok.of Tryz.underlying9 info9 rfl rfl (by decide) (fun _=>rfl)
theorem info10:(Tryz.prog.info? 10).map (fun i=>(i.zero,i.size,i.bytes))=some (some (.string ⟨#[]⟩),1,16):=by kernel_rfl
theorem td10_ok:TD.Ok Tryz.prog 10 td10:=TD.Ok.of Tryz.underlying10 info10 rfl rfl (by decide) (fun _=>rfl)
theorem info11:(Tryz.prog.info? 11).map (fun i=>(i.zero,i.size,i.bytes))=some (some (.string ⟨#[]⟩),1,16):=by kernel_rfl
theorem td11_ok:TD.Ok Tryz.prog 11 td11:=TD.Ok.of Tryz.underlying11 info11 rfl rfl (by decide) (fun _=>rfl)
theorem info12:(Tryz.prog.info? 12).map (fun i=>(i.zero,i.size,i.bytes))=some (some (.int .u64 0),1,8):=by kernel_rfl
theorem td12_ok:TD.Ok Tryz.prog 12 td12:=TD.Ok.of Tryz.underlying12 info12 rfl rfl (by decide) (fun _=>rfl)
theorem info15:(Tryz.prog.info? 15).map (fun i=>(i.zero,i.size,i.bytes))=some (some (.pointer none),1,8):=by kernel_rfl
theorem td15_ok:TD.Ok Tryz.prog 15 td15:=TD.Ok.of Tryz.underlying15 info15 rfl rfl (by decide) (fun _=>rfl)
theorem info16:(Tryz.prog.info? 16).map (fun i=>(i.zero,i.size,i.bytes))=some (some (.pointer none),1,8):=by kernel_rfl
theorem td16_ok:TD.Ok Tryz.prog 16 td16:=TD.Ok.of Tryz.underlying16 info16 rfl rfl (by decide) (fun _=>rfl)
theorem info17:(Tryz.prog.info? 17).map (fun i=>(i.zero,i.size,i.bytes))=some (some (.pointer none),1,8):=by kernel_rfl
theorem td17_ok:TD.Ok Tryz.prog 17 td17:=TD.Ok.of Tryz.underlying17 info17 rfl rfl (by decide) (fun _=>rfl)
theorem info21:(Tryz.prog.info? 21).map (fun i=>(i.zero,i.size,i.bytes))=some (some (.int .i32 0),1,4):=by kernel_rfl
theorem td21_ok:TD.Ok Tryz.prog 21 td21:=TD.Ok.of Tryz.underlying21 info21 rfl rfl (by decide) (fun _=>rfl)
theorem info22:(Tryz.prog.info? 22).map (fun i=>(i.zero,i.size,i.bytes))=some (some (.slice none 0 0),1,24):=by kernel_rfl
theorem td22_ok:TD.Ok Tryz.prog 22 td22:=TD.Ok.of Tryz.underlying22 info22 rfl rfl (by decide) (fun _=>rfl)
theorem info23:(Tryz.prog.info? 23).map (fun i=>(i.zero,i.size,i.bytes))=some (some (.slice none 0 0),1,24):=by kernel_rfl
theorem td23_ok:TD.Ok Tryz.prog 23 td23:=TD.Ok.of Tryz.underlying23 info23 rfl rfl (by decide) (fun _=>rfl)
theorem info24:(Tryz.prog.info? 24).map (fun i=>(i.zero,i.size,i.bytes))=some (some (.slice none 0 0),1,24):=by kernel_rfl
theorem td24_ok:TD.Ok Tryz.prog 24 td24:=TD.Ok.of Tryz.underlying24 info24 rfl rfl (by decide) (fun _=>rfl)
theorem info25:(Tryz.prog.info? 25).map (fun i=>(i.zero,i.size,i.bytes))=some (some (.agg #[(.int .i64 0),(.slice none 0 0),(.slice none 0 0),(.slice none 0 0)]),4,80):=by kernel_rfl
theorem td25_ok:TD.Ok Tryz.prog 25 td25:=TD.Ok.of ⟨_,Tryz.underlying25,rfl,Tryz.stoodInHeld25,Tryz.eqGuardType25,by decide⟩ info25 rfl rfl (by decide) (fun h=>by cases h)
theorem info26:(Tryz.prog.info? 26).map (fun i=>(i.zero,i.size,i.bytes))=some (some (.agg #[(.int .i64 0),(.slice none 0 0),(.slice none 0 0),(.slice none 0 0)]),4,80):=by kernel_rfl
theorem td26_ok:TD.Ok Tryz.prog 26 td26:=TD.Ok.of ⟨_,Tryz.underlying26,rfl,Tryz.stoodInHeld26,Tryz.eqGuardType26,by decide⟩ info26 rfl rfl (by decide) (fun h=>by cases h)
theorem info27:(Tryz.prog.info? 27).map (fun i=>(i.zero,i.size,i.bytes))=some (some .nilFunc,1,8):=by kernel_rfl
theorem td27_ok:TD.Ok Tryz.prog 27 td27:=TD.Ok.of ⟨_,_,_,Tryz.underlying27⟩ info27 rfl rfl (by decide) (fun _=>rfl)
theorem info28:(Tryz.prog.info? 28).map (fun i=>(i.zero,i.size,i.bytes))=some (some (.agg #[(.slice none 0 0),(.slice none 0 0)]),2,48):=by kernel_rfl
theorem td28_ok:TD.Ok Tryz.prog 28 td28:=TD.Ok.of ⟨_,Tryz.underlying28,rfl,Tryz.stoodInHeld28,Tryz.eqGuardType28,by decide⟩ info28 rfl rfl (by decide) (fun h=>by cases h)
theorem info29:(Tryz.prog.info? 29).map (fun i=>(i.zero,i.size,i.bytes))=some (some (.agg #[(.slice none 0 0),(.slice none 0 0)]),2,48):=by kernel_rfl
theorem td29_ok:TD.Ok Tryz.prog 29 td29:=TD.Ok.of ⟨_,Tryz.underlying29,rfl,Tryz.stoodInHeld29,Tryz.eqGuardType29,by decide⟩ info29 rfl rfl (by decide) (fun h=>by cases h)
theorem info31:(Tryz.prog.info? 31).map (fun i=>(i.zero,i.size,i.bytes))=some (some .nilFunc,1,8):=by kernel_rfl
theorem td31_ok:TD.Ok Tryz.prog 31 td31:=TD.Ok.of ⟨_,_,_,Tryz.underlying31⟩ info31 rfl rfl (by decide) (fun _=>rfl)
theorem info32:(Tryz.prog.info? 32).map (fun i=>(i.zero,i.size,i.bytes))=some (some (.slice none 0 0),1,24):=by kernel_rfl
theorem td32_ok:TD.Ok Tryz.prog 32 td32:=TD.Ok.of Tryz.underlying32 info32 rfl rfl (by decide) (fun _=>rfl)
theorem info33:(Tryz.prog.info? 33).map (fun i=>(i.zero,i.size,i.bytes))=some (some (.agg #[(.int .i64 0),(.slice none 0 0),(.slice none 0 0),(.slice none 0 0)]),4,80):=by kernel_rfl
theorem td33_ok:TD.Ok Tryz.prog 33 td33:=TD.Ok.of ⟨_,Tryz.underlying33,rfl,Tryz.stoodInHeld33,Tryz.eqGuardType33,by decide⟩ info33 rfl rfl (by decide) (fun h=>by cases h)
theorem info34:(Tryz.prog.info? 34).map (fun i=>(i.zero,i.size,i.bytes))=some (some (.agg #[(.int .i64 0),(.slice none 0 0),(.slice none 0 0),(.slice none 0 0)]),4,80):=by kernel_rfl
theorem td34_ok:TD.Ok Tryz.prog 34 td34:=TD.Ok.of ⟨_,Tryz.underlying34,rfl,Tryz.stoodInHeld34,Tryz.eqGuardType34,by decide⟩ info34 rfl rfl (by decide) (fun h=>by cases h)
theorem info35:(Tryz.prog.info? 35).map (fun i=>(i.zero,i.size,i.bytes))=some (some .nilFunc,1,8):=by kernel_rfl
theorem td35_ok:TD.Ok Tryz.prog 35 td35:=TD.Ok.of ⟨_,_,_,Tryz.underlying35⟩ info35 rfl rfl (by decide) (fun _=>rfl)
theorem info36:(Tryz.prog.info? 36).map (fun i=>(i.zero,i.size,i.bytes))=some (some .nilFunc,1,8):=by kernel_rfl
theorem td36_ok:TD.Ok Tryz.prog 36 td36:=TD.Ok.of ⟨_,_,_,Tryz.underlying36⟩ info36 rfl rfl (by decide) (fun _=>rfl)
theorem info37:(Tryz.prog.info? 37).map (fun i=>(i.zero,i.size,i.bytes))=some (some .nilFunc,1,8):=by kernel_rfl
theorem td37_ok:TD.Ok Tryz.prog 37 td37:=TD.Ok.of ⟨_,_,_,Tryz.underlying37⟩ info37 rfl rfl (by decide) (fun _=>rfl)
theorem info38:(Tryz.prog.info? 38).map (fun i=>(i.zero,i.size,i.bytes))=some (some .nilFunc,1,8):=by kernel_rfl
theorem td38_ok:TD.Ok Tryz.prog 38 td38:=TD.Ok.of ⟨_,_,_,Tryz.underlying38⟩ info38 rfl rfl (by decide) (fun _=>rfl)
theorem info39:(Tryz.prog.info? 39).map (fun i=>(i.zero,i.size,i.bytes))=some (some .nilFunc,1,8):=by kernel_rfl
theorem td39_ok:TD.Ok Tryz.prog 39 td39:=TD.Ok.of ⟨_,_,_,Tryz.underlying39⟩ info39 rfl rfl (by decide) (fun _=>rfl)
theorem info40:(Tryz.prog.info? 40).map (fun i=>(i.zero,i.size,i.bytes))=some (some .nilFunc,1,8):=by kernel_rfl
theorem td40_ok:TD.Ok Tryz.prog 40 td40:=TD.Ok.of ⟨_,_,_,Tryz.underlying40⟩ info40 rfl rfl (by decide) (fun _=>rfl)
theorem info41:(Tryz.prog.info? 41).map (fun i=>(i.zero,i.size,i.bytes))=some (some (.slice none 0 0),1,24):=by kernel_rfl
theorem td41_ok:TD.Ok Tryz.prog 41 td41:=TD.Ok.of Tryz.underlying41 info41 rfl rfl (by decide) (fun _=>rfl)
theorem info42:(Tryz.prog.info? 42).map (fun i=>(i.zero,i.size,i.bytes))=some (some .nilFunc,1,8):=by kernel_rfl
theorem td42_ok:TD.Ok Tryz.prog 42 td42:=TD.Ok.of ⟨_,_,_,Tryz.underlying42⟩ info42 rfl rfl (by decide) (fun _=>rfl)
theorem info44:(Tryz.prog.info? 44).map (fun i=>(i.zero,i.size,i.bytes))=some (some .nilFunc,1,8):=by kernel_rfl
theorem td44_ok:TD.Ok Tryz.prog 44 td44:=TD.Ok.of ⟨_,_,_,Tryz.underlying44⟩ info44 rfl rfl (by decide) (fun _=>rfl)
theorem info45:(Tryz.prog.info? 45).map (fun i=>(i.zero,i.size,i.bytes))=some (some (.slice none 0 0),1,24):=by kernel_rfl
theorem td45_ok:TD.Ok Tryz.prog 45 td45:=TD.Ok.of Tryz.underlying45 info45 rfl rfl (by decide) (fun _=>rfl)
theorem info46:(Tryz.prog.info? 46).map (fun i=>(i.zero,i.size,i.bytes))=some (some .nilFunc,1,8):=by kernel_rfl
theorem td46_ok:TD.Ok Tryz.prog 46 td46:=TD.Ok.of ⟨_,_,_,Tryz.underlying46⟩ info46 rfl rfl (by decide) (fun _=>rfl)
theorem info47:(Tryz.prog.info? 47).map (fun i=>(i.zero,i.size,i.bytes))=some (some .nilFunc,1,8):=by kernel_rfl
theorem td47_ok:TD.Ok Tryz.prog 47 td47:=TD.Ok.of ⟨_,_,_,Tryz.underlying47⟩ info47 rfl rfl (by decide) (fun _=>rfl)
theorem info48:(Tryz.prog.info? 48).map (fun i=>(i.zero,i.size,i.bytes))=some (some .nilFunc,1,8):=by kernel_rfl
theorem td48_ok:TD.Ok Tryz.prog 48 td48:=TD.Ok.of ⟨_,_,_,Tryz.underlying48⟩ info48 rfl rfl (by decide) (fun _=>rfl)
theorem info49:(Tryz.prog.info? 49).map (fun i=>(i.zero,i.size,i.bytes))=some (some .nilFunc,1,8):=by kernel_rfl
theorem td49_ok:TD.Ok Tryz.prog 49 td49:=TD.Ok.of ⟨_,_,_,Tryz.underlying49⟩ info49 rfl rfl (by decide) (fun _=>rfl)
theorem info50:(Tryz.prog.info? 50).map (fun i=>(i.zero,i.size,i.bytes))=some (some .nilFunc,1,8):=by kernel_rfl
theorem td50_ok:TD.Ok Tryz.prog 50 td50:=TD.Ok.of ⟨_,_,_,Tryz.underlying50⟩ info50 rfl rfl (by decide) (fun _=>rfl)
theorem info51:(Tryz.prog.info? 51).map (fun i=>(i.zero,i.size,i.bytes))=some (some .nilFunc,1,8):=by kernel_rfl
theorem td51_ok:TD.Ok Tryz.prog 51 td51:=TD.Ok.of ⟨_,_,_,Tryz.underlying51⟩ info51 rfl rfl (by decide) (fun _=>rfl)
theorem info52:(Tryz.prog.info? 52).map (fun i=>(i.zero,i.size,i.bytes))=some (some .nilFunc,1,8):=by kernel_rfl
theorem td52_ok:TD.Ok Tryz.prog 52 td52:=TD.Ok.of ⟨_,_,_,Tryz.underlying52⟩ info52 rfl rfl (by decide) (fun _=>rfl)
theorem info53:(Tryz.prog.info? 53).map (fun i=>(i.zero,i.size,i.bytes))=some (some .nilFunc,1,8):=by kernel_rfl
theorem td53_ok:TD.Ok Tryz.prog 53 td53:=TD.Ok.of ⟨_,_,_,Tryz.underlying53⟩ info53 rfl rfl (by decide) (fun _=>rfl)
theorem info54:(Tryz.prog.info? 54).map (fun i=>(i.zero,i.size,i.bytes))=some (some .nilFunc,1,8):=by kernel_rfl
theorem td54_ok:TD.Ok Tryz.prog 54 td54:=TD.Ok.of ⟨_,_,_,Tryz.underlying54⟩ info54 rfl rfl (by decide) (fun _=>rfl)
theorem info55:(Tryz.prog.info? 55).map (fun i=>(i.zero,i.size,i.bytes))=some (some .nilFunc,1,8):=by kernel_rfl
theorem td55_ok:TD.Ok Tryz.prog 55 td55:=TD.Ok.of ⟨_,_,_,Tryz.underlying55⟩ info55 rfl rfl (by decide) (fun _=>rfl)
theorem info56:(Tryz.prog.info? 56).map (fun i=>(i.zero,i.size,i.bytes))=some (some .nilFunc,1,8):=by kernel_rfl
theorem td56_ok:TD.Ok Tryz.prog 56 td56:=TD.Ok.of ⟨_,_,_,Tryz.underlying56⟩ info56 rfl rfl (by decide) (fun _=>rfl)
theorem info58:(Tryz.prog.info? 58).map (fun i=>(i.zero,i.size,i.bytes))=some (some .nilFunc,1,8):=by kernel_rfl
theorem td58_ok:TD.Ok Tryz.prog 58 td58:=TD.Ok.of ⟨_,_,_,Tryz.underlying58⟩ info58 rfl rfl (by decide) (fun _=>rfl)
theorem info59:(Tryz.prog.info? 59).map (fun i=>(i.zero,i.size,i.bytes))=some (some .nilFunc,1,8):=by kernel_rfl
theorem td59_ok:TD.Ok Tryz.prog 59 td59:=TD.Ok.of ⟨_,_,_,Tryz.underlying59⟩ info59 rfl rfl (by decide) (fun _=>rfl)
theorem info60:(Tryz.prog.info? 60).map (fun i=>(i.zero,i.size,i.bytes))=some (some .nilFunc,1,8):=by kernel_rfl
theorem td60_ok:TD.Ok Tryz.prog 60 td60:=TD.Ok.of ⟨_,_,_,Tryz.underlying60⟩ info60 rfl rfl (by decide) (fun _=>rfl)
theorem info61:(Tryz.prog.info? 61).map (fun i=>(i.zero,i.size,i.bytes))=some (some .nilFunc,1,8):=by kernel_rfl
theorem td61_ok:TD.Ok Tryz.prog 61 td61:=TD.Ok.of ⟨_,_,_,Tryz.underlying61⟩ info61 rfl rfl (by decide) (fun _=>rfl)
theorem info62:(Tryz.prog.info? 62).map (fun i=>(i.zero,i.size,i.bytes))=some (some .nilFunc,1,8):=by kernel_rfl
theorem td62_ok:TD.Ok Tryz.prog 62 td62:=TD.Ok.of ⟨_,_,_,Tryz.underlying62⟩ info62 rfl rfl (by decide) (fun _=>rfl)
theorem info63:(Tryz.prog.info? 63).map (fun i=>(i.zero,i.size,i.bytes))=some (some .nilFunc,1,8):=by kernel_rfl
theorem td63_ok:TD.Ok Tryz.prog 63 td63:=TD.Ok.of ⟨_,_,_,Tryz.underlying63⟩ info63 rfl rfl (by decide) (fun _=>rfl)
theorem info64:(Tryz.prog.info? 64).map (fun i=>(i.zero,i.size,i.bytes))=some (some .nilFunc,1,8):=by kernel_rfl
theorem td64_ok:TD.Ok Tryz.prog 64 td64:=TD.Ok.of ⟨_,_,_,Tryz.underlying64⟩ info64 rfl rfl (by decide) (fun _=>rfl)
theorem info65:(Tryz.prog.info? 65).map (fun i=>(i.zero,i.size,i.bytes))=some (some .nilFunc,1,8):=by kernel_rfl
theorem td65_ok:TD.Ok Tryz.prog 65 td65:=TD.Ok.of ⟨_,_,_,Tryz.underlying65⟩ info65 rfl rfl (by decide) (fun _=>rfl)
theorem info66:(Tryz.prog.info? 66).map (fun i=>(i.zero,i.size,i.bytes))=some (some .nilFunc,1,8):=by kernel_rfl
theorem td66_ok:TD.Ok Tryz.prog 66 td66:=TD.Ok.of ⟨_,_,_,Tryz.underlying66⟩ info66 rfl rfl (by decide) (fun _=>rfl)
theorem info67:(Tryz.prog.info? 67).map (fun i=>(i.zero,i.size,i.bytes))=some (some .nilFunc,1,8):=by kernel_rfl
theorem td67_ok:TD.Ok Tryz.prog 67 td67:=TD.Ok.of ⟨_,_,_,Tryz.underlying67⟩ info67 rfl rfl (by decide) (fun _=>rfl)
theorem info68:(Tryz.prog.info? 68).map (fun i=>(i.zero,i.size,i.bytes))=some (some .nilFunc,1,8):=by kernel_rfl
theorem td68_ok:TD.Ok Tryz.prog 68 td68:=TD.Ok.of ⟨_,_,_,Tryz.underlying68⟩ info68 rfl rfl (by decide) (fun _=>rfl)
theorem info69:(Tryz.prog.info? 69).map (fun i=>(i.zero,i.size,i.bytes))=some (some .nilFunc,1,8):=by kernel_rfl
theorem td69_ok:TD.Ok Tryz.prog 69 td69:=TD.Ok.of ⟨_,_,_,Tryz.underlying69⟩ info69 rfl rfl (by decide) (fun _=>rfl)
theorem info70:(Tryz.prog.info? 70).map (fun i=>(i.zero,i.size,i.bytes))=some (some .nilFunc,1,8):=by kernel_rfl
theorem td70_ok:TD.Ok Tryz.prog 70 td70:=TD.Ok.of ⟨_,_,_,Tryz.underlying70⟩ info70 rfl rfl (by decide) (fun _=>rfl)
theorem info71:(Tryz.prog.info? 71).map (fun i=>(i.zero,i.size,i.bytes))=some (some .nilFunc,1,8):=by kernel_rfl
theorem td71_ok:TD.Ok Tryz.prog 71 td71:=TD.Ok.of ⟨_,_,_,Tryz.underlying71⟩ info71 rfl rfl (by decide) (fun _=>rfl)
theorem info72:(Tryz.prog.info? 72).map (fun i=>(i.zero,i.size,i.bytes))=some (some .nilFunc,1,8):=by kernel_rfl
theorem td72_ok:TD.Ok Tryz.prog 72 td72:=TD.Ok.of ⟨_,_,_,Tryz.underlying72⟩ info72 rfl rfl (by decide) (fun _=>rfl)
theorem info73:(Tryz.prog.info? 73).map (fun i=>(i.zero,i.size,i.bytes))=some (some .nilFunc,1,8):=by kernel_rfl
theorem td73_ok:TD.Ok Tryz.prog 73 td73:=TD.Ok.of ⟨_,_,_,Tryz.underlying73⟩ info73 rfl rfl (by decide) (fun _=>rfl)
theorem info74:(Tryz.prog.info? 74).map (fun i=>(i.zero,i.size,i.bytes))=some (some .nilFunc,1,8):=by kernel_rfl
theorem td74_ok:TD.Ok Tryz.prog 74 td74:=TD.Ok.of ⟨_,_,_,Tryz.underlying74⟩ info74 rfl rfl (by decide) (fun _=>rfl)
theorem info75:(Tryz.prog.info? 75).map (fun i=>(i.zero,i.size,i.bytes))=some (some (.agg #[(.int .i64 0),(.int .i64 0)]),2,16):=by kernel_rfl
theorem td75_ok:TD.Ok Tryz.prog 75 td75:=TD.Ok.of ⟨_,Tryz.underlying75,rfl,Tryz.stoodInHeld75,Tryz.eqGuardType75,by decide⟩ info75 rfl rfl (by decide) (fun h=>by cases h)
theorem info76:(Tryz.prog.info? 76).map (fun i=>(i.zero,i.size,i.bytes))=some (some (.agg #[(.int .i64 0),(.int .i64 0)]),2,16):=by kernel_rfl
theorem td76_ok:TD.Ok Tryz.prog 76 td76:=TD.Ok.of ⟨_,Tryz.underlying76,rfl,Tryz.stoodInHeld76,Tryz.eqGuardType76,by decide⟩ info76 rfl rfl (by decide) (fun h=>by cases h)
theorem info77:(Tryz.prog.info? 77).map (fun i=>(i.zero,i.size,i.bytes))=some (some .nilFunc,1,8):=by kernel_rfl
theorem td77_ok:TD.Ok Tryz.prog 77 td77:=TD.Ok.of ⟨_,_,_,Tryz.underlying77⟩ info77 rfl rfl (by decide) (fun _=>rfl)
theorem info78:(Tryz.prog.info? 78).map (fun i=>(i.zero,i.size,i.bytes))=some (some (.agg #[(.int .i64 0),(.int .i64 0)]),2,16):=by kernel_rfl
theorem td78_ok:TD.Ok Tryz.prog 78 td78:=TD.Ok.of ⟨_,Tryz.underlying78,rfl,Tryz.stoodInHeld78,Tryz.eqGuardType78,by decide⟩ info78 rfl rfl (by decide) (fun h=>by cases h)
theorem info80:(Tryz.prog.info? 80).map (fun i=>(i.zero,i.size,i.bytes))=some (some .nilFunc,1,8):=by kernel_rfl
theorem td80_ok:TD.Ok Tryz.prog 80 td80:=TD.Ok.of ⟨_,_,_,Tryz.underlying80⟩ info80 rfl rfl (by decide) (fun _=>rfl)
theorem info81:(Tryz.prog.info? 81).map (fun i=>(i.zero,i.size,i.bytes))=some (some .nilFunc,1,8):=by kernel_rfl
theorem td81_ok:TD.Ok Tryz.prog 81 td81:=TD.Ok.of ⟨_,_,_,Tryz.underlying81⟩ info81 rfl rfl (by decide) (fun _=>rfl)
theorem info82:(Tryz.prog.info? 82).map (fun i=>(i.zero,i.size,i.bytes))=some (some .nilFunc,1,8):=by kernel_rfl
theorem td82_ok:TD.Ok Tryz.prog 82 td82:=TD.Ok.of ⟨_,_,_,Tryz.underlying82⟩ info82 rfl rfl (by decide) (fun _=>rfl)
theorem info83:(Tryz.prog.info? 83).map (fun i=>(i.zero,i.size,i.bytes))=some (some (.agg #[(.int .i64 0),(.int .i64 0),(.int .i64 0)]),3,24):=by kernel_rfl
theorem td83_ok:TD.Ok Tryz.prog 83 td83:=TD.Ok.of ⟨_,Tryz.underlying83,rfl,Tryz.stoodInHeld83,Tryz.eqGuardType83,by decide⟩ info83 rfl rfl (by decide) (fun h=>by cases h)
theorem info84:(Tryz.prog.info? 84).map (fun i=>(i.zero,i.size,i.bytes))=some (some (.agg #[(.int .i64 0),(.int .i64 0),(.int .i64 0)]),3,24):=by kernel_rfl
theorem td84_ok:TD.Ok Tryz.prog 84 td84:=TD.Ok.of ⟨_,Tryz.underlying84,rfl,Tryz.stoodInHeld84,Tryz.eqGuardType84,by decide⟩ info84 rfl rfl (by decide) (fun h=>by cases h)
theorem info85:(Tryz.prog.info? 85).map (fun i=>(i.zero,i.size,i.bytes))=some (some .nilFunc,1,8):=by kernel_rfl
theorem td85_ok:TD.Ok Tryz.prog 85 td85:=TD.Ok.of ⟨_,_,_,Tryz.underlying85⟩ info85 rfl rfl (by decide) (fun _=>rfl)
theorem info86:(Tryz.prog.info? 86).map (fun i=>(i.zero,i.size,i.bytes))=some (some .nilFunc,1,8):=by kernel_rfl
theorem td86_ok:TD.Ok Tryz.prog 86 td86:=TD.Ok.of ⟨_,_,_,Tryz.underlying86⟩ info86 rfl rfl (by decide) (fun _=>rfl)
theorem info87:(Tryz.prog.info? 87).map (fun i=>(i.zero,i.size,i.bytes))=some (some .nilFunc,1,8):=by kernel_rfl
theorem td87_ok:TD.Ok Tryz.prog 87 td87:=TD.Ok.of ⟨_,_,_,Tryz.underlying87⟩ info87 rfl rfl (by decide) (fun _=>rfl)
theorem info88:(Tryz.prog.info? 88).map (fun i=>(i.zero,i.size,i.bytes))=some (some .nilFunc,1,8):=by kernel_rfl
theorem td88_ok:TD.Ok Tryz.prog 88 td88:=TD.Ok.of ⟨_,_,_,Tryz.underlying88⟩ info88 rfl rfl (by decide) (fun _=>rfl)
theorem info89:(Tryz.prog.info? 89).map (fun i=>(i.zero,i.size,i.bytes))=some (some .nilFunc,1,8):=by kernel_rfl
theorem td89_ok:TD.Ok Tryz.prog 89 td89:=TD.Ok.of ⟨_,_,_,Tryz.underlying89⟩ info89 rfl rfl (by decide) (fun _=>rfl)
theorem info90:(Tryz.prog.info? 90).map (fun i=>(i.zero,i.size,i.bytes))=some (some .nilFunc,1,8):=by kernel_rfl
theorem td90_ok:TD.Ok Tryz.prog 90 td90:=TD.Ok.of ⟨_,_,_,Tryz.underlying90⟩ info90 rfl rfl (by decide) (fun _=>rfl)
theorem info91:(Tryz.prog.info? 91).map (fun i=>(i.zero,i.size,i.bytes))=some (some .nilFunc,1,8):=by kernel_rfl
theorem td91_ok:TD.Ok Tryz.prog 91 td91:=TD.Ok.of ⟨_,_,_,Tryz.underlying91⟩ info91 rfl rfl (by decide) (fun _=>rfl)
theorem info92:(Tryz.prog.info? 92).map (fun i=>(i.zero,i.size,i.bytes))=some (some .nilFunc,1,8):=by kernel_rfl
theorem td92_ok:TD.Ok Tryz.prog 92 td92:=TD.Ok.of ⟨_,_,_,Tryz.underlying92⟩ info92 rfl rfl (by decide) (fun _=>rfl)
theorem info93:(Tryz.prog.info? 93).map (fun i=>(i.zero,i.size,i.bytes))=some (some .nilFunc,1,8):=by kernel_rfl
theorem td93_ok:TD.Ok Tryz.prog 93 td93:=TD.Ok.of ⟨_,_,_,Tryz.underlying93⟩ info93 rfl rfl (by decide) (fun _=>rfl)
theorem info95:(Tryz.prog.info? 95).map (fun i=>(i.zero,i.size,i.bytes))=some (some .nilFunc,1,8):=by kernel_rfl
theorem td95_ok:TD.Ok Tryz.prog 95 td95:=TD.Ok.of ⟨_,_,_,Tryz.underlying95⟩ info95 rfl rfl (by decide) (fun _=>rfl)
theorem info96:(Tryz.prog.info? 96).map (fun i=>(i.zero,i.size,i.bytes))=some (some .nilFunc,1,8):=by kernel_rfl
theorem td96_ok:TD.Ok Tryz.prog 96 td96:=TD.Ok.of ⟨_,_,_,Tryz.underlying96⟩ info96 rfl rfl (by decide) (fun _=>rfl)
theorem info97:(Tryz.prog.info? 97).map (fun i=>(i.zero,i.size,i.bytes))=some (some .nilFunc,1,8):=by kernel_rfl
theorem td97_ok:TD.Ok Tryz.prog 97 td97:=TD.Ok.of ⟨_,_,_,Tryz.underlying97⟩ info97 rfl rfl (by decide) (fun _=>rfl)
theorem info98:(Tryz.prog.info? 98).map (fun i=>(i.zero,i.size,i.bytes))=some (some .nilFunc,1,8):=by kernel_rfl
theorem td98_ok:TD.Ok Tryz.prog 98 td98:=TD.Ok.of ⟨_,_,_,Tryz.underlying98⟩ info98 rfl rfl (by decide) (fun _=>rfl)
theorem info99:(Tryz.prog.info? 99).map (fun i=>(i.zero,i.size,i.bytes))=some (some .nilFunc,1,8):=by kernel_rfl
theorem td99_ok:TD.Ok Tryz.prog 99 td99:=TD.Ok.of ⟨_,_,_,Tryz.underlying99⟩ info99 rfl rfl (by decide) (fun _=>rfl)
theorem info100:(Tryz.prog.info? 100).map (fun i=>(i.zero,i.size,i.bytes))=some (some .nilFunc,1,8):=by kernel_rfl
theorem td100_ok:TD.Ok Tryz.prog 100 td100:=TD.Ok.of ⟨_,_,_,Tryz.underlying100⟩ info100 rfl rfl (by decide) (fun _=>rfl)
theorem info101:(Tryz.prog.info? 101).map (fun i=>(i.zero,i.size,i.bytes))=some (some (.agg #[(.int .i64 0),(.int .i64 0),(.int .i64 0)]),3,24):=by kernel_rfl
theorem td101_ok:TD.Ok Tryz.prog 101 td101:=TD.Ok.of ⟨_,Tryz.underlying101,rfl,Tryz.stoodInHeld101,Tryz.eqGuardType101,by decide⟩ info101 rfl rfl (by decide) (fun h=>by cases h)
theorem info102:(Tryz.prog.info? 102).map (fun i=>(i.zero,i.size,i.bytes))=some (some .nilFunc,1,8):=by kernel_rfl
theorem td102_ok:TD.Ok Tryz.prog 102 td102:=TD.Ok.of ⟨_,_,_,Tryz.underlying102⟩ info102 rfl rfl (by decide) (fun _=>rfl)
theorem info103:(Tryz.prog.info? 103).map (fun i=>(i.zero,i.size,i.bytes))=some (some .nilFunc,1,8):=by kernel_rfl
theorem td103_ok:TD.Ok Tryz.prog 103 td103:=TD.Ok.of ⟨_,_,_,Tryz.underlying103⟩ info103 rfl rfl (by decide) (fun _=>rfl)
theorem info104:(Tryz.prog.info? 104).map (fun i=>(i.zero,i.size,i.bytes))=some (some .nilFunc,1,8):=by kernel_rfl
theorem td104_ok:TD.Ok Tryz.prog 104 td104:=TD.Ok.of ⟨_,_,_,Tryz.underlying104⟩ info104 rfl rfl (by decide) (fun _=>rfl)
theorem info105:(Tryz.prog.info? 105).map (fun i=>(i.zero,i.size,i.bytes))=some (some .nilFunc,1,8):=by kernel_rfl
theorem td105_ok:TD.Ok Tryz.prog 105 td105:=TD.Ok.of ⟨_,_,_,Tryz.underlying105⟩ info105 rfl rfl (by decide) (fun _=>rfl)
theorem info106:(Tryz.prog.info? 106).map (fun i=>(i.zero,i.size,i.bytes))=some (some .nilFunc,1,8):=by kernel_rfl
theorem td106_ok:TD.Ok Tryz.prog 106 td106:=TD.Ok.of ⟨_,_,_,Tryz.underlying106⟩ info106 rfl rfl (by decide) (fun _=>rfl)
theorem info107:(Tryz.prog.info? 107).map (fun i=>(i.zero,i.size,i.bytes))=some (some .nilFunc,1,8):=by kernel_rfl
theorem td107_ok:TD.Ok Tryz.prog 107 td107:=TD.Ok.of ⟨_,_,_,Tryz.underlying107⟩ info107 rfl rfl (by decide) (fun _=>rfl)
theorem info108:(Tryz.prog.info? 108).map (fun i=>(i.zero,i.size,i.bytes))=some (some .nilFunc,1,8):=by kernel_rfl
theorem td108_ok:TD.Ok Tryz.prog 108 td108:=TD.Ok.of ⟨_,_,_,Tryz.underlying108⟩ info108 rfl rfl (by decide) (fun _=>rfl)
theorem info109:(Tryz.prog.info? 109).map (fun i=>(i.zero,i.size,i.bytes))=some (some .nilFunc,1,8):=by kernel_rfl
theorem td109_ok:TD.Ok Tryz.prog 109 td109:=TD.Ok.of ⟨_,_,_,Tryz.underlying109⟩ info109 rfl rfl (by decide) (fun _=>rfl)
theorem info110:(Tryz.prog.info? 110).map (fun i=>(i.zero,i.size,i.bytes))=some (some .nilFunc,1,8):=by kernel_rfl
theorem td110_ok:TD.Ok Tryz.prog 110 td110:=TD.Ok.of ⟨_,_,_,Tryz.underlying110⟩ info110 rfl rfl (by decide) (fun _=>rfl)
theorem info111:(Tryz.prog.info? 111).map (fun i=>(i.zero,i.size,i.bytes))=some (some (.int .u64 0),1,8):=by kernel_rfl
theorem td111_ok:TD.Ok Tryz.prog 111 td111:=TD.Ok.of Tryz.underlying111 info111 rfl rfl (by decide) (fun _=>rfl)
theorem info112:(Tryz.prog.info? 112).map (fun i=>(i.zero,i.size,i.bytes))=some (some .nilFunc,1,8):=by kernel_rfl
theorem td112_ok:TD.Ok Tryz.prog 112 td112:=TD.Ok.of ⟨_,_,_,Tryz.underlying112⟩ info112 rfl rfl (by decide) (fun _=>rfl)
theorem info113:(Tryz.prog.info? 113).map (fun i=>(i.zero,i.size,i.bytes))=some (some .nilFunc,1,8):=by kernel_rfl
theorem td113_ok:TD.Ok Tryz.prog 113 td113:=TD.Ok.of ⟨_,_,_,Tryz.underlying113⟩ info113 rfl rfl (by decide) (fun _=>rfl)
theorem info114:(Tryz.prog.info? 114).map (fun i=>(i.zero,i.size,i.bytes))=some (some .nilFunc,1,8):=by kernel_rfl
theorem td114_ok:TD.Ok Tryz.prog 114 td114:=TD.Ok.of ⟨_,_,_,Tryz.underlying114⟩ info114 rfl rfl (by decide) (fun _=>rfl)
theorem info115:(Tryz.prog.info? 115).map (fun i=>(i.zero,i.size,i.bytes))=some (some .nilFunc,1,8):=by kernel_rfl
theorem td115_ok:TD.Ok Tryz.prog 115 td115:=TD.Ok.of ⟨_,_,_,Tryz.underlying115⟩ info115 rfl rfl (by decide) (fun _=>rfl)
theorem info116:(Tryz.prog.info? 116).map (fun i=>(i.zero,i.size,i.bytes))=some (some (.slice none 0 0),1,24):=by kernel_rfl
theorem td116_ok:TD.Ok Tryz.prog 116 td116:=TD.Ok.of Tryz.underlying116 info116 rfl rfl (by decide) (fun _=>rfl)
theorem info117:(Tryz.prog.info? 117).map (fun i=>(i.zero,i.size,i.bytes))=some (some .nilFunc,1,8):=by kernel_rfl
theorem td117_ok:TD.Ok Tryz.prog 117 td117:=TD.Ok.of ⟨_,_,_,Tryz.underlying117⟩ info117 rfl rfl (by decide) (fun _=>rfl)
theorem info118:(Tryz.prog.info? 118).map (fun i=>(i.zero,i.size,i.bytes))=some (some .nilFunc,1,8):=by kernel_rfl
theorem td118_ok:TD.Ok Tryz.prog 118 td118:=TD.Ok.of ⟨_,_,_,Tryz.underlying118⟩ info118 rfl rfl (by decide) (fun _=>rfl)
theorem info119:(Tryz.prog.info? 119).map (fun i=>(i.zero,i.size,i.bytes))=some (some .nilFunc,1,8):=by kernel_rfl
theorem td119_ok:TD.Ok Tryz.prog 119 td119:=TD.Ok.of ⟨_,_,_,Tryz.underlying119⟩ info119 rfl rfl (by decide) (fun _=>rfl)
theorem info120:(Tryz.prog.info? 120).map (fun i=>(i.zero,i.size,i.bytes))=some (some .nilFunc,1,8):=by kernel_rfl
theorem td120_ok:TD.Ok Tryz.prog 120 td120:=TD.Ok.of ⟨_,_,_,Tryz.underlying120⟩ info120 rfl rfl (by decide) (fun _=>rfl)
theorem info121:(Tryz.prog.info? 121).map (fun i=>(i.zero,i.size,i.bytes))=some (some .nilFunc,1,8):=by kernel_rfl
theorem td121_ok:TD.Ok Tryz.prog 121 td121:=TD.Ok.of ⟨_,_,_,Tryz.underlying121⟩ info121 rfl rfl (by decide) (fun _=>rfl)
theorem info122:(Tryz.prog.info? 122).map (fun i=>(i.zero,i.size,i.bytes))=some (some .nilFunc,1,8):=by kernel_rfl
theorem td122_ok:TD.Ok Tryz.prog 122 td122:=TD.Ok.of ⟨_,_,_,Tryz.underlying122⟩ info122 rfl rfl (by decide) (fun _=>rfl)
theorem info123:(Tryz.prog.info? 123).map (fun i=>(i.zero,i.size,i.bytes))=some (some (.pointer none),1,8):=by kernel_rfl
theorem td123_ok:TD.Ok Tryz.prog 123 td123:=TD.Ok.of Tryz.underlying123 info123 rfl rfl (by decide) (fun _=>rfl)
theorem info124:(Tryz.prog.info? 124).map (fun i=>(i.zero,i.size,i.bytes))=some (some (.agg #[(.slice none 0 0),(.slice none 0 0),(.slice none 0 0)]),3,72):=by kernel_rfl
theorem td124_ok:TD.Ok Tryz.prog 124 td124:=TD.Ok.of ⟨_,Tryz.underlying124,rfl,Tryz.stoodInHeld124,Tryz.eqGuardType124,by decide⟩ info124 rfl rfl (by decide) (fun h=>by cases h)
theorem info125:(Tryz.prog.info? 125).map (fun i=>(i.zero,i.size,i.bytes))=some (some (.agg #[(.slice none 0 0),(.slice none 0 0),(.slice none 0 0)]),3,72):=by kernel_rfl
theorem td125_ok:TD.Ok Tryz.prog 125 td125:=TD.Ok.of ⟨_,Tryz.underlying125,rfl,Tryz.stoodInHeld125,Tryz.eqGuardType125,by decide⟩ info125 rfl rfl (by decide) (fun h=>by cases h)
theorem info126:(Tryz.prog.info? 126).map (fun i=>(i.zero,i.size,i.bytes))=some (some .nilFunc,1,8):=by kernel_rfl
theorem td126_ok:TD.Ok Tryz.prog 126 td126:=TD.Ok.of ⟨_,_,_,Tryz.underlying126⟩ info126 rfl rfl (by decide) (fun _=>rfl)
theorem info127:(Tryz.prog.info? 127).map (fun i=>(i.zero,i.size,i.bytes))=some (some .nilFunc,1,8):=by kernel_rfl
theorem td127_ok:TD.Ok Tryz.prog 127 td127:=TD.Ok.of ⟨_,_,_,Tryz.underlying127⟩ info127 rfl rfl (by decide) (fun _=>rfl)
theorem info128:(Tryz.prog.info? 128).map (fun i=>(i.zero,i.size,i.bytes))=some (some .nilFunc,1,8):=by kernel_rfl
theorem td128_ok:TD.Ok Tryz.prog 128 td128:=TD.Ok.of ⟨_,_,_,Tryz.underlying128⟩ info128 rfl rfl (by decide) (fun _=>rfl)
theorem info129:(Tryz.prog.info? 129).map (fun i=>(i.zero,i.size,i.bytes))=some (some .nilFunc,1,8):=by kernel_rfl
theorem td129_ok:TD.Ok Tryz.prog 129 td129:=TD.Ok.of ⟨_,_,_,Tryz.underlying129⟩ info129 rfl rfl (by decide) (fun _=>rfl)
theorem info130:(Tryz.prog.info? 130).map (fun i=>(i.zero,i.size,i.bytes))=some (some .nilFunc,1,8):=by kernel_rfl
theorem td130_ok:TD.Ok Tryz.prog 130 td130:=TD.Ok.of ⟨_,_,_,Tryz.underlying130⟩ info130 rfl rfl (by decide) (fun _=>rfl)
theorem info131:(Tryz.prog.info? 131).map (fun i=>(i.zero,i.size,i.bytes))=some (some (.pointer none),1,8):=by kernel_rfl
theorem td131_ok:TD.Ok Tryz.prog 131 td131:=TD.Ok.of Tryz.underlying131 info131 rfl rfl (by decide) (fun _=>rfl)
theorem info132:(Tryz.prog.info? 132).map (fun i=>(i.zero,i.size,i.bytes))=some (some (.agg #[(.slice none 0 0),(.slice none 0 0),(.slice none 0 0),(.slice none 0 0),(.slice none 0 0),(.int .i64 0)]),6,128):=by kernel_rfl
theorem td132_ok:TD.Ok Tryz.prog 132 td132:=TD.Ok.of ⟨_,Tryz.underlying132,rfl,Tryz.stoodInHeld132,Tryz.eqGuardType132,by decide⟩ info132 rfl rfl (by decide) (fun h=>by cases h)
theorem info133:(Tryz.prog.info? 133).map (fun i=>(i.zero,i.size,i.bytes))=some (some (.agg #[(.slice none 0 0),(.slice none 0 0),(.slice none 0 0),(.slice none 0 0),(.slice none 0 0),(.int .i64 0)]),6,128):=by kernel_rfl
theorem td133_ok:TD.Ok Tryz.prog 133 td133:=TD.Ok.of ⟨_,Tryz.underlying133,rfl,Tryz.stoodInHeld133,Tryz.eqGuardType133,by decide⟩ info133 rfl rfl (by decide) (fun h=>by cases h)
theorem info134:(Tryz.prog.info? 134).map (fun i=>(i.zero,i.size,i.bytes))=some (some .nilFunc,1,8):=by kernel_rfl
theorem td134_ok:TD.Ok Tryz.prog 134 td134:=TD.Ok.of ⟨_,_,_,Tryz.underlying134⟩ info134 rfl rfl (by decide) (fun _=>rfl)
theorem info135:(Tryz.prog.info? 135).map (fun i=>(i.zero,i.size,i.bytes))=some (some .nilFunc,1,8):=by kernel_rfl
theorem td135_ok:TD.Ok Tryz.prog 135 td135:=TD.Ok.of ⟨_,_,_,Tryz.underlying135⟩ info135 rfl rfl (by decide) (fun _=>rfl)
theorem info136:(Tryz.prog.info? 136).map (fun i=>(i.zero,i.size,i.bytes))=some (some .nilFunc,1,8):=by kernel_rfl
theorem td136_ok:TD.Ok Tryz.prog 136 td136:=TD.Ok.of ⟨_,_,_,Tryz.underlying136⟩ info136 rfl rfl (by decide) (fun _=>rfl)
theorem info137:(Tryz.prog.info? 137).map (fun i=>(i.zero,i.size,i.bytes))=some (some .nilFunc,1,8):=by kernel_rfl
theorem td137_ok:TD.Ok Tryz.prog 137 td137:=TD.Ok.of ⟨_,_,_,Tryz.underlying137⟩ info137 rfl rfl (by decide) (fun _=>rfl)
theorem info138:(Tryz.prog.info? 138).map (fun i=>(i.zero,i.size,i.bytes))=some (some .nilFunc,1,8):=by kernel_rfl
theorem td138_ok:TD.Ok Tryz.prog 138 td138:=TD.Ok.of ⟨_,_,_,Tryz.underlying138⟩ info138 rfl rfl (by decide) (fun _=>rfl)
theorem info139:(Tryz.prog.info? 139).map (fun i=>(i.zero,i.size,i.bytes))=some (some .nilFunc,1,8):=by kernel_rfl
theorem td139_ok:TD.Ok Tryz.prog 139 td139:=TD.Ok.of ⟨_,_,_,Tryz.underlying139⟩ info139 rfl rfl (by decide) (fun _=>rfl)
theorem info140:(Tryz.prog.info? 140).map (fun i=>(i.zero,i.size,i.bytes))=some (some .nilFunc,1,8):=by kernel_rfl
theorem td140_ok:TD.Ok Tryz.prog 140 td140:=TD.Ok.of ⟨_,_,_,Tryz.underlying140⟩ info140 rfl rfl (by decide) (fun _=>rfl)
theorem info141:(Tryz.prog.info? 141).map (fun i=>(i.zero,i.size,i.bytes))=some (some .nilFunc,1,8):=by kernel_rfl
theorem td141_ok:TD.Ok Tryz.prog 141 td141:=TD.Ok.of ⟨_,_,_,Tryz.underlying141⟩ info141 rfl rfl (by decide) (fun _=>rfl)
theorem info142:(Tryz.prog.info? 142).map (fun i=>(i.zero,i.size,i.bytes))=some (some .nilFunc,1,8):=by kernel_rfl
theorem td142_ok:TD.Ok Tryz.prog 142 td142:=TD.Ok.of ⟨_,_,_,Tryz.underlying142⟩ info142 rfl rfl (by decide) (fun _=>rfl)
theorem info144:(Tryz.prog.info? 144).map (fun i=>(i.zero,i.size,i.bytes))=some (some .nilFunc,1,8):=by kernel_rfl
theorem td144_ok:TD.Ok Tryz.prog 144 td144:=TD.Ok.of ⟨_,_,_,Tryz.underlying144⟩ info144 rfl rfl (by decide) (fun _=>rfl)
theorem info145:(Tryz.prog.info? 145).map (fun i=>(i.zero,i.size,i.bytes))=some (some .nilFunc,1,8):=by kernel_rfl
theorem td145_ok:TD.Ok Tryz.prog 145 td145:=TD.Ok.of ⟨_,_,_,Tryz.underlying145⟩ info145 rfl rfl (by decide) (fun _=>rfl)
theorem info146:(Tryz.prog.info? 146).map (fun i=>(i.zero,i.size,i.bytes))=some (some .nilFunc,1,8):=by kernel_rfl
theorem td146_ok:TD.Ok Tryz.prog 146 td146:=TD.Ok.of ⟨_,_,_,Tryz.underlying146⟩ info146 rfl rfl (by decide) (fun _=>rfl)
theorem info147:(Tryz.prog.info? 147).map (fun i=>(i.zero,i.size,i.bytes))=some (some (.int .i64 0),1,8):=by kernel_rfl
theorem td147_ok:TD.Ok Tryz.prog 147 td147:=TD.Ok.of Tryz.underlying147 info147 rfl rfl (by decide) (fun _=>rfl)
theorem info149:(Tryz.prog.info? 149).map (fun i=>(i.zero,i.size,i.bytes))=some (some .nilFunc,1,8):=by kernel_rfl
theorem td149_ok:TD.Ok Tryz.prog 149 td149:=TD.Ok.of ⟨_,_,_,Tryz.underlying149⟩ info149 rfl rfl (by decide) (fun _=>rfl)
theorem info150:(Tryz.prog.info? 150).map (fun i=>(i.zero,i.size,i.bytes))=some (some .nilFunc,1,8):=by kernel_rfl
theorem td150_ok:TD.Ok Tryz.prog 150 td150:=TD.Ok.of ⟨_,_,_,Tryz.underlying150⟩ info150 rfl rfl (by decide) (fun _=>rfl)
theorem info151:(Tryz.prog.info? 151).map (fun i=>(i.zero,i.size,i.bytes))=some (some .nilFunc,1,8):=by kernel_rfl
theorem td151_ok:TD.Ok Tryz.prog 151 td151:=TD.Ok.of ⟨_,_,_,Tryz.underlying151⟩ info151 rfl rfl (by decide) (fun _=>rfl)
theorem info153:(Tryz.prog.info? 153).map (fun i=>(i.zero,i.size,i.bytes))=some (some .nilFunc,1,8):=by kernel_rfl
theorem td153_ok:TD.Ok Tryz.prog 153 td153:=TD.Ok.of ⟨_,_,_,Tryz.underlying153⟩ info153 rfl rfl (by decide) (fun _=>rfl)
theorem info154:(Tryz.prog.info? 154).map (fun i=>(i.zero,i.size,i.bytes))=some (some .nilFunc,1,8):=by kernel_rfl
theorem td154_ok:TD.Ok Tryz.prog 154 td154:=TD.Ok.of ⟨_,_,_,Tryz.underlying154⟩ info154 rfl rfl (by decide) (fun _=>rfl)
theorem info155:(Tryz.prog.info? 155).map (fun i=>(i.zero,i.size,i.bytes))=some (some (.int .u32 0),1,4):=by kernel_rfl
theorem td155_ok:TD.Ok Tryz.prog 155 td155:=TD.Ok.of Tryz.underlying155 info155 rfl rfl (by decide) (fun _=>rfl)
theorem info156:(Tryz.prog.info? 156).map (fun i=>(i.zero,i.size,i.bytes))=some (some .nilFunc,1,8):=by kernel_rfl
theorem td156_ok:TD.Ok Tryz.prog 156 td156:=TD.Ok.of ⟨_,_,_,Tryz.underlying156⟩ info156 rfl rfl (by decide) (fun _=>rfl)
theorem info157:(Tryz.prog.info? 157).map (fun i=>(i.zero,i.size,i.bytes))=some (some (.int .u64 0),1,8):=by kernel_rfl
theorem td157_ok:TD.Ok Tryz.prog 157 td157:=TD.Ok.of Tryz.underlying157 info157 rfl rfl (by decide) (fun _=>rfl)
theorem info158:(Tryz.prog.info? 158).map (fun i=>(i.zero,i.size,i.bytes))=some (some .nilFunc,1,8):=by kernel_rfl
theorem td158_ok:TD.Ok Tryz.prog 158 td158:=TD.Ok.of ⟨_,_,_,Tryz.underlying158⟩ info158 rfl rfl (by decide) (fun _=>rfl)
theorem info159:(Tryz.prog.info? 159).map (fun i=>(i.zero,i.size,i.bytes))=some (some .nilFunc,1,8):=by kernel_rfl
theorem td159_ok:TD.Ok Tryz.prog 159 td159:=TD.Ok.of ⟨_,_,_,Tryz.underlying159⟩ info159 rfl rfl (by decide) (fun _=>rfl)
theorem info160:(Tryz.prog.info? 160).map (fun i=>(i.zero,i.size,i.bytes))=some (some .nilFunc,1,8):=by kernel_rfl
theorem td160_ok:TD.Ok Tryz.prog 160 td160:=TD.Ok.of ⟨_,_,_,Tryz.underlying160⟩ info160 rfl rfl (by decide) (fun _=>rfl)
theorem info161:(Tryz.prog.info? 161).map (fun i=>(i.zero,i.size,i.bytes))=some (some .nilFunc,1,8):=by kernel_rfl
theorem td161_ok:TD.Ok Tryz.prog 161 td161:=TD.Ok.of ⟨_,_,_,Tryz.underlying161⟩ info161 rfl rfl (by decide) (fun _=>rfl)
theorem info162:(Tryz.prog.info? 162).map (fun i=>(i.zero,i.size,i.bytes))=some (some .nilFunc,1,8):=by kernel_rfl
theorem td162_ok:TD.Ok Tryz.prog 162 td162:=TD.Ok.of ⟨_,_,_,Tryz.underlying162⟩ info162 rfl rfl (by decide) (fun _=>rfl)
theorem info163:(Tryz.prog.info? 163).map (fun i=>(i.zero,i.size,i.bytes))=some (some .nilFunc,1,8):=by kernel_rfl
theorem td163_ok:TD.Ok Tryz.prog 163 td163:=TD.Ok.of ⟨_,_,_,Tryz.underlying163⟩ info163 rfl rfl (by decide) (fun _=>rfl)
theorem info165:(Tryz.prog.info? 165).map (fun i=>(i.zero,i.size,i.bytes))=some (some .nilFunc,1,8):=by kernel_rfl
theorem td165_ok:TD.Ok Tryz.prog 165 td165:=TD.Ok.of ⟨_,_,_,Tryz.underlying165⟩ info165 rfl rfl (by decide) (fun _=>rfl)
theorem info167:(Tryz.prog.info? 167).map (fun i=>(i.zero,i.size,i.bytes))=some (some .nilFunc,1,8):=by kernel_rfl
theorem td167_ok:TD.Ok Tryz.prog 167 td167:=TD.Ok.of ⟨_,_,_,Tryz.underlying167⟩ info167 rfl rfl (by decide) (fun _=>rfl)
theorem info168:(Tryz.prog.info? 168).map (fun i=>(i.zero,i.size,i.bytes))=some (some (.int .u64 0),1,8):=by kernel_rfl
theorem td168_ok:TD.Ok Tryz.prog 168 td168:=TD.Ok.of Tryz.underlying168 info168 rfl rfl (by decide) (fun _=>rfl)
theorem info169:(Tryz.prog.info? 169).map (fun i=>(i.zero,i.size,i.bytes))=some (some .nilFunc,1,8):=by kernel_rfl
theorem td169_ok:TD.Ok Tryz.prog 169 td169:=TD.Ok.of ⟨_,_,_,Tryz.underlying169⟩ info169 rfl rfl (by decide) (fun _=>rfl)
theorem info170:(Tryz.prog.info? 170).map (fun i=>(i.zero,i.size,i.bytes))=some (some .nilFunc,1,8):=by kernel_rfl
theorem td170_ok:TD.Ok Tryz.prog 170 td170:=TD.Ok.of ⟨_,_,_,Tryz.underlying170⟩ info170 rfl rfl (by decide) (fun _=>rfl)
theorem info171:(Tryz.prog.info? 171).map (fun i=>(i.zero,i.size,i.bytes))=some (some .nilFunc,1,8):=by kernel_rfl
theorem td171_ok:TD.Ok Tryz.prog 171 td171:=TD.Ok.of ⟨_,_,_,Tryz.underlying171⟩ info171 rfl rfl (by decide) (fun _=>rfl)
theorem info172:(Tryz.prog.info? 172).map (fun i=>(i.zero,i.size,i.bytes))=some (some (.pointer none),1,8):=by kernel_rfl
theorem td172_ok:TD.Ok Tryz.prog 172 td172:=TD.Ok.of Tryz.underlying172 info172 rfl rfl (by decide) (fun _=>rfl)
theorem info173:(Tryz.prog.info? 173).map (fun i=>(i.zero,i.size,i.bytes))=some (some .nilFunc,1,8):=by kernel_rfl
theorem td173_ok:TD.Ok Tryz.prog 173 td173:=TD.Ok.of ⟨_,_,_,Tryz.underlying173⟩ info173 rfl rfl (by decide) (fun _=>rfl)
theorem info174:(Tryz.prog.info? 174).map (fun i=>(i.zero,i.size,i.bytes))=some (some .nilFunc,1,8):=by kernel_rfl
theorem td174_ok:TD.Ok Tryz.prog 174 td174:=TD.Ok.of ⟨_,_,_,Tryz.underlying174⟩ info174 rfl rfl (by decide) (fun _=>rfl)
theorem info175:(Tryz.prog.info? 175).map (fun i=>(i.zero,i.size,i.bytes))=some (some .nilFunc,1,8):=by kernel_rfl
theorem td175_ok:TD.Ok Tryz.prog 175 td175:=TD.Ok.of ⟨_,_,_,Tryz.underlying175⟩ info175 rfl rfl (by decide) (fun _=>rfl)
theorem info176:(Tryz.prog.info? 176).map (fun i=>(i.zero,i.size,i.bytes))=some (some (.pointer none),1,8):=by kernel_rfl
theorem td176_ok:TD.Ok Tryz.prog 176 td176:=TD.Ok.of Tryz.underlying176 info176 rfl rfl (by decide) (fun _=>rfl)
theorem info178:(Tryz.prog.info? 178).map (fun i=>(i.zero,i.size,i.bytes))=some (some .nilFunc,1,8):=by kernel_rfl
theorem td178_ok:TD.Ok Tryz.prog 178 td178:=TD.Ok.of ⟨_,_,_,Tryz.underlying178⟩ info178 rfl rfl (by decide) (fun _=>rfl)
theorem info179:(Tryz.prog.info? 179).map (fun i=>(i.zero,i.size,i.bytes))=some (some .nilFunc,1,8):=by kernel_rfl
theorem td179_ok:TD.Ok Tryz.prog 179 td179:=TD.Ok.of ⟨_,_,_,Tryz.underlying179⟩ info179 rfl rfl (by decide) (fun _=>rfl)
theorem info180:(Tryz.prog.info? 180).map (fun i=>(i.zero,i.size,i.bytes))=some (some .nilFunc,1,8):=by kernel_rfl
theorem td180_ok:TD.Ok Tryz.prog 180 td180:=TD.Ok.of ⟨_,_,_,Tryz.underlying180⟩ info180 rfl rfl (by decide) (fun _=>rfl)
theorem info186:(Tryz.prog.info? 186).map (fun i=>(i.zero,i.size,i.bytes))=some (some .nilFunc,1,8):=by kernel_rfl
theorem td186_ok:TD.Ok Tryz.prog 186 td186:=TD.Ok.of ⟨_,_,_,Tryz.underlying186⟩ info186 rfl rfl (by decide) (fun _=>rfl)
theorem info187:(Tryz.prog.info? 187).map (fun i=>(i.zero,i.size,i.bytes))=some (some (.int .u8 0),1,1):=by kernel_rfl
theorem td187_ok:TD.Ok Tryz.prog 187 td187:=TD.Ok.of Tryz.underlying187 info187 rfl rfl (by decide) (fun _=>rfl)
theorem info188:(Tryz.prog.info? 188).map (fun i=>(i.zero,i.size,i.bytes))=some (some (.int .u8 0),1,1):=by kernel_rfl
theorem td188_ok:TD.Ok Tryz.prog 188 td188:=TD.Ok.of Tryz.underlying188 info188 rfl rfl (by decide) (fun _=>rfl)
theorem info189:(Tryz.prog.info? 189).map (fun i=>(i.zero,i.size,i.bytes))=some (some .nilFunc,1,8):=by kernel_rfl
theorem td189_ok:TD.Ok Tryz.prog 189 td189:=TD.Ok.of ⟨_,_,_,Tryz.underlying189⟩ info189 rfl rfl (by decide) (fun _=>rfl)
theorem info190:(Tryz.prog.info? 190).map (fun i=>(i.zero,i.size,i.bytes))=some (some (.pointer none),1,8):=by kernel_rfl
theorem td190_ok:TD.Ok Tryz.prog 190 td190:=TD.Ok.of Tryz.underlying190 info190 rfl rfl (by decide) (fun _=>rfl)
theorem info191:(Tryz.prog.info? 191).map (fun i=>(i.zero,i.size,i.bytes))=some (some (.int .i32 0),1,4):=by kernel_rfl
theorem td191_ok:TD.Ok Tryz.prog 191 td191:=TD.Ok.of Tryz.underlying191 info191 rfl rfl (by decide) (fun _=>rfl)
theorem info192:(Tryz.prog.info? 192).map (fun i=>(i.zero,i.size,i.bytes))=some (some (.int .i32 0),1,4):=by kernel_rfl
theorem td192_ok:TD.Ok Tryz.prog 192 td192:=TD.Ok.of Tryz.underlying192 info192 rfl rfl (by decide) (fun _=>rfl)
set_option maxRecDepth 100000 in
theorem tabL_ok:∀p∈tabL,TD.Ok Tryz.prog p.1 p.2:=
  (ν7.2 ⟨td1_ok,(ν7.2 ⟨td2_ok,(ν7.2 ⟨td3_ok,(ν7.2 ⟨td4_ok,(ν7.2 ⟨td5_ok,(ν7.2 ⟨td6_ok,(ν7.2 ⟨td9_ok,(ν7.2 ⟨td10_ok,(ν7.2 ⟨td11_ok,(ν7.2 ⟨td12_ok,(ν7.2 ⟨td15_ok,(ν7.2 ⟨td16_ok,(ν7.2 ⟨td17_ok,(ν7.2 ⟨td21_ok,(ν7.2 ⟨td22_ok,(ν7.2 ⟨td23_ok,(ν7.2 ⟨td24_ok,(ν7.2 ⟨td25_ok,(ν7.2 ⟨td26_ok,(ν7.2 ⟨td27_ok,(ν7.2 ⟨td28_ok,(ν7.2 ⟨td29_ok,(ν7.2 ⟨td31_ok,(ν7.2 ⟨td32_ok,(ν7.2 ⟨td33_ok,(ν7.2 ⟨td34_ok,(ν7.2 ⟨td35_ok,(ν7.2 ⟨td36_ok,(ν7.2 ⟨td37_ok,(ν7.2 ⟨td38_ok,(ν7.2 ⟨td39_ok,(ν7.2 ⟨td40_ok,(ν7.2 ⟨td41_ok,(ν7.2 ⟨td42_ok,(ν7.2 ⟨td44_ok,(ν7.2 ⟨td45_ok,(ν7.2 ⟨td46_ok,(ν7.2 ⟨td47_ok,(ν7.2 ⟨td48_ok,(ν7.2 ⟨td49_ok,(ν7.2 ⟨td50_ok,(ν7.2 ⟨td51_ok,(ν7.2 ⟨td52_ok,(ν7.2 ⟨td53_ok,(ν7.2 ⟨td54_ok,(ν7.2 ⟨td55_ok,(ν7.2 ⟨td56_ok,(ν7.2 ⟨td58_ok,(ν7.2 ⟨td59_ok,(ν7.2 ⟨td60_ok,(ν7.2 ⟨td61_ok,(ν7.2 ⟨td62_ok,(ν7.2 ⟨td63_ok,(ν7.2 ⟨td64_ok,(ν7.2 ⟨td65_ok,(ν7.2 ⟨td66_ok,(ν7.2 ⟨td67_ok,(ν7.2 ⟨td68_ok,(ν7.2 ⟨td69_ok,(ν7.2 ⟨td70_ok,(ν7.2 ⟨td71_ok,(ν7.2 ⟨td72_ok,(ν7.2 ⟨td73_ok,(ν7.2 ⟨td74_ok,(ν7.2 ⟨td75_ok,(ν7.2 ⟨td76_ok,(ν7.2 ⟨td77_ok,(ν7.2 ⟨td78_ok,(ν7.2 ⟨td80_ok,(ν7.2 ⟨td81_ok,(ν7.2 ⟨td82_ok,(ν7.2 ⟨td83_ok,(ν7.2 ⟨td84_ok,(ν7.2 ⟨td85_ok,(ν7.2 ⟨td86_ok,(ν7.2 ⟨td87_ok,(ν7.2 ⟨td88_ok,(ν7.2 ⟨td89_ok,(ν7.2 ⟨td90_ok,(ν7.2 ⟨td91_ok,(ν7.2 ⟨td92_ok,(ν7.2 ⟨td93_ok,(ν7.2 ⟨td95_ok,(ν7.2 ⟨td96_ok,(ν7.2 ⟨td97_ok,(ν7.2 ⟨td98_ok,(ν7.2 ⟨td99_ok,(ν7.2 ⟨td100_ok,(ν7.2 ⟨td101_ok,(ν7.2 ⟨td102_ok,(ν7.2 ⟨td103_ok,(ν7.2 ⟨td104_ok,(ν7.2 ⟨td105_ok,(ν7.2 ⟨td106_ok,(ν7.2 ⟨td107_ok,(ν7.2 ⟨td108_ok,(ν7.2 ⟨td109_ok,(ν7.2 ⟨td110_ok,(ν7.2 ⟨td111_ok,(ν7.2 ⟨td112_ok,(ν7.2 ⟨td113_ok,(ν7.2 ⟨td114_ok,(ν7.2 ⟨td115_ok,(ν7.2 ⟨td116_ok,(ν7.2 ⟨td117_ok,(ν7.2 ⟨td118_ok,(ν7.2 ⟨td119_ok,(ν7.2 ⟨td120_ok,(ν7.2 ⟨td121_ok,(ν7.2 ⟨td122_ok,(ν7.2 ⟨td123_ok,(ν7.2 ⟨td124_ok,(ν7.2 ⟨td125_ok,(ν7.2 ⟨td126_ok,(ν7.2 ⟨td127_ok,(ν7.2 ⟨td128_ok,(ν7.2 ⟨td129_ok,(ν7.2 ⟨td130_ok,(ν7.2 ⟨td131_ok,(ν7.2 ⟨td132_ok,(ν7.2 ⟨td133_ok,(ν7.2 ⟨td134_ok,(ν7.2 ⟨td135_ok,(ν7.2 ⟨td136_ok,(ν7.2 ⟨td137_ok,(ν7.2 ⟨td138_ok,(ν7.2 ⟨td139_ok,(ν7.2 ⟨td140_ok,(ν7.2 ⟨td141_ok,(ν7.2 ⟨td142_ok,(ν7.2 ⟨td144_ok,(ν7.2 ⟨td145_ok,(ν7.2 ⟨td146_ok,(ν7.2 ⟨td147_ok,(ν7.2 ⟨td149_ok,(ν7.2 ⟨td150_ok,(ν7.2 ⟨td151_ok,(ν7.2 ⟨td153_ok,(ν7.2 ⟨td154_ok,(ν7.2 ⟨td155_ok,(ν7.2 ⟨td156_ok,(ν7.2 ⟨td157_ok,(ν7.2 ⟨td158_ok,(ν7.2 ⟨td159_ok,(ν7.2 ⟨td160_ok,(ν7.2 ⟨td161_ok,(ν7.2 ⟨td162_ok,(ν7.2 ⟨td163_ok,(ν7.2 ⟨td165_ok,(ν7.2 ⟨td167_ok,(ν7.2 ⟨td168_ok,(ν7.2 ⟨td169_ok,(ν7.2 ⟨td170_ok,(ν7.2 ⟨td171_ok,(ν7.2 ⟨td172_ok,(ν7.2 ⟨td173_ok,(ν7.2 ⟨td174_ok,(ν7.2 ⟨td175_ok,(ν7.2 ⟨td176_ok,(ν7.2 ⟨td178_ok,(ν7.2 ⟨td179_ok,(ν7.2 ⟨td180_ok,(ν7.2 ⟨td186_ok,(ν7.2 ⟨td187_ok,(ν7.2 ⟨td188_ok,(ν7.2 ⟨td189_ok,(ν7.2 ⟨td190_ok,(ν7.2 ⟨td191_ok,(ν7.2 ⟨td192_ok,(fun _ h=>by cases h)⟩)⟩)⟩)⟩)⟩)⟩)⟩)⟩)⟩)⟩)⟩)⟩)⟩)⟩)⟩)⟩)⟩)⟩)⟩)⟩)⟩)⟩)⟩)⟩)⟩)⟩)⟩)⟩)⟩)⟩)⟩)⟩)⟩)⟩)⟩)⟩)⟩)⟩)⟩)⟩)⟩)⟩)⟩)⟩)⟩)⟩)⟩)⟩)⟩)⟩)⟩)⟩)⟩)⟩)⟩)⟩)⟩)⟩)⟩)⟩)⟩)⟩)⟩)⟩)⟩)⟩)⟩)⟩)⟩)⟩)⟩)⟩)⟩)⟩)⟩)⟩)⟩)⟩)⟩)⟩)⟩)⟩)⟩)⟩)⟩)⟩)⟩)⟩)⟩)⟩)⟩)⟩)⟩)⟩)⟩)⟩)⟩)⟩)⟩)⟩)⟩)⟩)⟩)⟩)⟩)⟩)⟩)⟩)⟩)⟩)⟩)⟩)⟩)⟩)⟩)⟩)⟩)⟩)⟩)⟩)⟩)⟩)⟩)⟩)⟩)⟩)⟩)⟩)⟩)⟩)⟩)⟩)⟩)⟩)⟩)⟩)⟩)⟩)⟩)⟩)⟩)⟩)⟩)⟩)⟩)⟩)⟩)⟩)⟩)⟩)⟩)⟩)⟩)⟩)⟩)⟩)⟩)⟩)⟩)⟩)⟩)⟩)⟩)⟩)⟩)⟩)⟩)⟩)⟩)
theorem mixed:Tryz.prog.follows .mixedOrders=true:=by kernel_rfl
theorem tab_ok:tab.Ok Tryz.prog:=Tab.Ok.of_list tabL_ok
end Go.Proofs.YtolffbcnbcjeaaaGreat
namespace Go.Proofs.YtolffbcnbcjeaaaGreat
open Go Go.Sep
attribute [local irreducible] wpC headF
def D3:Info:=⟨96,fun i=>if i=10 then ([[],[],[1],[0,1,2],[0,1,2,3]],[(0,[]),(1,[]),(2,[0]),(3,[]),(4,[])]) else ([],[]),fun i=>([],[])⟩
def W3 (v0:AV) (H:Heap) (K:AV→Heap→Prop):Prop:=
 boxV v0 H fun v1 H1=>
 loadV tab 26 v1 H1 fun v14=>
 CallT Tryz.prog 7 [v14,(AV.p (.int .i64 1048576))] H1 fun v16 H2=>
 binV tab .lss 3 v16 (AV.p (.int .i64 0)) fun v18=>
 condV v18 (K (AV.p (.bool true)) H2)
 (loadV tab 26 v1 H2 fun v20=>
 CallT Tryz.prog 9 [v20] H2 fun v21 H3=>
 CallT Tryz.prog 8 [v21] H3 fun v22 H4=>
 extractV v22 0 fun v23=>
 extractV v22 1 fun v24=>
 allocV tab 29 H4 fun v4 H5=>
 storeV tab 29 v4 v23 H5 fun H6=>
 loadV tab 26 v1 H6 fun v25=>
 CallT Tryz.prog 9 [v25] H6 fun v26 H7=>
 allocV tab 34 H7 fun v6 H8=>
 storeV tab 34 v6 v26 H8 fun H9=>
 loadV tab 34 v6 H9 fun v28=>
 CallT Tryz.prog 10 [v28] H9 fun v29 H10=>
 extractV v29 0 fun v30=>
 extractV v29 1 fun v31=>
 allocV tab 29 H10 fun v7 H11=>
 storeV tab 29 v7 v30 H11 fun H12=>
 loadV tab 29 v7 H12 fun v32=>
 loadV tab 29 v4 H12 fun v33=>
 CallT Tryz.prog 11 [v32,v33] H12 fun v34 H13=>
 unV .not v34 fun v35=>
 grdV v35 false (binV tab .neq 4 v31 v24 fun v39=>
 condV v39 (K (AV.p (.bool false)) H13)
 (loadV tab 34 v6 H13 fun v41=>
 loadV tab 26 v1 H13 fun v42=>
 CallT Tryz.prog 9 [v42] H13 fun v43 H14=>
 (loadV tab 34 v6 H14 fun v9041=>
 v41=v9041)∧
 CallT Tryz.prog 12 [v41,v43] H14 fun v44 H15=>
 unV .not v44 fun v45=>
 condV v45 (K (AV.p (.bool false)) H15)
 (loadV tab 34 v6 H15 fun v46=>
 CallT Tryz.prog 13 [v46,(AV.p (.int .i64 1))] H15 fun v48 H16=>
 binV tab .lss 3 v48 (AV.p (.int .i64 0)) fun v50=>
 grdV v50 false (loadV tab 29 v7 H16 fun v52=>
 loadV tab 29 v4 H16 fun v53=>
 CallT Tryz.prog 11 [v52,v53] H16 fun v54 H17=>
 unV .not v54 fun v55=>
 grdV v55 false (binV tab .neq 4 v31 v24 fun v60=>
 condV v60 (K (AV.p (.bool false)) H17)
 (loadV tab 29 v7 H17 fun v62=>
 CallT Tryz.prog 14 [v62,(AV.p (.int .i64 1))] H17 fun v64 H18=>
 loadV tab 29 v7 H18 fun v65=>
 CallT Tryz.prog 15 [v65,(AV.p (.int .i64 1))] H18 fun v67 H19=>
 binV tab .lss 3 v67 (AV.p (.int .i64 0)) fun v69=>
 condV v69 (K (AV.p (.bool false)) H19)
 (binV tab .neq 3 v67 v64 fun v72=>
 condV v72 (K (AV.p (.bool false)) H19)
 (loadV tab 26 v1 H19 fun v74=>
 CallT Tryz.prog 9 [v74] H19 fun v75 H20=>
 CallT Tryz.prog 10 [v75] H20 fun v76 H21=>
 extractV v76 0 fun v77=>
 extractV v76 1 fun v78=>
 allocV tab 29 H21 fun v12 H22=>
 storeV tab 29 v12 v77 H22 fun H23=>
 loadV tab 29 v12 H23 fun v79=>
 loadV tab 29 v4 H23 fun v80=>
 CallT Tryz.prog 11 [v79,v80] H23 fun v81 H24=>
 unV .not v81 fun v82=>
 grdV v82 false (binV tab .neq 4 v78 v24 fun v86=>
 condV v86 (K (AV.p (.bool false)) H24)
 (loadV tab 29 v7 H24 fun v88=>
 CallT Tryz.prog 15 [v88,(AV.p (.int .i64 1))] H24 fun v90 H25=>
 binV tab .lss 3 v90 (AV.p (.int .i64 0)) fun v92=>
 condV v92 (K (AV.p (.bool false)) H25)
 (binV tab .neq 3 v90 v64 fun v95=>
 condV v95 (K (AV.p (.bool false)) H25)
 (K (AV.p (.bool true)) H25))))
 (K (AV.p (.bool false)) H24)))))
 (K (AV.p (.bool false)) H17))
 (K (AV.p (.bool false)) H16))))
 (K (AV.p (.bool false)) H13))
theorem W3_wp (v0:AV) (H:Heap) (K:AV→Heap→Prop):wpC Tryz.prog tab D3 (bodyOf Tryz.f3) (retF tab [.tmp 2] K) (nthA [v0]) H=W3 v0 H K:=by kernel_rfl
theorem W3_ok {v0:AV} {H:Heap} {K:AV→Heap→Prop} (h:W3 v0 H K):CallT Tryz.prog 3 [v0] H K:=
  CallT.of_wp (D:=D3) tab_ok mixed Tryz.func3 (c:=bodyOf Tryz.f3) (by kernel_rfl) rfl (by kernel_rfl) (rs:=#[.tmp 2]) rfl (by decide +kernel) (by kernel_rfl) (W3_wp v0 H K) h
def D7:Info:=⟨24,fun i=>([],[]),fun i=>([],[])⟩
def W7 (v0:AV) (v1:AV) (H:Heap) (K:AV→Heap→Prop):Prop:=
 boxV v0 H fun v2 H1=>
 fieldAddrV tab 26 v2 1 fun v5=>
 loadV tab 22 v5 H1 fun v6=>
 CallT Tryz.prog 26 [v6,v1] H1 fun v8 H2=>
 binV tab .lss 3 v8 (AV.p (.int .i64 0)) fun v10=>
 condV v10 (K (AV.p (.int .i64 (-1))) H2)
 (fieldAddrV tab 26 v2 2 fun v11=>
 loadV tab 23 v11 H2 fun v12=>
 CallT Tryz.prog 27 [v12,v8] H2 fun v14 H3=>
 binV tab .lss 3 v14 (AV.p (.int .i64 0)) fun v16=>
 condV v16 (K (AV.p (.int .i64 (-1))) H3)
 (fieldAddrV tab 26 v2 3 fun v17=>
 loadV tab 24 v17 H3 fun v18=>
 CallT Tryz.prog 28 [v18,v14] H3 fun v20 H4=>
 binV tab .lss 3 v20 (AV.p (.int .i64 0)) fun v22=>
 condV v22 (K (AV.p (.int .i64 (-1))) H4)
 (K v20 H4)))
theorem W7_wp (v0:AV) (v1:AV) (H:Heap) (K:AV→Heap→Prop):wpC Tryz.prog tab D7 (bodyOf Tryz.f7) (retF tab [.tmp 4] K) (nthA [v0,v1]) H=W7 v0 v1 H K:=by kernel_rfl
theorem W7_ok {v0 v1:AV} {H:Heap} {K:AV→Heap→Prop} (h:W7 v0 v1 H K):CallT Tryz.prog 7 [v0,v1] H K:=
  CallT.of_wp (D:=D7) tab_ok mixed Tryz.func7 (c:=bodyOf Tryz.f7) (by kernel_rfl) rfl (by kernel_rfl) (rs:=#[.tmp 4]) rfl (by decide +kernel) (by kernel_rfl) (W7_wp v0 v1 H K) h
def D8:Info:=⟨76,fun i=>if i=3 then ([[],[0],[],[2],[],[4],[0,1,2,3,4,5],[0,1,2,3,4,5,6],[0,1,2,3,4,5,6,7],[0,1,2,3,4,5,6,7],[0,1,2,3,4,5,6,7],[0,1,2,3,4,5,6,7,8],[0,1,2,3,4,5,6,7,8,9,11],[0,1,2,3,4,5,6,7,8,9,10,11,12]],[(0,[]),(2,[]),(3,[]),(4,[]),(5,[]),(1,[3,5]),(6,[]),(7,[]),(8,[]),(9,[]),(10,[]),(11,[]),(12,[]),(13,[])]) else if i=6 then ([[],[0],[],[0,1,2],[],[4],[4,5],[4,5,6],[0,1,2,3,4,5,6,7],[0,1,2,3,4,5,6,7,8]],[(0,[]),(2,[]),(4,[]),(5,[]),(6,[]),(1,[7,6]),(3,[7,6]),(7,[7]),(8,[]),(9,[])]) else if i=11 then ([[],[],[],[1,2],[1,2,3],[],[],[6],[5,6,7],[5,6,7,8],[0,1,2,3,4,5,6,7,8,9],[0,1,2,3,4,5,6,7,8,9,10]],[(0,[]),(1,[]),(2,[]),(3,[]),(4,[]),(5,[]),(6,[]),(7,[]),(8,[]),(9,[]),(10,[]),(11,[])]) else ([],[]),fun i=>if i=9 then ([1,2,4,7,8],[9]) else ([],[])⟩
def L8_0 (K:AV→Heap→Prop) (v1:AV) (v2:AV) (v4:AV) (v7:AV) (v8:AV) (v9:AV) (H:Heap):Prop:=LoopV (wpC Tryz.prog tab D8 (cAt [1,1,1,1,1,1,0,1,0,0] (bodyOf Tryz.f8))) [1,2,4,7,8] (PostF.block 0 (PostF.thenA (wpC Tryz.prog tab D8 (cAt [1,1,1,1,1,1,1] (bodyOf Tryz.f8))) (retF tab [.cell 2 29,.tmp 3] K))) [9] [AV.any,v1,v2,AV.any,v4,AV.any,AV.any,v7,v8,v9,AV.any,AV.any,AV.any,AV.any,AV.any,AV.any,AV.any,AV.any,AV.any,AV.any,AV.any,AV.any,AV.any,AV.any,AV.any,AV.any,AV.any,AV.any,AV.any,AV.any,AV.any,AV.any,AV.any,AV.any,AV.any,AV.any,AV.any,AV.any,AV.any,AV.any,AV.any,AV.any,AV.any,AV.any,AV.any,AV.any,AV.any,AV.any,AV.any,AV.any,AV.any,AV.any,AV.any,AV.any,AV.any,AV.any,AV.any,AV.any,AV.any,AV.any,AV.any,AV.any,AV.any,AV.any,AV.any,AV.any,AV.any,AV.any,AV.any,AV.any,AV.any,AV.any,AV.any,AV.any,AV.any,AV.any] H
def B8_0 (K:AV→Heap→Prop) (N1:AV→Heap→Prop) (v1:AV) (v2:AV) (v4:AV) (v7:AV) (v8:AV) (v9:AV) (H:Heap):Prop:=
 binV tab .add 3 v9 (AV.p (.int .i64 1)) fun v39=>
 lenV tab 22 v7 fun v41=>
 binV tab .lss 3 v39 v41 fun v42=>
 condV v42 (loadV tab 34 v1 H fun v45=>
 indexAddrV tab 22 v7 v9 fun v48=>
 loadV tab 3 v48 H fun v49=>
 binV tab .add 3 v9 (AV.p (.int .i64 1)) fun v52=>
 indexAddrV tab 22 v7 v52 fun v53=>
 loadV tab 3 v53 H fun v54=>
 CallT Tryz.prog 33 [v45,v49,v54] H fun v55 H13=>
 lenV tab 22 v4 fun v58=>
 binV tab .lss 3 v9 v58 fun v59=>
 condV v59 (fieldAddrV tab 29 v8 0 fun v60=>
 loadV tab 22 v60 H13 fun v61=>
 buildSliceV tab 22 1 [(0,v55)] H13 (wkK fun v63 H14=>
 appendV tab 22 22 v61 v63 H14 (wkK fun v64 H15=>
 fieldAddrV tab 29 v8 0 fun v65=>
 storeV tab 22 v65 v64 H15 fun H16=>
 binV tab .add 3 v9 (AV.p (.int .i64 1)) fun v44=>
 N1 v44 H16)))
 (fieldAddrV tab 29 v8 1 fun v66=>
 loadV tab 22 v66 H13 fun v67=>
 buildSliceV tab 22 1 [(0,v55)] H13 (wkK fun v69 H17=>
 appendV tab 22 22 v67 v69 H17 (wkK fun v70 H18=>
 fieldAddrV tab 29 v8 1 fun v71=>
 storeV tab 22 v71 v70 H18 fun H19=>
 binV tab .add 3 v9 (AV.p (.int .i64 1)) fun v44=>
 N1 v44 H19))))
 (loadV tab 29 v8 H fun v72=>
 CallT Tryz.prog 34 [v72] H fun v73 H20=>
 extractV v73 0 fun v74=>
 extractV v73 1 fun v75=>
 storeV tab 29 v2 v74 H20 fun H21=>
 loadV tab 29 v2 H21 fun r0=>
 K (.tup [r0,v75]) H21)
def W8 (v0:AV) (H:Heap) (K:AV→Heap→Prop):Prop:=
 boxV v0 H fun v1 H1=>
 allocV tab 29 H1 fun v2 H2=>
 loadV tab 34 v1 H2 fun v11=>
 CallT Tryz.prog 29 [v11] H2 fun v12 H3=>
 unV .not v12 fun v13=>
 condV v13 (buildV tab 29 [] fun v14=>
 storeV tab 29 v2 v14 H3 fun H4=>
 loadV tab 29 v2 H4 fun r0=>
 K (.tup [r0,(AV.p (.bool false))]) H4)
 (loadV tab 34 v1 H3 fun v16=>
 fieldAddrV tab 34 v1 1 fun v18=>
 loadV tab 22 v18 H3 fun v19=>
 fieldAddrV tab 34 v1 3 fun v20=>
 loadV tab 24 v20 H3 fun v21=>
 CallT Tryz.prog 31 [v16] H3 fun v17 H5=>
 (loadV tab 22 v18 H5 fun v9019=>
 v19=v9019)∧
 (loadV tab 24 v20 H5 fun v9021=>
 v21=v9021)∧
 CallT Tryz.prog 30 [v17,v19,v21] H5 fun v22 H6=>
 extractV v22 0 fun v23=>
 extractV v22 1 fun v24=>
 extractV v22 2 fun v25=>
 unV .not v25 fun v27=>
 condV v27 (buildV tab 29 [] fun v28=>
 storeV tab 29 v2 v28 H6 fun H7=>
 loadV tab 29 v2 H7 fun r0=>
 K (.tup [r0,(AV.p (.bool false))]) H7)
 (indexAddrV tab 22 v24 (AV.p (.int .i64 0)) fun v34=>
 loadV tab 3 v34 H6 fun v35=>
 safeV (buildN tab 22 1 [(0,v35)])∧
 CallT Tryz.prog 32 [v23] H6 fun v30 H8=>
 (loadV tab 3 v34 H8 fun v9035=>
 v35=v9035)∧
 safeV (buildN tab 22 1 [(0,v35)])∧
 appendV tab 22 22 v30 v24 H8 (wkK fun v32 H9=>
 (loadV tab 3 v34 H9 fun v9035=>
 v35=v9035)∧
 newV (buildN tab 22 1 [(0,v35)]) H9 fun v36 H10=>
 appendV tab 22 22 v32 v36 H10 (wkK fun v37 H11=>
 allocV tab 29 H11 fun v8 H12=>
 L8_0 K v1 v2 v23 v37 v8 (AV.p (.int .i64 0)) H12))))
theorem W8_wp (v0:AV) (H:Heap) (K:AV→Heap→Prop):wpC Tryz.prog tab D8 (bodyOf Tryz.f8) (retF tab [.cell 2 29,.tmp 3] K) (nthA [v0]) H=W8 v0 H K:=by kernel_rfl
theorem W8_ok {v0:AV} {H:Heap} {K:AV→Heap→Prop} (h:W8 v0 H K):CallT Tryz.prog 8 [v0] H K:=
  CallT.of_wp (D:=D8) tab_ok mixed Tryz.func8 (c:=bodyOf Tryz.f8) (by kernel_rfl) rfl (by kernel_rfl) (rs:=#[.cell 2 29,.tmp 3]) rfl (by decide +kernel) (by kernel_rfl) (W8_wp v0 H K) h
theorem W8_hb:HasBody Tryz.prog 8:=⟨_,bodyOf Tryz.f8,Tryz.func8,by kernel_rfl,rfl⟩
theorem L8_0_rule {K:AV→Heap→Prop} {v1 v2 v4 v7 v8 v9:AV} {H:Heap} {σ:Type} (s0:σ) (f9:σ→AV) (TH:σ→Heap) (pre:σ→Prop) (μ:σ→Nat)
    (h0:pre s0∧AV.wk v9 (f9 s0)∧Heap.le (TH s0) H)
    (round:∀s,pre s→B8_0 K (fun w9 H'=>∃s',pre s'∧μ s' < μ s∧AV.wk w9 (f9 s')∧Heap.le (TH s') H') v1 v2 v4 v7 v8 (f9 s) (TH s)) :
    L8_0 K v1 v2 v4 v7 v8 v9 H:=by
  unfold L8_0
  exact LoopV.mk s0 (fun s=>[f9 s]) TH pre μ (fun _=>rfl) (Eq.mp (by kernel_rfl) h0) (fun s hs=>Eq.mp (by kernel_rfl) (round s hs))
def D9:Info:=⟨20,fun i=>([],[]),fun i=>([],[])⟩
def W9 (v0:AV) (H:Heap) (K:AV→Heap→Prop):Prop:=
 boxV v0 H fun v1 H1=>
 allocV tab 34 H1 fun v2 H2=>
 allocV tab 34 H2 fun v3 H3=>
 fieldAddrV tab 26 v1 0 fun v4=>
 loadV tab 3 v4 H3 fun v5=>
 fieldAddrV tab 34 v3 0 fun v6=>
 storeV tab 3 v6 v5 H3 fun H4=>
 fieldAddrV tab 26 v1 1 fun v7=>
 loadV tab 22 v7 H4 fun v8=>
 CallT Tryz.prog 35 [v8] H4 fun v9 H5=>
 fieldAddrV tab 34 v3 1 fun v10=>
 storeV tab 22 v10 v9 H5 fun H6=>
 fieldAddrV tab 26 v1 2 fun v11=>
 loadV tab 23 v11 H6 fun v12=>
 CallT Tryz.prog 36 [v12] H6 fun v13 H7=>
 fieldAddrV tab 34 v3 2 fun v14=>
 storeV tab 32 v14 v13 H7 fun H8=>
 fieldAddrV tab 26 v1 3 fun v15=>
 loadV tab 24 v15 H8 fun v16=>
 CallT Tryz.prog 37 [v16] H8 fun v17 H9=>
 fieldAddrV tab 34 v3 3 fun v18=>
 storeV tab 24 v18 v17 H9 fun H10=>
 loadV tab 34 v3 H10 fun v19=>
 storeV tab 34 v2 v19 H10 fun H11=>
 loadV tab 34 v2 H11 fun r0=>
 K r0 H11
theorem W9_wp (v0:AV) (H:Heap) (K:AV→Heap→Prop):wpC Tryz.prog tab D9 (bodyOf Tryz.f9) (retF tab [.cell 2 34] K) (nthA [v0]) H=W9 v0 H K:=by kernel_rfl
theorem W9_ok {v0:AV} {H:Heap} {K:AV→Heap→Prop} (h:W9 v0 H K):CallT Tryz.prog 9 [v0] H K:=
  CallT.of_wp (D:=D9) tab_ok mixed Tryz.func9 (c:=bodyOf Tryz.f9) (by kernel_rfl) rfl (by kernel_rfl) (rs:=#[.cell 2 34]) rfl (by decide +kernel) (by kernel_rfl) (W9_wp v0 H K) h
def D10:Info:=⟨69,fun i=>if i=3 then ([[],[0],[],[2],[],[4],[0,1,2,3,4,5],[0,1,2,3,4,5,6],[0,1,2,3,4,5,6,7],[0,1,2,3,4,5,6,7],[0,1,2,3,4,5,6,7],[0,1,2,3,4,5,6,7,8],[0,1,2,3,4,5,6,7,8,9,11],[0,1,2,3,4,5,6,7,8,9,10,11,12]],[(0,[]),(2,[]),(3,[]),(4,[]),(5,[]),(1,[3,5]),(6,[]),(7,[]),(8,[]),(9,[]),(10,[]),(11,[]),(12,[]),(13,[])]) else if i=10 then ([[],[],[],[],[3],[2,3,4],[2,3,4,5],[],[],[7,8],[7,8,9],[1,2,3,4,5,6,7,8,9,10],[1,2,3,4,5,6,7,8,9,10,11],[0,1,2,3,4,5,6,7,8,9,10,11,12],[0,1,2,3,4,5,6,7,8,9,10,11,12,13]],[(0,[]),(1,[]),(2,[]),(3,[]),(4,[]),(5,[]),(6,[]),(7,[]),(8,[]),(9,[]),(10,[]),(11,[]),(12,[]),(13,[]),(14,[])]) else if i=11 then ([[],[],[1],[],[3],[0,1,2,3,4],[],[],[7],[6,7,8],[0,1,2,3,4,5,6,7,8,9],[0,1,2,3,4,5,6,7,8,9,10],[0,1,2,3,4,5,6,7,8,9,10,11],[0,1,2,3,4,5,6,7,8,9,10,11],[0,1,2,3,4,5,6,7,8,9,10,11,12,13],[0,1,2,3,4,5,6,7,8,9,10,11,12,13,14]],[(0,[]),(1,[]),(2,[]),(3,[]),(4,[]),(5,[]),(6,[]),(7,[]),(8,[]),(9,[]),(10,[]),(11,[]),(12,[]),(13,[]),(14,[]),(15,[])]) else ([],[]),fun i=>if i=8 then ([1,2,4,7],[8,9]) else ([],[])⟩
def L10_0 (K:AV→Heap→Prop) (v1:AV) (v2:AV) (v4:AV) (v7:AV) (v8:AV) (v9:AV) (H:Heap):Prop:=LoopV (wpC Tryz.prog tab D10 (cAt [1,1,1,1,1,0,1,0,0] (bodyOf Tryz.f10))) [1,2,4,7] (PostF.block 0 (PostF.thenA (wpC Tryz.prog tab D10 (cAt [1,1,1,1,1,1] (bodyOf Tryz.f10))) (retF tab [.cell 2 29,.tmp 3] K))) [8,9] [AV.any,v1,v2,AV.any,v4,AV.any,AV.any,v7,v8,v9,AV.any,AV.any,AV.any,AV.any,AV.any,AV.any,AV.any,AV.any,AV.any,AV.any,AV.any,AV.any,AV.any,AV.any,AV.any,AV.any,AV.any,AV.any,AV.any,AV.any,AV.any,AV.any,AV.any,AV.any,AV.any,AV.any,AV.any,AV.any,AV.any,AV.any,AV.any,AV.any,AV.any,AV.any,AV.any,AV.any,AV.any,AV.any,AV.any,AV.any,AV.any,AV.any,AV.any,AV.any,AV.any,AV.any,AV.any,AV.any,AV.any,AV.any,AV.any,AV.any,AV.any,AV.any,AV.any,AV.any,AV.any,AV.any,AV.any] H
def B10_0 (K:AV→Heap→Prop) (N1:AV→AV→Heap→Prop) (v1:AV) (v2:AV) (v4:AV) (v7:AV) (v8:AV) (v9:AV) (H:Heap):Prop:=
 lenV tab 22 v7 fun v37=>
 binV tab .lss 3 v9 v37 fun v38=>
 condV v38 (loadV tab 34 v1 H fun v42=>
 binV tab .sub 3 v9 (AV.p (.int .i64 1)) fun v45=>
 indexAddrV tab 22 v7 v45 fun v46=>
 loadV tab 3 v46 H fun v47=>
 indexAddrV tab 22 v7 v9 fun v50=>
 loadV tab 3 v50 H fun v51=>
 CallT Tryz.prog 42 [v42,v47,v51] H fun v52 H11=>
 buildSliceV tab 22 1 [(0,v52)] H11 (wkK fun v53 H12=>
 appendV tab 22 22 v8 v53 H12 (wkK fun v54 H13=>
 binV tab .add 3 v9 (AV.p (.int .i64 1)) fun v40=>
 N1 v54 v40 H13)))
 (lenV tab 22 v4 fun v57=>
 lenV tab 22 v4 fun v59=>
 sliceV tab 22 v8 none (some v57) (some v59) fun v60=>
 lenV tab 22 v4 fun v63=>
 sliceV tab 22 v8 (some v63) none none fun v64=>
 buildV tab 29 [(0,v60),(1,v64)] fun v65=>
 CallT Tryz.prog 43 [v65] H fun v66 H14=>
 extractV v66 0 fun v67=>
 extractV v66 1 fun v68=>
 storeV tab 29 v2 v67 H14 fun H15=>
 loadV tab 29 v2 H15 fun r0=>
 K (.tup [r0,v68]) H15)
def W10 (v0:AV) (H:Heap) (K:AV→Heap→Prop):Prop:=
 boxV v0 H fun v1 H1=>
 allocV tab 29 H1 fun v2 H2=>
 loadV tab 34 v1 H2 fun v10=>
 CallT Tryz.prog 38 [v10] H2 fun v11 H3=>
 unV .not v11 fun v12=>
 condV v12 (buildV tab 29 [] fun v13=>
 storeV tab 29 v2 v13 H3 fun H4=>
 loadV tab 29 v2 H4 fun r0=>
 K (.tup [r0,(AV.p (.bool false))]) H4)
 (loadV tab 34 v1 H3 fun v15=>
 fieldAddrV tab 34 v1 1 fun v17=>
 loadV tab 22 v17 H3 fun v18=>
 fieldAddrV tab 34 v1 3 fun v19=>
 loadV tab 24 v19 H3 fun v20=>
 CallT Tryz.prog 40 [v15] H3 fun v16 H5=>
 (loadV tab 22 v17 H5 fun v9018=>
 v18=v9018)∧
 (loadV tab 24 v19 H5 fun v9020=>
 v20=v9020)∧
 CallT Tryz.prog 39 [v16,v18,v20] H5 fun v21 H6=>
 extractV v21 0 fun v22=>
 extractV v21 1 fun v23=>
 extractV v21 2 fun v24=>
 unV .not v24 fun v26=>
 condV v26 (buildV tab 29 [] fun v27=>
 storeV tab 29 v2 v27 H6 fun H7=>
 loadV tab 29 v2 H7 fun r0=>
 K (.tup [r0,(AV.p (.bool false))]) H7)
 (sliceV tab 22 v23 none (some (AV.p (.int .i64 1))) none fun v31=>
 buildSliceV tab 24 3 [(0,v22),(1,v23),(2,v31)] H6 (wkK fun v32 H8=>
 CallT Tryz.prog 41 [v32] H8 fun v33 H9=>
 buildSliceV tab 22 0 [] H9 (wkK fun v34 H10=>
 L10_0 K v1 v2 v22 v33 v34 (AV.p (.int .i64 1)) H10))))
theorem W10_wp (v0:AV) (H:Heap) (K:AV→Heap→Prop):wpC Tryz.prog tab D10 (bodyOf Tryz.f10) (retF tab [.cell 2 29,.tmp 3] K) (nthA [v0]) H=W10 v0 H K:=by kernel_rfl
theorem W10_ok {v0:AV} {H:Heap} {K:AV→Heap→Prop} (h:W10 v0 H K):CallT Tryz.prog 10 [v0] H K:=
  CallT.of_wp (D:=D10) tab_ok mixed Tryz.func10 (c:=bodyOf Tryz.f10) (by kernel_rfl) rfl (by kernel_rfl) (rs:=#[.cell 2 29,.tmp 3]) rfl (by decide +kernel) (by kernel_rfl) (W10_wp v0 H K) h
theorem L10_0_rule {K:AV→Heap→Prop} {v1 v2 v4 v7 v8 v9:AV} {H:Heap} {σ:Type} (s0:σ) (f8:σ→AV) (f9:σ→AV) (TH:σ→Heap) (pre:σ→Prop) (μ:σ→Nat)
    (h0:pre s0∧AV.wk v8 (f8 s0)∧AV.wk v9 (f9 s0)∧Heap.le (TH s0) H)
    (round:∀s,pre s→B10_0 K (fun w8 w9 H'=>∃s',pre s'∧μ s' < μ s∧AV.wk w8 (f8 s')∧AV.wk w9 (f9 s')∧Heap.le (TH s') H') v1 v2 v4 v7 (f8 s) (f9 s) (TH s)) :
    L10_0 K v1 v2 v4 v7 v8 v9 H:=by
  unfold L10_0
  exact LoopV.mk s0 (fun s=>[f8 s,f9 s]) TH pre μ (fun _=>rfl) (Eq.mp (by kernel_rfl) h0) (fun s hs=>Eq.mp (by kernel_rfl) (round s hs))
def D11:Info:=⟨17,fun i=>([],[]),fun i=>([],[])⟩
def W11 (v0:AV) (v1:AV) (H:Heap) (K:AV→Heap→Prop):Prop:=
 boxV v0 H fun v2 H1=>
 boxV v1 H1 fun v3 H2=>
 fieldAddrV tab 29 v2 0 fun v5=>
 loadV tab 22 v5 H2 fun v6=>
 fieldAddrV tab 29 v3 0 fun v7=>
 loadV tab 22 v7 H2 fun v8=>
 CallT Tryz.prog 44 [v6,v8] H2 fun v9 H3=>
 unV .not v9 fun v10=>
 condV v10 (K (AV.p (.bool false)) H3)
 (fieldAddrV tab 29 v2 1 fun v11=>
 loadV tab 22 v11 H3 fun v12=>
 fieldAddrV tab 29 v3 1 fun v13=>
 loadV tab 22 v13 H3 fun v14=>
 CallT Tryz.prog 44 [v12,v14] H3 fun v15 H4=>
 unV .not v15 fun v16=>
 condV v16 (K (AV.p (.bool false)) H4)
 (K (AV.p (.bool true)) H4))
theorem W11_wp (v0:AV) (v1:AV) (H:Heap) (K:AV→Heap→Prop):wpC Tryz.prog tab D11 (bodyOf Tryz.f11) (retF tab [.tmp 4] K) (nthA [v0,v1]) H=W11 v0 v1 H K:=by kernel_rfl
theorem W11_ok {v0 v1:AV} {H:Heap} {K:AV→Heap→Prop} (h:W11 v0 v1 H K):CallT Tryz.prog 11 [v0,v1] H K:=
  CallT.of_wp (D:=D11) tab_ok mixed Tryz.func11 (c:=bodyOf Tryz.f11) (by kernel_rfl) rfl (by kernel_rfl) (rs:=#[.tmp 4]) rfl (by decide +kernel) (by kernel_rfl) (W11_wp v0 v1 H K) h
def D12:Info:=⟨28,fun i=>([],[]),fun i=>([],[])⟩
def W12 (v0:AV) (v1:AV) (H:Heap) (K:AV→Heap→Prop):Prop:=
 boxV v0 H fun v2 H1=>
 boxV v1 H1 fun v3 H2=>
 fieldAddrV tab 34 v2 0 fun v5=>
 loadV tab 3 v5 H2 fun v6=>
 fieldAddrV tab 34 v3 0 fun v7=>
 loadV tab 3 v7 H2 fun v8=>
 binV tab .neq 3 v6 v8 fun v9=>
 condV v9 (K (AV.p (.bool false)) H2)
 (fieldAddrV tab 34 v2 1 fun v10=>
 loadV tab 22 v10 H2 fun v11=>
 fieldAddrV tab 34 v3 1 fun v12=>
 loadV tab 22 v12 H2 fun v13=>
 CallT Tryz.prog 44 [v11,v13] H2 fun v14 H3=>
 unV .not v14 fun v15=>
 condV v15 (K (AV.p (.bool false)) H3)
 (fieldAddrV tab 34 v2 2 fun v16=>
 loadV tab 32 v16 H3 fun v17=>
 fieldAddrV tab 34 v3 2 fun v18=>
 loadV tab 32 v18 H3 fun v19=>
 CallT Tryz.prog 45 [v17,v19] H3 fun v20 H4=>
 unV .not v20 fun v21=>
 condV v21 (K (AV.p (.bool false)) H4)
 (fieldAddrV tab 34 v2 3 fun v22=>
 loadV tab 24 v22 H4 fun v23=>
 fieldAddrV tab 34 v3 3 fun v24=>
 loadV tab 24 v24 H4 fun v25=>
 CallT Tryz.prog 46 [v23,v25] H4 fun v26 H5=>
 unV .not v26 fun v27=>
 condV v27 (K (AV.p (.bool false)) H5)
 (K (AV.p (.bool true)) H5))))
theorem W12_wp (v0:AV) (v1:AV) (H:Heap) (K:AV→Heap→Prop):wpC Tryz.prog tab D12 (bodyOf Tryz.f12) (retF tab [.tmp 4] K) (nthA [v0,v1]) H=W12 v0 v1 H K:=by kernel_rfl
theorem W12_ok {v0 v1:AV} {H:Heap} {K:AV→Heap→Prop} (h:W12 v0 v1 H K):CallT Tryz.prog 12 [v0,v1] H K:=
  CallT.of_wp (D:=D12) tab_ok mixed Tryz.func12 (c:=bodyOf Tryz.f12) (by kernel_rfl) rfl (by kernel_rfl) (rs:=#[.tmp 4]) rfl (by decide +kernel) (by kernel_rfl) (W12_wp v0 v1 H K) h
def D13:Info:=⟨18,fun i=>([],[]),fun i=>([],[])⟩
def W13 (v0:AV) (v1:AV) (H:Heap) (K:AV→Heap→Prop):Prop:=
 boxV v0 H fun v2 H1=>
 fieldAddrV tab 34 v2 1 fun v5=>
 loadV tab 22 v5 H1 fun v6=>
 CallT Tryz.prog 47 [v6,v1] H1 fun v8 H2=>
 fieldAddrV tab 34 v2 2 fun v9=>
 loadV tab 32 v9 H2 fun v10=>
 CallT Tryz.prog 48 [v10,v8] H2 fun v12 H3=>
 fieldAddrV tab 34 v2 3 fun v13=>
 loadV tab 24 v13 H3 fun v14=>
 CallT Tryz.prog 49 [v14,v12] H3 fun v16 H4=>
 K v16 H4
theorem W13_wp (v0:AV) (v1:AV) (H:Heap) (K:AV→Heap→Prop):wpC Tryz.prog tab D13 (bodyOf Tryz.f13) (retF tab [.tmp 4] K) (nthA [v0,v1]) H=W13 v0 v1 H K:=by kernel_rfl
theorem W13_ok {v0 v1:AV} {H:Heap} {K:AV→Heap→Prop} (h:W13 v0 v1 H K):CallT Tryz.prog 13 [v0,v1] H K:=
  CallT.of_wp (D:=D13) tab_ok mixed Tryz.func13 (c:=bodyOf Tryz.f13) (by kernel_rfl) rfl (by kernel_rfl) (rs:=#[.tmp 4]) rfl (by decide +kernel) (by kernel_rfl) (W13_wp v0 v1 H K) h
def D14:Info:=⟨14,fun i=>([],[]),fun i=>([],[])⟩
def W14 (v0:AV) (v1:AV) (H:Heap) (K:AV→Heap→Prop):Prop:=
 boxV v0 H fun v2 H1=>
 fieldAddrV tab 29 v2 0 fun v5=>
 loadV tab 22 v5 H1 fun v6=>
 CallT Tryz.prog 47 [v6,v1] H1 fun v8 H2=>
 fieldAddrV tab 29 v2 1 fun v9=>
 loadV tab 22 v9 H2 fun v10=>
 CallT Tryz.prog 47 [v10,v8] H2 fun v12 H3=>
 K v12 H3
theorem W14_wp (v0:AV) (v1:AV) (H:Heap) (K:AV→Heap→Prop):wpC Tryz.prog tab D14 (bodyOf Tryz.f14) (retF tab [.tmp 4] K) (nthA [v0,v1]) H=W14 v0 v1 H K:=by kernel_rfl
theorem W14_ok {v0 v1:AV} {H:Heap} {K:AV→Heap→Prop} (h:W14 v0 v1 H K):CallT Tryz.prog 14 [v0,v1] H K:=
  CallT.of_wp (D:=D14) tab_ok mixed Tryz.func14 (c:=bodyOf Tryz.f14) (by kernel_rfl) rfl (by kernel_rfl) (rs:=#[.tmp 4]) rfl (by decide +kernel) (by kernel_rfl) (W14_wp v0 v1 H K) h
def D15:Info:=⟨18,fun i=>([],[]),fun i=>([],[])⟩
def W15 (v0:AV) (v1:AV) (H:Heap) (K:AV→Heap→Prop):Prop:=
 boxV v0 H fun v2 H1=>
 fieldAddrV tab 29 v2 0 fun v5=>
 loadV tab 22 v5 H1 fun v6=>
 CallT Tryz.prog 50 [v6,v1] H1 fun v8 H2=>
 binV tab .lss 3 v8 (AV.p (.int .i64 0)) fun v10=>
 condV v10 (K (AV.p (.int .i64 (-1))) H2)
 (fieldAddrV tab 29 v2 1 fun v11=>
 loadV tab 22 v11 H2 fun v12=>
 CallT Tryz.prog 50 [v12,v8] H2 fun v14 H3=>
 binV tab .lss 3 v14 (AV.p (.int .i64 0)) fun v16=>
 condV v16 (K (AV.p (.int .i64 (-1))) H3)
 (K v14 H3))
theorem W15_wp (v0:AV) (v1:AV) (H:Heap) (K:AV→Heap→Prop):wpC Tryz.prog tab D15 (bodyOf Tryz.f15) (retF tab [.tmp 4] K) (nthA [v0,v1]) H=W15 v0 v1 H K:=by kernel_rfl
theorem W15_ok {v0 v1:AV} {H:Heap} {K:AV→Heap→Prop} (h:W15 v0 v1 H K):CallT Tryz.prog 15 [v0,v1] H K:=
  CallT.of_wp (D:=D15) tab_ok mixed Tryz.func15 (c:=bodyOf Tryz.f15) (by kernel_rfl) rfl (by kernel_rfl) (rs:=#[.tmp 4]) rfl (by decide +kernel) (by kernel_rfl) (W15_wp v0 v1 H K) h
end Go.Proofs.YtolffbcnbcjeaaaGreat
