/- Texts laid together: Lr0 Tab W0 W1 W2 W3. -/
import Derived.Test.YtjdhigcefkihiaaPb2
import Derived.Test.YtjdhigcefkihiaaProg
import Derived.KernelRfl
set_option linter.unusedVariables false
set_option linter.unusedSimpArgs false
open Nat renaming reduceAdd→ν1,reduceLeDiff→ν2,reduceLT→ν3,reduceMul→ν4,reduceSub→ν5
open Int renaming reduceToNat→ι1,reduceSub→ι2,reduceAdd→ι3,reduceNeg→ι4
open Array renaming toList→ι5
open Ne renaming symm→ν6
open List renaming forall_mem_cons→ν7
namespace Go.Sep
open Go Go.RowKit
theorem args_cons {P:Program} {t:TypeId} {ts:List TypeId} {avs:List AV} (h:ArgsT P (t::ts) avs):∃v vs,avs=v::vs∧ArgT P t v∧ArgsT P ts vs:=by
  cases h with
  | cons h r=>exact ⟨_,_,rfl,h,r⟩
theorem args_nil {P:Program} {avs:List AV} (h:ArgsT P [] avs):avs=[]:=by cases h;rfl
end Go.Sep
namespace Go.Proofs.Ytjdhigcefkihiaa
open Go Go.Sep
def td1:TD:=⟨.func,1,8,[.nilfn]⟩
def td2:TD:=⟨.int .i64,1,8,[(.p (.int .i64 0))]⟩
def td3:TD:=⟨.int .i64,1,8,[(.p (.int .i64 0))]⟩
def td4:TD:=⟨.bool,1,1,[(.p (.bool false))]⟩
def td5:TD:=⟨.int .u8,1,1,[(.p (.int .u8 0))]⟩
def td6:TD:=⟨.int .u8,1,1,[(.p (.int .u8 0))]⟩
def td9:TD:=⟨.str,1,16,[(.p (.str ⟨#[]⟩))]⟩
def td10:TD:=⟨.str,1,16,[(.p (.str ⟨#[]⟩))]⟩
def td11:TD:=⟨.str,1,16,[(.p (.str ⟨#[]⟩))]⟩
def td12:TD:=⟨.int .u64,1,8,[(.p (.int .u64 0))]⟩
def td15:TD:=⟨.ptr 157,1,8,[.nilp]⟩
def td16:TD:=⟨.ptr 160,1,8,[.nilp]⟩
def td17:TD:=⟨.ptr 168,1,8,[.nilp]⟩
def td21:TD:=⟨.int .i32,1,4,[(.p (.int .i32 0))]⟩
def td22:TD:=⟨.slice 82,1,24,[(.p .nil)]⟩
def td23:TD:=⟨.slice 3,1,24,[(.p .nil)]⟩
def td24:TD:=⟨.struct [(0,23),(1,23)],2,48,[(.p .nil),(.p .nil)]⟩
def td25:TD:=⟨.struct [(0,23),(1,23)],2,48,[(.p .nil),(.p .nil)]⟩
def td26:TD:=⟨.func,1,8,[.nilfn]⟩
def td27:TD:=⟨.func,1,8,[.nilfn]⟩
def td29:TD:=⟨.func,1,8,[.nilfn]⟩
def td30:TD:=⟨.slice 80,1,24,[(.p .nil)]⟩
def td31:TD:=⟨.func,1,8,[.nilfn]⟩
def td32:TD:=⟨.struct [(0,23),(1,23)],2,48,[(.p .nil),(.p .nil)]⟩
def td33:TD:=⟨.func,1,8,[.nilfn]⟩
def td34:TD:=⟨.func,1,8,[.nilfn]⟩
def td35:TD:=⟨.func,1,8,[.nilfn]⟩
def td36:TD:=⟨.func,1,8,[.nilfn]⟩
def td37:TD:=⟨.func,1,8,[.nilfn]⟩
def td38:TD:=⟨.func,1,8,[.nilfn]⟩
def td39:TD:=⟨.func,1,8,[.nilfn]⟩
def td40:TD:=⟨.func,1,8,[.nilfn]⟩
def td41:TD:=⟨.slice 5,1,24,[(.p .nil)]⟩
def td42:TD:=⟨.func,1,8,[.nilfn]⟩
def td44:TD:=⟨.func,1,8,[.nilfn]⟩
def td46:TD:=⟨.func,1,8,[.nilfn]⟩
def td48:TD:=⟨.func,1,8,[.nilfn]⟩
def td49:TD:=⟨.func,1,8,[.nilfn]⟩
def td51:TD:=⟨.func,1,8,[.nilfn]⟩
def td52:TD:=⟨.func,1,8,[.nilfn]⟩
def td54:TD:=⟨.func,1,8,[.nilfn]⟩
def td56:TD:=⟨.func,1,8,[.nilfn]⟩
def td57:TD:=⟨.func,1,8,[.nilfn]⟩
def td59:TD:=⟨.func,1,8,[.nilfn]⟩
def td60:TD:=⟨.func,1,8,[.nilfn]⟩
def td61:TD:=⟨.func,1,8,[.nilfn]⟩
def td62:TD:=⟨.func,1,8,[.nilfn]⟩
def td63:TD:=⟨.func,1,8,[.nilfn]⟩
def td65:TD:=⟨.func,1,8,[.nilfn]⟩
def td66:TD:=⟨.func,1,8,[.nilfn]⟩
def td68:TD:=⟨.func,1,8,[.nilfn]⟩
def td70:TD:=⟨.func,1,8,[.nilfn]⟩
def td71:TD:=⟨.slice 76,1,24,[(.p .nil)]⟩
def td72:TD:=⟨.func,1,8,[.nilfn]⟩
def td73:TD:=⟨.func,1,8,[.nilfn]⟩
def td74:TD:=⟨.int .u64,1,8,[(.p (.int .u64 0))]⟩
def td75:TD:=⟨.func,1,8,[.nilfn]⟩
def td76:TD:=⟨.slice 4,1,24,[(.p .nil)]⟩
def td77:TD:=⟨.int .u64,1,8,[(.p (.int .u64 0))]⟩
def td78:TD:=⟨.func,1,8,[.nilfn]⟩
def td79:TD:=⟨.struct [(0,3),(1,3)],2,16,[(.p (.int .i64 0)),(.p (.int .i64 0))]⟩
def td80:TD:=⟨.struct [(0,3),(1,3)],2,16,[(.p (.int .i64 0)),(.p (.int .i64 0))]⟩
def td81:TD:=⟨.func,1,8,[.nilfn]⟩
def td82:TD:=⟨.struct [(0,3),(1,3)],2,16,[(.p (.int .i64 0)),(.p (.int .i64 0))]⟩
def td83:TD:=⟨.func,1,8,[.nilfn]⟩
def td84:TD:=⟨.func,1,8,[.nilfn]⟩
def td85:TD:=⟨.func,1,8,[.nilfn]⟩
def td86:TD:=⟨.ptr 88,1,8,[.nilp]⟩
def td87:TD:=⟨.struct [(0,41),(1,3),(2,74)],3,40,[(.p .nil),(.p (.int .i64 0)),(.p (.int .u64 0))]⟩
def td88:TD:=⟨.struct [(0,41),(1,3),(2,74)],3,40,[(.p .nil),(.p (.int .i64 0)),(.p (.int .u64 0))]⟩
def td89:TD:=⟨.func,1,8,[.nilfn]⟩
def td90:TD:=⟨.func,1,8,[.nilfn]⟩
def td91:TD:=⟨.func,1,8,[.nilfn]⟩
def td92:TD:=⟨.func,1,8,[.nilfn]⟩
def td93:TD:=⟨.func,1,8,[.nilfn]⟩
def td94:TD:=⟨.func,1,8,[.nilfn]⟩
def td95:TD:=⟨.func,1,8,[.nilfn]⟩
def td96:TD:=⟨.func,1,8,[.nilfn]⟩
def td97:TD:=⟨.func,1,8,[.nilfn]⟩
def td98:TD:=⟨.func,1,8,[.nilfn]⟩
def td99:TD:=⟨.func,1,8,[.nilfn]⟩
def td100:TD:=⟨.func,1,8,[.nilfn]⟩
def td101:TD:=⟨.func,1,8,[.nilfn]⟩
def td102:TD:=⟨.func,1,8,[.nilfn]⟩
def td103:TD:=⟨.func,1,8,[.nilfn]⟩
def td104:TD:=⟨.func,1,8,[.nilfn]⟩
def td105:TD:=⟨.func,1,8,[.nilfn]⟩
def td106:TD:=⟨.func,1,8,[.nilfn]⟩
def td107:TD:=⟨.func,1,8,[.nilfn]⟩
def td108:TD:=⟨.func,1,8,[.nilfn]⟩
def td109:TD:=⟨.func,1,8,[.nilfn]⟩
def td110:TD:=⟨.slice 23,1,24,[(.p .nil)]⟩
def td111:TD:=⟨.func,1,8,[.nilfn]⟩
def td112:TD:=⟨.func,1,8,[.nilfn]⟩
def td113:TD:=⟨.func,1,8,[.nilfn]⟩
def td114:TD:=⟨.func,1,8,[.nilfn]⟩
def td115:TD:=⟨.slice 30,1,24,[(.p .nil)]⟩
def td116:TD:=⟨.func,1,8,[.nilfn]⟩
def td117:TD:=⟨.func,1,8,[.nilfn]⟩
def td118:TD:=⟨.func,1,8,[.nilfn]⟩
def td119:TD:=⟨.func,1,8,[.nilfn]⟩
def td120:TD:=⟨.func,1,8,[.nilfn]⟩
def td121:TD:=⟨.func,1,8,[.nilfn]⟩
def td122:TD:=⟨.func,1,8,[.nilfn]⟩
def td123:TD:=⟨.func,1,8,[.nilfn]⟩
def td124:TD:=⟨.func,1,8,[.nilfn]⟩
def td125:TD:=⟨.func,1,8,[.nilfn]⟩
def td126:TD:=⟨.func,1,8,[.nilfn]⟩
def td127:TD:=⟨.int .i64,1,8,[(.p (.int .i64 0))]⟩
def td129:TD:=⟨.func,1,8,[.nilfn]⟩
def td130:TD:=⟨.func,1,8,[.nilfn]⟩
def td131:TD:=⟨.func,1,8,[.nilfn]⟩
def td132:TD:=⟨.func,1,8,[.nilfn]⟩
def td133:TD:=⟨.func,1,8,[.nilfn]⟩
def td134:TD:=⟨.int .u32,1,4,[(.p (.int .u32 0))]⟩
def td135:TD:=⟨.func,1,8,[.nilfn]⟩
def td136:TD:=⟨.func,1,8,[.nilfn]⟩
def td137:TD:=⟨.func,1,8,[.nilfn]⟩
def td138:TD:=⟨.func,1,8,[.nilfn]⟩
def td139:TD:=⟨.func,1,8,[.nilfn]⟩
def td140:TD:=⟨.int .u64,1,8,[(.p (.int .u64 0))]⟩
def td141:TD:=⟨.func,1,8,[.nilfn]⟩
def td142:TD:=⟨.func,1,8,[.nilfn]⟩
def td143:TD:=⟨.func,1,8,[.nilfn]⟩
def td144:TD:=⟨.ptr 3,1,8,[.nilp]⟩
def td145:TD:=⟨.func,1,8,[.nilfn]⟩
def td147:TD:=⟨.func,1,8,[.nilfn]⟩
def td148:TD:=⟨.ptr 140,1,8,[.nilp]⟩
def td150:TD:=⟨.func,1,8,[.nilfn]⟩
def td152:TD:=⟨.func,1,8,[.nilfn]⟩
def td154:TD:=⟨.func,1,8,[.nilfn]⟩
def td155:TD:=⟨.func,1,8,[.nilfn]⟩
def td161:TD:=⟨.int .u8,1,1,[(.p (.int .u8 0))]⟩
def td162:TD:=⟨.int .u8,1,1,[(.p (.int .u8 0))]⟩
def td163:TD:=⟨.func,1,8,[.nilfn]⟩
def td164:TD:=⟨.ptr 5,1,8,[.nilp]⟩
def td165:TD:=⟨.int .i32,1,4,[(.p (.int .i32 0))]⟩
def td166:TD:=⟨.int .i32,1,4,[(.p (.int .i32 0))]⟩
def tabL:List (Nat×TD):=[(1,td1),(2,td2),(3,td3),(4,td4),(5,td5),(6,td6),(9,td9),(10,td10),(11,td11),(12,td12),(15,td15),(16,td16),(17,td17),(21,td21),(22,td22),(23,td23),(24,td24),(25,td25),(26,td26),(27,td27),(29,td29),(30,td30),(31,td31),(32,td32),(33,td33),(34,td34),(35,td35),(36,td36),(37,td37),(38,td38),(39,td39),(40,td40),(41,td41),(42,td42),(44,td44),(46,td46),(48,td48),(49,td49),(51,td51),(52,td52),(54,td54),(56,td56),(57,td57),(59,td59),(60,td60),(61,td61),(62,td62),(63,td63),(65,td65),(66,td66),(68,td68),(70,td70),(71,td71),(72,td72),(73,td73),(74,td74),(75,td75),(76,td76),(77,td77),(78,td78),(79,td79),(80,td80),(81,td81),(82,td82),(83,td83),(84,td84),(85,td85),(86,td86),(87,td87),(88,td88),(89,td89),(90,td90),(91,td91),(92,td92),(93,td93),(94,td94),(95,td95),(96,td96),(97,td97),(98,td98),(99,td99),(100,td100),(101,td101),(102,td102),(103,td103),(104,td104),(105,td105),(106,td106),(107,td107),(108,td108),(109,td109),(110,td110),(111,td111),(112,td112),(113,td113),(114,td114),(115,td115),(116,td116),(117,td117),(118,td118),(119,td119),(120,td120),(121,td121),(122,td122),(123,td123),(124,td124),(125,td125),(126,td126),(127,td127),(129,td129),(130,td130),(131,td131),(132,td132),(133,td133),(134,td134),(135,td135),(136,td136),(137,td137),(138,td138),(139,td139),(140,td140),(141,td141),(142,td142),(143,td143),(144,td144),(145,td145),(147,td147),(148,td148),(150,td150),(152,td152),(154,td154),(155,td155),(161,td161),(162,td162),(163,td163),(164,td164),(165,td165),(166,td166)]
def tab:Tab:=fun t=>(tabL.find? (fun p=>p.1==t)).map (·.2)
theorem tab_1:tab 1=some ⟨.func,1,8,[.nilfn]⟩:=rfl
theorem tab_2:tab 2=some ⟨.int .i64,1,8,[(.p (.int .i64 0))]⟩:=rfl
theorem tab_3:tab 3=some ⟨.int .i64,1,8,[(.p (.int .i64 0))]⟩:=rfl
theorem tab_4:tab 4=some ⟨.bool,1,1,[(.p (.bool false))]⟩:=rfl
theorem tab_5:tab 5=some ⟨.int .u8,1,1,[(.p (.int .u8 0))]⟩:=rfl
theorem tab_6:tab 6=some ⟨.int .u8,1,1,[(.p (.int .u8 0))]⟩:=rfl
theorem tab_9:tab 9=some ⟨.str,1,16,[(.p (.str ⟨#[]⟩))]⟩:=rfl
theorem tab_10:tab 10=some ⟨.str,1,16,[(.p (.str ⟨#[]⟩))]⟩:=rfl
theorem tab_11:tab 11=some ⟨.str,1,16,[(.p (.str ⟨#[]⟩))]⟩:=rfl
theorem tab_12:tab 12=some ⟨.int .u64,1,8,[(.p (.int .u64 0))]⟩:=rfl
theorem tab_15:tab 15=some ⟨.ptr 157,1,8,[.nilp]⟩:=rfl
theorem tab_16:tab 16=some ⟨.ptr 160,1,8,[.nilp]⟩:=rfl
theorem tab_17:tab 17=some ⟨.ptr 168,1,8,[.nilp]⟩:=rfl
theorem tab_21:tab 21=some ⟨.int .i32,1,4,[(.p (.int .i32 0))]⟩:=rfl
theorem tab_22:tab 22=some ⟨.slice 82,1,24,[(.p .nil)]⟩:=rfl
theorem tab_23:tab 23=some ⟨.slice 3,1,24,[(.p .nil)]⟩:=rfl
theorem tab_24:tab 24=some ⟨.struct [(0,23),(1,23)],2,48,[(.p .nil),(.p .nil)]⟩:=rfl
theorem tab_25:tab 25=some ⟨.struct [(0,23),(1,23)],2,48,[(.p .nil),(.p .nil)]⟩:=rfl
theorem tab_26:tab 26=some ⟨.func,1,8,[.nilfn]⟩:=rfl
theorem tab_27:tab 27=some ⟨.func,1,8,[.nilfn]⟩:=rfl
theorem tab_29:tab 29=some ⟨.func,1,8,[.nilfn]⟩:=rfl
theorem tab_30:tab 30=some ⟨.slice 80,1,24,[(.p .nil)]⟩:=rfl
theorem tab_31:tab 31=some ⟨.func,1,8,[.nilfn]⟩:=rfl
theorem tab_32:tab 32=some ⟨.struct [(0,23),(1,23)],2,48,[(.p .nil),(.p .nil)]⟩:=rfl
theorem tab_33:tab 33=some ⟨.func,1,8,[.nilfn]⟩:=rfl
theorem tab_34:tab 34=some ⟨.func,1,8,[.nilfn]⟩:=rfl
theorem tab_35:tab 35=some ⟨.func,1,8,[.nilfn]⟩:=rfl
theorem tab_36:tab 36=some ⟨.func,1,8,[.nilfn]⟩:=rfl
theorem tab_37:tab 37=some ⟨.func,1,8,[.nilfn]⟩:=rfl
theorem tab_38:tab 38=some ⟨.func,1,8,[.nilfn]⟩:=rfl
theorem tab_39:tab 39=some ⟨.func,1,8,[.nilfn]⟩:=rfl
theorem tab_40:tab 40=some ⟨.func,1,8,[.nilfn]⟩:=rfl
theorem tab_41:tab 41=some ⟨.slice 5,1,24,[(.p .nil)]⟩:=rfl
theorem tab_42:tab 42=some ⟨.func,1,8,[.nilfn]⟩:=rfl
theorem tab_44:tab 44=some ⟨.func,1,8,[.nilfn]⟩:=rfl
theorem tab_46:tab 46=some ⟨.func,1,8,[.nilfn]⟩:=rfl
theorem tab_48:tab 48=some ⟨.func,1,8,[.nilfn]⟩:=rfl
theorem tab_49:tab 49=some ⟨.func,1,8,[.nilfn]⟩:=rfl
theorem tab_51:tab 51=some ⟨.func,1,8,[.nilfn]⟩:=rfl
theorem tab_52:tab 52=some ⟨.func,1,8,[.nilfn]⟩:=rfl
theorem tab_54:tab 54=some ⟨.func,1,8,[.nilfn]⟩:=rfl
theorem tab_56:tab 56=some ⟨.func,1,8,[.nilfn]⟩:=rfl
theorem tab_57:tab 57=some ⟨.func,1,8,[.nilfn]⟩:=rfl
theorem tab_59:tab 59=some ⟨.func,1,8,[.nilfn]⟩:=rfl
theorem tab_60:tab 60=some ⟨.func,1,8,[.nilfn]⟩:=rfl
theorem tab_61:tab 61=some ⟨.func,1,8,[.nilfn]⟩:=rfl
theorem tab_62:tab 62=some ⟨.func,1,8,[.nilfn]⟩:=rfl
theorem tab_63:tab 63=some ⟨.func,1,8,[.nilfn]⟩:=rfl
theorem tab_65:tab 65=some ⟨.func,1,8,[.nilfn]⟩:=rfl
theorem tab_66:tab 66=some ⟨.func,1,8,[.nilfn]⟩:=rfl
theorem tab_68:tab 68=some ⟨.func,1,8,[.nilfn]⟩:=rfl
theorem tab_70:tab 70=some ⟨.func,1,8,[.nilfn]⟩:=rfl
theorem tab_71:tab 71=some ⟨.slice 76,1,24,[(.p .nil)]⟩:=rfl
theorem tab_72:tab 72=some ⟨.func,1,8,[.nilfn]⟩:=rfl
theorem tab_73:tab 73=some ⟨.func,1,8,[.nilfn]⟩:=rfl
theorem tab_74:tab 74=some ⟨.int .u64,1,8,[(.p (.int .u64 0))]⟩:=rfl
theorem tab_75:tab 75=some ⟨.func,1,8,[.nilfn]⟩:=rfl
theorem tab_76:tab 76=some ⟨.slice 4,1,24,[(.p .nil)]⟩:=rfl
theorem tab_77:tab 77=some ⟨.int .u64,1,8,[(.p (.int .u64 0))]⟩:=rfl
theorem tab_78:tab 78=some ⟨.func,1,8,[.nilfn]⟩:=rfl
theorem tab_79:tab 79=some ⟨.struct [(0,3),(1,3)],2,16,[(.p (.int .i64 0)),(.p (.int .i64 0))]⟩:=rfl
theorem tab_80:tab 80=some ⟨.struct [(0,3),(1,3)],2,16,[(.p (.int .i64 0)),(.p (.int .i64 0))]⟩:=rfl
theorem tab_81:tab 81=some ⟨.func,1,8,[.nilfn]⟩:=rfl
theorem tab_82:tab 82=some ⟨.struct [(0,3),(1,3)],2,16,[(.p (.int .i64 0)),(.p (.int .i64 0))]⟩:=rfl
theorem tab_83:tab 83=some ⟨.func,1,8,[.nilfn]⟩:=rfl
theorem tab_84:tab 84=some ⟨.func,1,8,[.nilfn]⟩:=rfl
theorem tab_85:tab 85=some ⟨.func,1,8,[.nilfn]⟩:=rfl
theorem tab_86:tab 86=some ⟨.ptr 88,1,8,[.nilp]⟩:=rfl
theorem tab_87:tab 87=some ⟨.struct [(0,41),(1,3),(2,74)],3,40,[(.p .nil),(.p (.int .i64 0)),(.p (.int .u64 0))]⟩:=rfl
theorem tab_88:tab 88=some ⟨.struct [(0,41),(1,3),(2,74)],3,40,[(.p .nil),(.p (.int .i64 0)),(.p (.int .u64 0))]⟩:=rfl
theorem tab_89:tab 89=some ⟨.func,1,8,[.nilfn]⟩:=rfl
theorem tab_90:tab 90=some ⟨.func,1,8,[.nilfn]⟩:=rfl
theorem tab_91:tab 91=some ⟨.func,1,8,[.nilfn]⟩:=rfl
theorem tab_92:tab 92=some ⟨.func,1,8,[.nilfn]⟩:=rfl
theorem tab_93:tab 93=some ⟨.func,1,8,[.nilfn]⟩:=rfl
theorem tab_94:tab 94=some ⟨.func,1,8,[.nilfn]⟩:=rfl
theorem tab_95:tab 95=some ⟨.func,1,8,[.nilfn]⟩:=rfl
theorem tab_96:tab 96=some ⟨.func,1,8,[.nilfn]⟩:=rfl
theorem tab_97:tab 97=some ⟨.func,1,8,[.nilfn]⟩:=rfl
theorem tab_98:tab 98=some ⟨.func,1,8,[.nilfn]⟩:=rfl
theorem tab_99:tab 99=some ⟨.func,1,8,[.nilfn]⟩:=rfl
theorem tab_100:tab 100=some ⟨.func,1,8,[.nilfn]⟩:=rfl
theorem tab_101:tab 101=some ⟨.func,1,8,[.nilfn]⟩:=rfl
theorem tab_102:tab 102=some ⟨.func,1,8,[.nilfn]⟩:=rfl
theorem tab_103:tab 103=some ⟨.func,1,8,[.nilfn]⟩:=rfl
theorem tab_104:tab 104=some ⟨.func,1,8,[.nilfn]⟩:=rfl
theorem tab_105:tab 105=some ⟨.func,1,8,[.nilfn]⟩:=rfl
theorem tab_106:tab 106=some ⟨.func,1,8,[.nilfn]⟩:=rfl
theorem tab_107:tab 107=some ⟨.func,1,8,[.nilfn]⟩:=rfl
theorem tab_108:tab 108=some ⟨.func,1,8,[.nilfn]⟩:=rfl
theorem tab_109:tab 109=some ⟨.func,1,8,[.nilfn]⟩:=rfl
theorem tab_110:tab 110=some ⟨.slice 23,1,24,[(.p .nil)]⟩:=rfl
theorem tab_111:tab 111=some ⟨.func,1,8,[.nilfn]⟩:=rfl
theorem tab_112:tab 112=some ⟨.func,1,8,[.nilfn]⟩:=rfl
theorem tab_113:tab 113=some ⟨.func,1,8,[.nilfn]⟩:=rfl
theorem tab_114:tab 114=some ⟨.func,1,8,[.nilfn]⟩:=rfl
theorem tab_115:tab 115=some ⟨.slice 30,1,24,[(.p .nil)]⟩:=rfl
theorem tab_116:tab 116=some ⟨.func,1,8,[.nilfn]⟩:=rfl
theorem tab_117:tab 117=some ⟨.func,1,8,[.nilfn]⟩:=rfl
theorem tab_118:tab 118=some ⟨.func,1,8,[.nilfn]⟩:=rfl
theorem tab_119:tab 119=some ⟨.func,1,8,[.nilfn]⟩:=rfl
theorem tab_120:tab 120=some ⟨.func,1,8,[.nilfn]⟩:=rfl
theorem tab_121:tab 121=some ⟨.func,1,8,[.nilfn]⟩:=rfl
theorem tab_122:tab 122=some ⟨.func,1,8,[.nilfn]⟩:=rfl
theorem tab_123:tab 123=some ⟨.func,1,8,[.nilfn]⟩:=rfl
theorem tab_124:tab 124=some ⟨.func,1,8,[.nilfn]⟩:=rfl
theorem tab_125:tab 125=some ⟨.func,1,8,[.nilfn]⟩:=rfl
theorem tab_126:tab 126=some ⟨.func,1,8,[.nilfn]⟩:=rfl
theorem tab_127:tab 127=some ⟨.int .i64,1,8,[(.p (.int .i64 0))]⟩:=rfl
theorem tab_129:tab 129=some ⟨.func,1,8,[.nilfn]⟩:=rfl
theorem tab_130:tab 130=some ⟨.func,1,8,[.nilfn]⟩:=rfl
theorem tab_131:tab 131=some ⟨.func,1,8,[.nilfn]⟩:=rfl
theorem tab_132:tab 132=some ⟨.func,1,8,[.nilfn]⟩:=rfl
theorem tab_133:tab 133=some ⟨.func,1,8,[.nilfn]⟩:=rfl
theorem tab_134:tab 134=some ⟨.int .u32,1,4,[(.p (.int .u32 0))]⟩:=rfl
theorem tab_135:tab 135=some ⟨.func,1,8,[.nilfn]⟩:=rfl
theorem tab_136:tab 136=some ⟨.func,1,8,[.nilfn]⟩:=rfl
theorem tab_137:tab 137=some ⟨.func,1,8,[.nilfn]⟩:=rfl
theorem tab_138:tab 138=some ⟨.func,1,8,[.nilfn]⟩:=rfl
theorem tab_139:tab 139=some ⟨.func,1,8,[.nilfn]⟩:=rfl
theorem tab_140:tab 140=some ⟨.int .u64,1,8,[(.p (.int .u64 0))]⟩:=rfl
theorem tab_141:tab 141=some ⟨.func,1,8,[.nilfn]⟩:=rfl
theorem tab_142:tab 142=some ⟨.func,1,8,[.nilfn]⟩:=rfl
theorem tab_143:tab 143=some ⟨.func,1,8,[.nilfn]⟩:=rfl
theorem tab_144:tab 144=some ⟨.ptr 3,1,8,[.nilp]⟩:=rfl
theorem tab_145:tab 145=some ⟨.func,1,8,[.nilfn]⟩:=rfl
theorem tab_147:tab 147=some ⟨.func,1,8,[.nilfn]⟩:=rfl
theorem tab_148:tab 148=some ⟨.ptr 140,1,8,[.nilp]⟩:=rfl
theorem tab_150:tab 150=some ⟨.func,1,8,[.nilfn]⟩:=rfl
theorem tab_152:tab 152=some ⟨.func,1,8,[.nilfn]⟩:=rfl
theorem tab_154:tab 154=some ⟨.func,1,8,[.nilfn]⟩:=rfl
theorem tab_155:tab 155=some ⟨.func,1,8,[.nilfn]⟩:=rfl
theorem tab_161:tab 161=some ⟨.int .u8,1,1,[(.p (.int .u8 0))]⟩:=rfl
theorem tab_162:tab 162=some ⟨.int .u8,1,1,[(.p (.int .u8 0))]⟩:=rfl
theorem tab_163:tab 163=some ⟨.func,1,8,[.nilfn]⟩:=rfl
theorem tab_164:tab 164=some ⟨.ptr 5,1,8,[.nilp]⟩:=rfl
theorem tab_165:tab 165=some ⟨.int .i32,1,4,[(.p (.int .i32 0))]⟩:=rfl
theorem tab_166:tab 166=some ⟨.int .i32,1,4,[(.p (.int .i32 0))]⟩:=rfl
set_option maxRecDepth 100000 in
theorem tabs:tab 1=some ⟨.func,1,8,[.nilfn]⟩∧tab 2=some ⟨.int .i64,1,8,[(.p (.int .i64 0))]⟩∧tab 3=some ⟨.int .i64,1,8,[(.p (.int .i64 0))]⟩∧tab 4=some ⟨.bool,1,1,[(.p (.bool false))]⟩∧tab 5=some ⟨.int .u8,1,1,[(.p (.int .u8 0))]⟩∧tab 6=some ⟨.int .u8,1,1,[(.p (.int .u8 0))]⟩∧tab 9=some ⟨.str,1,16,[(.p (.str ⟨#[]⟩))]⟩∧tab 10=some ⟨.str,1,16,[(.p (.str ⟨#[]⟩))]⟩∧tab 11=some ⟨.str,1,16,[(.p (.str ⟨#[]⟩))]⟩∧tab 12=some ⟨.int .u64,1,8,[(.p (.int .u64 0))]⟩∧tab 15=some ⟨.ptr 157,1,8,[.nilp]⟩∧tab 16=some ⟨.ptr 160,1,8,[.nilp]⟩∧tab 17=some ⟨.ptr 168,1,8,[.nilp]⟩∧tab 21=some ⟨.int .i32,1,4,[(.p (.int .i32 0))]⟩∧tab 22=some ⟨.slice 82,1,24,[(.p .nil)]⟩∧tab 23=some ⟨.slice 3,1,24,[(.p .nil)]⟩∧tab 24=some ⟨.struct [(0,23),(1,23)],2,48,[(.p .nil),(.p .nil)]⟩∧tab 25=some ⟨.struct [(0,23),(1,23)],2,48,[(.p .nil),(.p .nil)]⟩∧tab 26=some ⟨.func,1,8,[.nilfn]⟩∧tab 27=some ⟨.func,1,8,[.nilfn]⟩∧tab 29=some ⟨.func,1,8,[.nilfn]⟩∧tab 30=some ⟨.slice 80,1,24,[(.p .nil)]⟩∧tab 31=some ⟨.func,1,8,[.nilfn]⟩∧tab 32=some ⟨.struct [(0,23),(1,23)],2,48,[(.p .nil),(.p .nil)]⟩∧tab 33=some ⟨.func,1,8,[.nilfn]⟩∧tab 34=some ⟨.func,1,8,[.nilfn]⟩∧tab 35=some ⟨.func,1,8,[.nilfn]⟩∧tab 36=some ⟨.func,1,8,[.nilfn]⟩∧tab 37=some ⟨.func,1,8,[.nilfn]⟩∧tab 38=some ⟨.func,1,8,[.nilfn]⟩∧tab 39=some ⟨.func,1,8,[.nilfn]⟩∧tab 40=some ⟨.func,1,8,[.nilfn]⟩∧tab 41=some ⟨.slice 5,1,24,[(.p .nil)]⟩∧tab 42=some ⟨.func,1,8,[.nilfn]⟩∧tab 44=some ⟨.func,1,8,[.nilfn]⟩∧tab 46=some ⟨.func,1,8,[.nilfn]⟩∧tab 48=some ⟨.func,1,8,[.nilfn]⟩∧tab 49=some ⟨.func,1,8,[.nilfn]⟩∧tab 51=some ⟨.func,1,8,[.nilfn]⟩∧tab 52=some ⟨.func,1,8,[.nilfn]⟩∧tab 54=some ⟨.func,1,8,[.nilfn]⟩∧tab 56=some ⟨.func,1,8,[.nilfn]⟩∧tab 57=some ⟨.func,1,8,[.nilfn]⟩∧tab 59=some ⟨.func,1,8,[.nilfn]⟩∧tab 60=some ⟨.func,1,8,[.nilfn]⟩∧tab 61=some ⟨.func,1,8,[.nilfn]⟩∧tab 62=some ⟨.func,1,8,[.nilfn]⟩∧tab 63=some ⟨.func,1,8,[.nilfn]⟩∧tab 65=some ⟨.func,1,8,[.nilfn]⟩∧tab 66=some ⟨.func,1,8,[.nilfn]⟩∧tab 68=some ⟨.func,1,8,[.nilfn]⟩∧tab 70=some ⟨.func,1,8,[.nilfn]⟩∧tab 71=some ⟨.slice 76,1,24,[(.p .nil)]⟩∧tab 72=some ⟨.func,1,8,[.nilfn]⟩∧tab 73=some ⟨.func,1,8,[.nilfn]⟩∧tab 74=some ⟨.int .u64,1,8,[(.p (.int .u64 0))]⟩∧tab 75=some ⟨.func,1,8,[.nilfn]⟩∧tab 76=some ⟨.slice 4,1,24,[(.p .nil)]⟩∧tab 77=some ⟨.int .u64,1,8,[(.p (.int .u64 0))]⟩∧tab 78=some ⟨.func,1,8,[.nilfn]⟩∧tab 79=some ⟨.struct [(0,3),(1,3)],2,16,[(.p (.int .i64 0)),(.p (.int .i64 0))]⟩∧tab 80=some ⟨.struct [(0,3),(1,3)],2,16,[(.p (.int .i64 0)),(.p (.int .i64 0))]⟩∧tab 81=some ⟨.func,1,8,[.nilfn]⟩∧tab 82=some ⟨.struct [(0,3),(1,3)],2,16,[(.p (.int .i64 0)),(.p (.int .i64 0))]⟩∧tab 83=some ⟨.func,1,8,[.nilfn]⟩∧tab 84=some ⟨.func,1,8,[.nilfn]⟩∧tab 85=some ⟨.func,1,8,[.nilfn]⟩∧tab 86=some ⟨.ptr 88,1,8,[.nilp]⟩∧tab 87=some ⟨.struct [(0,41),(1,3),(2,74)],3,40,[(.p .nil),(.p (.int .i64 0)),(.p (.int .u64 0))]⟩∧tab 88=some ⟨.struct [(0,41),(1,3),(2,74)],3,40,[(.p .nil),(.p (.int .i64 0)),(.p (.int .u64 0))]⟩∧tab 89=some ⟨.func,1,8,[.nilfn]⟩∧tab 90=some ⟨.func,1,8,[.nilfn]⟩∧tab 91=some ⟨.func,1,8,[.nilfn]⟩∧tab 92=some ⟨.func,1,8,[.nilfn]⟩∧tab 93=some ⟨.func,1,8,[.nilfn]⟩∧tab 94=some ⟨.func,1,8,[.nilfn]⟩∧tab 95=some ⟨.func,1,8,[.nilfn]⟩∧tab 96=some ⟨.func,1,8,[.nilfn]⟩∧tab 97=some ⟨.func,1,8,[.nilfn]⟩∧tab 98=some ⟨.func,1,8,[.nilfn]⟩∧tab 99=some ⟨.func,1,8,[.nilfn]⟩∧tab 100=some ⟨.func,1,8,[.nilfn]⟩∧tab 101=some ⟨.func,1,8,[.nilfn]⟩∧tab 102=some ⟨.func,1,8,[.nilfn]⟩∧tab 103=some ⟨.func,1,8,[.nilfn]⟩∧tab 104=some ⟨.func,1,8,[.nilfn]⟩∧tab 105=some ⟨.func,1,8,[.nilfn]⟩∧tab 106=some ⟨.func,1,8,[.nilfn]⟩∧tab 107=some ⟨.func,1,8,[.nilfn]⟩∧tab 108=some ⟨.func,1,8,[.nilfn]⟩∧tab 109=some ⟨.func,1,8,[.nilfn]⟩∧tab 110=some ⟨.slice 23,1,24,[(.p .nil)]⟩∧tab 111=some ⟨.func,1,8,[.nilfn]⟩∧tab 112=some ⟨.func,1,8,[.nilfn]⟩∧tab 113=some ⟨.func,1,8,[.nilfn]⟩∧tab 114=some ⟨.func,1,8,[.nilfn]⟩∧tab 115=some ⟨.slice 30,1,24,[(.p .nil)]⟩∧tab 116=some ⟨.func,1,8,[.nilfn]⟩∧tab 117=some ⟨.func,1,8,[.nilfn]⟩∧tab 118=some ⟨.func,1,8,[.nilfn]⟩∧tab 119=some ⟨.func,1,8,[.nilfn]⟩∧tab 120=some ⟨.func,1,8,[.nilfn]⟩∧tab 121=some ⟨.func,1,8,[.nilfn]⟩∧tab 122=some ⟨.func,1,8,[.nilfn]⟩∧tab 123=some ⟨.func,1,8,[.nilfn]⟩∧tab 124=some ⟨.func,1,8,[.nilfn]⟩∧tab 125=some ⟨.func,1,8,[.nilfn]⟩∧tab 126=some ⟨.func,1,8,[.nilfn]⟩∧tab 127=some ⟨.int .i64,1,8,[(.p (.int .i64 0))]⟩∧tab 129=some ⟨.func,1,8,[.nilfn]⟩∧tab 130=some ⟨.func,1,8,[.nilfn]⟩∧tab 131=some ⟨.func,1,8,[.nilfn]⟩∧tab 132=some ⟨.func,1,8,[.nilfn]⟩∧tab 133=some ⟨.func,1,8,[.nilfn]⟩∧tab 134=some ⟨.int .u32,1,4,[(.p (.int .u32 0))]⟩∧tab 135=some ⟨.func,1,8,[.nilfn]⟩∧tab 136=some ⟨.func,1,8,[.nilfn]⟩∧tab 137=some ⟨.func,1,8,[.nilfn]⟩∧tab 138=some ⟨.func,1,8,[.nilfn]⟩∧tab 139=some ⟨.func,1,8,[.nilfn]⟩∧tab 140=some ⟨.int .u64,1,8,[(.p (.int .u64 0))]⟩∧tab 141=some ⟨.func,1,8,[.nilfn]⟩∧tab 142=some ⟨.func,1,8,[.nilfn]⟩∧tab 143=some ⟨.func,1,8,[.nilfn]⟩∧tab 144=some ⟨.ptr 3,1,8,[.nilp]⟩∧tab 145=some ⟨.func,1,8,[.nilfn]⟩∧tab 147=some ⟨.func,1,8,[.nilfn]⟩∧tab 148=some ⟨.ptr 140,1,8,[.nilp]⟩∧tab 150=some ⟨.func,1,8,[.nilfn]⟩∧tab 152=some ⟨.func,1,8,[.nilfn]⟩∧tab 154=some ⟨.func,1,8,[.nilfn]⟩∧tab 155=some ⟨.func,1,8,[.nilfn]⟩∧tab 161=some ⟨.int .u8,1,1,[(.p (.int .u8 0))]⟩∧tab 162=some ⟨.int .u8,1,1,[(.p (.int .u8 0))]⟩∧tab 163=some ⟨.func,1,8,[.nilfn]⟩∧tab 164=some ⟨.ptr 5,1,8,[.nilp]⟩∧tab 165=some ⟨.int .i32,1,4,[(.p (.int .i32 0))]⟩∧tab 166=some ⟨.int .i32,1,4,[(.p (.int .i32 0))]⟩:=⟨tab_1,tab_2,tab_3,tab_4,tab_5,tab_6,tab_9,tab_10,tab_11,tab_12,tab_15,tab_16,tab_17,tab_21,tab_22,tab_23,tab_24,tab_25,tab_26,tab_27,tab_29,tab_30,tab_31,tab_32,tab_33,tab_34,tab_35,tab_36,tab_37,tab_38,tab_39,tab_40,tab_41,tab_42,tab_44,tab_46,tab_48,tab_49,tab_51,tab_52,tab_54,tab_56,tab_57,tab_59,tab_60,tab_61,tab_62,tab_63,tab_65,tab_66,tab_68,tab_70,tab_71,tab_72,tab_73,tab_74,tab_75,tab_76,tab_77,tab_78,tab_79,tab_80,tab_81,tab_82,tab_83,tab_84,tab_85,tab_86,tab_87,tab_88,tab_89,tab_90,tab_91,tab_92,tab_93,tab_94,tab_95,tab_96,tab_97,tab_98,tab_99,tab_100,tab_101,tab_102,tab_103,tab_104,tab_105,tab_106,tab_107,tab_108,tab_109,tab_110,tab_111,tab_112,tab_113,tab_114,tab_115,tab_116,tab_117,tab_118,tab_119,tab_120,tab_121,tab_122,tab_123,tab_124,tab_125,tab_126,tab_127,tab_129,tab_130,tab_131,tab_132,tab_133,tab_134,tab_135,tab_136,tab_137,tab_138,tab_139,tab_140,tab_141,tab_142,tab_143,tab_144,tab_145,tab_147,tab_148,tab_150,tab_152,tab_154,tab_155,tab_161,tab_162,tab_163,tab_164,tab_165,tab_166⟩
theorem info1:(Try.prog.info? 1).map (fun i=>(i.zero,i.size,i.bytes))=some (some .nilFunc,1,8):=by kernel_rfl
theorem td1_ok:TD.Ok Try.prog 1 td1:=TD.Ok.of ⟨_,_,_,Try.underlying1⟩ info1 rfl rfl (by decide) (fun _=>rfl)
theorem info2:(Try.prog.info? 2).map (fun i=>(i.zero,i.size,i.bytes))=some (some (.int .i64 0),1,8):=by kernel_rfl
theorem td2_ok:TD.Ok Try.prog 2 td2:=TD.Ok.of Try.underlying2 info2 rfl rfl (by decide) (fun _=>rfl)
theorem info3:(Try.prog.info? 3).map (fun i=>(i.zero,i.size,i.bytes))=some (some (.int .i64 0),1,8):=by kernel_rfl
theorem td3_ok:TD.Ok Try.prog 3 td3:=TD.Ok.of Try.underlying3 info3 rfl rfl (by decide) (fun _=>rfl)
theorem info4:(Try.prog.info? 4).map (fun i=>(i.zero,i.size,i.bytes))=some (some (.bool false),1,1):=by kernel_rfl
theorem td4_ok:TD.Ok Try.prog 4 td4:=TD.Ok.of Try.underlying4 info4 rfl rfl (by decide) (fun _=>rfl)
theorem info5:(Try.prog.info? 5).map (fun i=>(i.zero,i.size,i.bytes))=some (some (.int .u8 0),1,1):=by kernel_rfl
theorem td5_ok:TD.Ok Try.prog 5 td5:=TD.Ok.of Try.underlying5 info5 rfl rfl (by decide) (fun _=>rfl)
theorem info6:(Try.prog.info? 6).map (fun i=>(i.zero,i.size,i.bytes))=some (some (.int .u8 0),1,1):=by kernel_rfl
theorem td6_ok:TD.Ok Try.prog 6 td6:=TD.Ok.of Try.underlying6 info6 rfl rfl (by decide) (fun _=>rfl)
theorem info9:(Try.prog.info? 9).map (fun i=>(i.zero,i.size,i.bytes))=some (some (.string ⟨#[]⟩),1,16):=by kernel_rfl
theorem td9_ok:TD.Ok Try.prog 9 td9:=TD.Ok.of Try.underlying9 info9 rfl rfl (by decide) (fun _=>rfl)
theorem info10:(Try.prog.info? 10).map (fun i=>(i.zero,i.size,i.bytes))=some (some (.string ⟨#[]⟩),1,16):=by kernel_rfl
theorem td10_ok:TD.Ok Try.prog 10 td10:=TD.Ok.of Try.underlying10 info10 rfl rfl (by decide) (fun _=>rfl)
theorem info11:(Try.prog.info? 11).map (fun i=>(i.zero,i.size,i.bytes))=some (some (.string ⟨#[]⟩),1,16):=by kernel_rfl
theorem td11_ok:TD.Ok Try.prog 11 td11:=TD.Ok.of Try.underlying11 info11 rfl rfl (by decide) (fun _=>rfl)
theorem info12:(Try.prog.info? 12).map (fun i=>(i.zero,i.size,i.bytes))=some (some (.int .u64 0),1,8):=by kernel_rfl
theorem td12_ok:TD.Ok Try.prog 12 td12:=TD.Ok.of Try.underlying12 info12 rfl rfl (by decide) (fun _=>rfl)
theorem info15:(Try.prog.info? 15).map (fun i=>(i.zero,i.size,i.bytes))=some (some (.pointer none),1,8):=by kernel_rfl
theorem td15_ok:TD.Ok Try.prog 15 td15:=TD.Ok.of Try.underlying15 info15 rfl rfl (by decide) (fun _=>rfl)
theorem info16:(Try.prog.info? 16).map (fun i=>(i.zero,i.size,i.bytes))=some (some (.pointer none),1,8):=by kernel_rfl
theorem td16_ok:TD.Ok Try.prog 16 td16:=TD.Ok.of Try.underlying16 info16 rfl rfl (by decide) (fun _=>rfl)
theorem info17:(Try.prog.info? 17).map (fun i=>(i.zero,i.size,i.bytes))=some (some (.pointer none),1,8):=by kernel_rfl
theorem td17_ok:TD.Ok Try.prog 17 td17:=TD.Ok.of Try.underlying17 info17 rfl rfl (by decide) (fun _=>rfl)
theorem info21:(Try.prog.info? 21).map (fun i=>(i.zero,i.size,i.bytes))=some (some (.int .i32 0),1,4):=by kernel_rfl
theorem td21_ok:TD.Ok Try.prog 21 td21:=TD.Ok.of Try.underlying21 info21 rfl rfl (by decide) (fun _=>rfl)
theorem info22:(Try.prog.info? 22).map (fun i=>(i.zero,i.size,i.bytes))=some (some (.slice none 0 0),1,24):=by kernel_rfl
theorem td22_ok:TD.Ok Try.prog 22 td22:=TD.Ok.of Try.underlying22 info22 rfl rfl (by decide) (fun _=>rfl)
theorem info23:(Try.prog.info? 23).map (fun i=>(i.zero,i.size,i.bytes))=some (some (.slice none 0 0),1,24):=by kernel_rfl
theorem td23_ok:TD.Ok Try.prog 23 td23:=TD.Ok.of Try.underlying23 info23 rfl rfl (by decide) (fun _=>rfl)
theorem info24:(Try.prog.info? 24).map (fun i=>(i.zero,i.size,i.bytes))=some (some (.agg #[(.slice none 0 0),(.slice none 0 0)]),2,48):=by kernel_rfl
theorem td24_ok:TD.Ok Try.prog 24 td24:=TD.Ok.of ⟨_,Try.underlying24,rfl,Try.stoodInHeld24,Try.eqGuardType24,by decide⟩ info24 rfl rfl (by decide) (fun h=>by cases h)
theorem info25:(Try.prog.info? 25).map (fun i=>(i.zero,i.size,i.bytes))=some (some (.agg #[(.slice none 0 0),(.slice none 0 0)]),2,48):=by kernel_rfl
theorem td25_ok:TD.Ok Try.prog 25 td25:=TD.Ok.of ⟨_,Try.underlying25,rfl,Try.stoodInHeld25,Try.eqGuardType25,by decide⟩ info25 rfl rfl (by decide) (fun h=>by cases h)
theorem info26:(Try.prog.info? 26).map (fun i=>(i.zero,i.size,i.bytes))=some (some .nilFunc,1,8):=by kernel_rfl
theorem td26_ok:TD.Ok Try.prog 26 td26:=TD.Ok.of ⟨_,_,_,Try.underlying26⟩ info26 rfl rfl (by decide) (fun _=>rfl)
theorem info27:(Try.prog.info? 27).map (fun i=>(i.zero,i.size,i.bytes))=some (some .nilFunc,1,8):=by kernel_rfl
theorem td27_ok:TD.Ok Try.prog 27 td27:=TD.Ok.of ⟨_,_,_,Try.underlying27⟩ info27 rfl rfl (by decide) (fun _=>rfl)
theorem info29:(Try.prog.info? 29).map (fun i=>(i.zero,i.size,i.bytes))=some (some .nilFunc,1,8):=by kernel_rfl
theorem td29_ok:TD.Ok Try.prog 29 td29:=TD.Ok.of ⟨_,_,_,Try.underlying29⟩ info29 rfl rfl (by decide) (fun _=>rfl)
theorem info30:(Try.prog.info? 30).map (fun i=>(i.zero,i.size,i.bytes))=some (some (.slice none 0 0),1,24):=by kernel_rfl
theorem td30_ok:TD.Ok Try.prog 30 td30:=TD.Ok.of Try.underlying30 info30 rfl rfl (by decide) (fun _=>rfl)
theorem info31:(Try.prog.info? 31).map (fun i=>(i.zero,i.size,i.bytes))=some (some .nilFunc,1,8):=by kernel_rfl
theorem td31_ok:TD.Ok Try.prog 31 td31:=TD.Ok.of ⟨_,_,_,Try.underlying31⟩ info31 rfl rfl (by decide) (fun _=>rfl)
theorem info32:(Try.prog.info? 32).map (fun i=>(i.zero,i.size,i.bytes))=some (some (.agg #[(.slice none 0 0),(.slice none 0 0)]),2,48):=by kernel_rfl
theorem td32_ok:TD.Ok Try.prog 32 td32:=TD.Ok.of ⟨_,Try.underlying32,rfl,Try.stoodInHeld32,Try.eqGuardType32,by decide⟩ info32 rfl rfl (by decide) (fun h=>by cases h)
theorem info33:(Try.prog.info? 33).map (fun i=>(i.zero,i.size,i.bytes))=some (some .nilFunc,1,8):=by kernel_rfl
theorem td33_ok:TD.Ok Try.prog 33 td33:=TD.Ok.of ⟨_,_,_,Try.underlying33⟩ info33 rfl rfl (by decide) (fun _=>rfl)
theorem info34:(Try.prog.info? 34).map (fun i=>(i.zero,i.size,i.bytes))=some (some .nilFunc,1,8):=by kernel_rfl
theorem td34_ok:TD.Ok Try.prog 34 td34:=TD.Ok.of ⟨_,_,_,Try.underlying34⟩ info34 rfl rfl (by decide) (fun _=>rfl)
theorem info35:(Try.prog.info? 35).map (fun i=>(i.zero,i.size,i.bytes))=some (some .nilFunc,1,8):=by kernel_rfl
theorem td35_ok:TD.Ok Try.prog 35 td35:=TD.Ok.of ⟨_,_,_,Try.underlying35⟩ info35 rfl rfl (by decide) (fun _=>rfl)
theorem info36:(Try.prog.info? 36).map (fun i=>(i.zero,i.size,i.bytes))=some (some .nilFunc,1,8):=by kernel_rfl
theorem td36_ok:TD.Ok Try.prog 36 td36:=TD.Ok.of ⟨_,_,_,Try.underlying36⟩ info36 rfl rfl (by decide) (fun _=>rfl)
theorem info37:(Try.prog.info? 37).map (fun i=>(i.zero,i.size,i.bytes))=some (some .nilFunc,1,8):=by kernel_rfl
theorem td37_ok:TD.Ok Try.prog 37 td37:=TD.Ok.of ⟨_,_,_,Try.underlying37⟩ info37 rfl rfl (by decide) (fun _=>rfl)
theorem info38:(Try.prog.info? 38).map (fun i=>(i.zero,i.size,i.bytes))=some (some .nilFunc,1,8):=by kernel_rfl
theorem td38_ok:TD.Ok Try.prog 38 td38:=TD.Ok.of ⟨_,_,_,Try.underlying38⟩ info38 rfl rfl (by decide) (fun _=>rfl)
theorem info39:(Try.prog.info? 39).map (fun i=>(i.zero,i.size,i.bytes))=some (some .nilFunc,1,8):=by kernel_rfl
theorem td39_ok:TD.Ok Try.prog 39 td39:=TD.Ok.of ⟨_,_,_,Try.underlying39⟩ info39 rfl rfl (by decide) (fun _=>rfl)
theorem info40:(Try.prog.info? 40).map (fun i=>(i.zero,i.size,i.bytes))=some (some .nilFunc,1,8):=by kernel_rfl
theorem td40_ok:TD.Ok Try.prog 40 td40:=TD.Ok.of ⟨_,_,_,Try.underlying40⟩ info40 rfl rfl (by decide) (fun _=>rfl)
theorem info41:(Try.prog.info? 41).map (fun i=>(i.zero,i.size,i.bytes))=some (some (.slice none 0 0),1,24):=by kernel_rfl
theorem td41_ok:TD.Ok Try.prog 41 td41:=TD.Ok.of Try.underlying41 info41 rfl rfl (by decide) (fun _=>rfl)
theorem info42:(Try.prog.info? 42).map (fun i=>(i.zero,i.size,i.bytes))=some (some .nilFunc,1,8):=by kernel_rfl
theorem td42_ok:TD.Ok Try.prog 42 td42:=TD.Ok.of ⟨_,_,_,Try.underlying42⟩ info42 rfl rfl (by decide) (fun _=>rfl)
theorem info44:(Try.prog.info? 44).map (fun i=>(i.zero,i.size,i.bytes))=some (some .nilFunc,1,8):=by kernel_rfl
theorem td44_ok:TD.Ok Try.prog 44 td44:=TD.Ok.of ⟨_,_,_,Try.underlying44⟩ info44 rfl rfl (by decide) (fun _=>rfl)
theorem info46:(Try.prog.info? 46).map (fun i=>(i.zero,i.size,i.bytes))=some (some .nilFunc,1,8):=by kernel_rfl
theorem td46_ok:TD.Ok Try.prog 46 td46:=TD.Ok.of ⟨_,_,_,Try.underlying46⟩ info46 rfl rfl (by decide) (fun _=>rfl)
theorem info48:(Try.prog.info? 48).map (fun i=>(i.zero,i.size,i.bytes))=some (some .nilFunc,1,8):=by kernel_rfl
theorem td48_ok:TD.Ok Try.prog 48 td48:=TD.Ok.of ⟨_,_,_,Try.underlying48⟩ info48 rfl rfl (by decide) (fun _=>rfl)
theorem info49:(Try.prog.info? 49).map (fun i=>(i.zero,i.size,i.bytes))=some (some .nilFunc,1,8):=by kernel_rfl
theorem td49_ok:TD.Ok Try.prog 49 td49:=TD.Ok.of ⟨_,_,_,Try.underlying49⟩ info49 rfl rfl (by decide) (fun _=>rfl)
theorem info51:(Try.prog.info? 51).map (fun i=>(i.zero,i.size,i.bytes))=some (some .nilFunc,1,8):=by kernel_rfl
theorem td51_ok:TD.Ok Try.prog 51 td51:=TD.Ok.of ⟨_,_,_,Try.underlying51⟩ info51 rfl rfl (by decide) (fun _=>rfl)
theorem info52:(Try.prog.info? 52).map (fun i=>(i.zero,i.size,i.bytes))=some (some .nilFunc,1,8):=by kernel_rfl
theorem td52_ok:TD.Ok Try.prog 52 td52:=TD.Ok.of ⟨_,_,_,Try.underlying52⟩ info52 rfl rfl (by decide) (fun _=>rfl)
theorem info54:(Try.prog.info? 54).map (fun i=>(i.zero,i.size,i.bytes))=some (some .nilFunc,1,8):=by kernel_rfl
theorem td54_ok:TD.Ok Try.prog 54 td54:=TD.Ok.of ⟨_,_,_,Try.underlying54⟩ info54 rfl rfl (by decide) (fun _=>rfl)
theorem info56:(Try.prog.info? 56).map (fun i=>(i.zero,i.size,i.bytes))=some (some .nilFunc,1,8):=by kernel_rfl
theorem td56_ok:TD.Ok Try.prog 56 td56:=TD.Ok.of ⟨_,_,_,Try.underlying56⟩ info56 rfl rfl (by decide) (fun _=>rfl)
theorem info57:(Try.prog.info? 57).map (fun i=>(i.zero,i.size,i.bytes))=some (some .nilFunc,1,8):=by kernel_rfl
theorem td57_ok:TD.Ok Try.prog 57 td57:=TD.Ok.of ⟨_,_,_,Try.underlying57⟩ info57 rfl rfl (by decide) (fun _=>rfl)
theorem info59:(Try.prog.info? 59).map (fun i=>(i.zero,i.size,i.bytes))=some (some .nilFunc,1,8):=by kernel_rfl
theorem td59_ok:TD.Ok Try.prog 59 td59:=TD.Ok.of ⟨_,_,_,Try.underlying59⟩ info59 rfl rfl (by decide) (fun _=>rfl)
theorem info60:(Try.prog.info? 60).map (fun i=>(i.zero,i.size,i.bytes))=some (some .nilFunc,1,8):=by kernel_rfl
theorem td60_ok:TD.Ok Try.prog 60 td60:=TD.Ok.of ⟨_,_,_,Try.underlying60⟩ info60 rfl rfl (by decide) (fun _=>rfl)
theorem info61:(Try.prog.info? 61).map (fun i=>(i.zero,i.size,i.bytes))=some (some .nilFunc,1,8):=by kernel_rfl
theorem td61_ok:TD.Ok Try.prog 61 td61:=TD.Ok.of ⟨_,_,_,Try.underlying61⟩ info61 rfl rfl (by decide) (fun _=>rfl)
theorem info62:(Try.prog.info? 62).map (fun i=>(i.zero,i.size,i.bytes))=some (some .nilFunc,1,8):=by kernel_rfl
theorem td62_ok:TD.Ok Try.prog 62 td62:=TD.Ok.of ⟨_,_,_,Try.underlying62⟩ info62 rfl rfl (by decide) (fun _=>rfl)
theorem info63:(Try.prog.info? 63).map (fun i=>(i.zero,i.size,i.bytes))=some (some .nilFunc,1,8):=by kernel_rfl
theorem td63_ok:TD.Ok Try.prog 63 td63:=TD.Ok.of ⟨_,_,_,Try.underlying63⟩ info63 rfl rfl (by decide) (fun _=>rfl)
theorem info65:(Try.prog.info? 65).map (fun i=>(i.zero,i.size,i.bytes))=some (some .nilFunc,1,8):=by kernel_rfl
theorem td65_ok:TD.Ok Try.prog 65 td65:=TD.Ok.of ⟨_,_,_,Try.underlying65⟩ info65 rfl rfl (by decide) (fun _=>rfl)
theorem info66:(Try.prog.info? 66).map (fun i=>(i.zero,i.size,i.bytes))=some (some .nilFunc,1,8):=by kernel_rfl
theorem td66_ok:TD.Ok Try.prog 66 td66:=TD.Ok.of ⟨_,_,_,Try.underlying66⟩ info66 rfl rfl (by decide) (fun _=>rfl)
theorem info68:(Try.prog.info? 68).map (fun i=>(i.zero,i.size,i.bytes))=some (some .nilFunc,1,8):=by kernel_rfl
theorem td68_ok:TD.Ok Try.prog 68 td68:=TD.Ok.of ⟨_,_,_,Try.underlying68⟩ info68 rfl rfl (by decide) (fun _=>rfl)
theorem info70:(Try.prog.info? 70).map (fun i=>(i.zero,i.size,i.bytes))=some (some .nilFunc,1,8):=by kernel_rfl
theorem td70_ok:TD.Ok Try.prog 70 td70:=TD.Ok.of ⟨_,_,_,Try.underlying70⟩ info70 rfl rfl (by decide) (fun _=>rfl)
theorem info71:(Try.prog.info? 71).map (fun i=>(i.zero,i.size,i.bytes))=some (some (.slice none 0 0),1,24):=by kernel_rfl
theorem td71_ok:TD.Ok Try.prog 71 td71:=TD.Ok.of Try.underlying71 info71 rfl rfl (by decide) (fun _=>rfl)
theorem info72:(Try.prog.info? 72).map (fun i=>(i.zero,i.size,i.bytes))=some (some .nilFunc,1,8):=by kernel_rfl
theorem td72_ok:TD.Ok Try.prog 72 td72:=TD.Ok.of ⟨_,_,_,Try.underlying72⟩ info72 rfl rfl (by decide) (fun _=>rfl)
theorem info73:(Try.prog.info? 73).map (fun i=>(i.zero,i.size,i.bytes))=some (some .nilFunc,1,8):=by kernel_rfl
theorem td73_ok:TD.Ok Try.prog 73 td73:=TD.Ok.of ⟨_,_,_,Try.underlying73⟩ info73 rfl rfl (by decide) (fun _=>rfl)
theorem info74:(Try.prog.info? 74).map (fun i=>(i.zero,i.size,i.bytes))=some (some (.int .u64 0),1,8):=by kernel_rfl
theorem td74_ok:TD.Ok Try.prog 74 td74:=TD.Ok.of Try.underlying74 info74 rfl rfl (by decide) (fun _=>rfl)
theorem info75:(Try.prog.info? 75).map (fun i=>(i.zero,i.size,i.bytes))=some (some .nilFunc,1,8):=by kernel_rfl
theorem td75_ok:TD.Ok Try.prog 75 td75:=TD.Ok.of ⟨_,_,_,Try.underlying75⟩ info75 rfl rfl (by decide) (fun _=>rfl)
theorem info76:(Try.prog.info? 76).map (fun i=>(i.zero,i.size,i.bytes))=some (some (.slice none 0 0),1,24):=by kernel_rfl
theorem td76_ok:TD.Ok Try.prog 76 td76:=TD.Ok.of Try.underlying76 info76 rfl rfl (by decide) (fun _=>rfl)
theorem info77:(Try.prog.info? 77).map (fun i=>(i.zero,i.size,i.bytes))=some (some (.int .u64 0),1,8):=by kernel_rfl
theorem td77_ok:TD.Ok Try.prog 77 td77:=TD.Ok.of Try.underlying77 info77 rfl rfl (by decide) (fun _=>rfl)
theorem info78:(Try.prog.info? 78).map (fun i=>(i.zero,i.size,i.bytes))=some (some .nilFunc,1,8):=by kernel_rfl
theorem td78_ok:TD.Ok Try.prog 78 td78:=TD.Ok.of ⟨_,_,_,Try.underlying78⟩ info78 rfl rfl (by decide) (fun _=>rfl)
theorem info79:(Try.prog.info? 79).map (fun i=>(i.zero,i.size,i.bytes))=some (some (.agg #[(.int .i64 0),(.int .i64 0)]),2,16):=by kernel_rfl
theorem td79_ok:TD.Ok Try.prog 79 td79:=TD.Ok.of ⟨_,Try.underlying79,rfl,Try.stoodInHeld79,Try.eqGuardType79,by decide⟩ info79 rfl rfl (by decide) (fun h=>by cases h)
theorem info80:(Try.prog.info? 80).map (fun i=>(i.zero,i.size,i.bytes))=some (some (.agg #[(.int .i64 0),(.int .i64 0)]),2,16):=by kernel_rfl
theorem td80_ok:TD.Ok Try.prog 80 td80:=TD.Ok.of ⟨_,Try.underlying80,rfl,Try.stoodInHeld80,Try.eqGuardType80,by decide⟩ info80 rfl rfl (by decide) (fun h=>by cases h)
theorem info81:(Try.prog.info? 81).map (fun i=>(i.zero,i.size,i.bytes))=some (some .nilFunc,1,8):=by kernel_rfl
theorem td81_ok:TD.Ok Try.prog 81 td81:=TD.Ok.of ⟨_,_,_,Try.underlying81⟩ info81 rfl rfl (by decide) (fun _=>rfl)
theorem info82:(Try.prog.info? 82).map (fun i=>(i.zero,i.size,i.bytes))=some (some (.agg #[(.int .i64 0),(.int .i64 0)]),2,16):=by kernel_rfl
theorem td82_ok:TD.Ok Try.prog 82 td82:=TD.Ok.of ⟨_,Try.underlying82,rfl,Try.stoodInHeld82,Try.eqGuardType82,by decide⟩ info82 rfl rfl (by decide) (fun h=>by cases h)
theorem info83:(Try.prog.info? 83).map (fun i=>(i.zero,i.size,i.bytes))=some (some .nilFunc,1,8):=by kernel_rfl
theorem td83_ok:TD.Ok Try.prog 83 td83:=TD.Ok.of ⟨_,_,_,Try.underlying83⟩ info83 rfl rfl (by decide) (fun _=>rfl)
theorem info84:(Try.prog.info? 84).map (fun i=>(i.zero,i.size,i.bytes))=some (some .nilFunc,1,8):=by kernel_rfl
theorem td84_ok:TD.Ok Try.prog 84 td84:=TD.Ok.of ⟨_,_,_,Try.underlying84⟩ info84 rfl rfl (by decide) (fun _=>rfl)
theorem info85:(Try.prog.info? 85).map (fun i=>(i.zero,i.size,i.bytes))=some (some .nilFunc,1,8):=by kernel_rfl
theorem td85_ok:TD.Ok Try.prog 85 td85:=TD.Ok.of ⟨_,_,_,Try.underlying85⟩ info85 rfl rfl (by decide) (fun _=>rfl)
theorem info86:(Try.prog.info? 86).map (fun i=>(i.zero,i.size,i.bytes))=some (some (.pointer none),1,8):=by kernel_rfl
theorem td86_ok:TD.Ok Try.prog 86 td86:=TD.Ok.of Try.underlying86 info86 rfl rfl (by decide) (fun _=>rfl)
theorem info87:(Try.prog.info? 87).map (fun i=>(i.zero,i.size,i.bytes))=some (some (.agg #[(.slice none 0 0),(.int .i64 0),(.int .u64 0)]),3,40):=by kernel_rfl
theorem td87_ok:TD.Ok Try.prog 87 td87:=TD.Ok.of ⟨_,Try.underlying87,rfl,Try.stoodInHeld87,Try.eqGuardType87,by decide⟩ info87 rfl rfl (by decide) (fun h=>by cases h)
theorem info88:(Try.prog.info? 88).map (fun i=>(i.zero,i.size,i.bytes))=some (some (.agg #[(.slice none 0 0),(.int .i64 0),(.int .u64 0)]),3,40):=by kernel_rfl
theorem td88_ok:TD.Ok Try.prog 88 td88:=TD.Ok.of ⟨_,Try.underlying88,rfl,Try.stoodInHeld88,Try.eqGuardType88,by decide⟩ info88 rfl rfl (by decide) (fun h=>by cases h)
theorem info89:(Try.prog.info? 89).map (fun i=>(i.zero,i.size,i.bytes))=some (some .nilFunc,1,8):=by kernel_rfl
theorem td89_ok:TD.Ok Try.prog 89 td89:=TD.Ok.of ⟨_,_,_,Try.underlying89⟩ info89 rfl rfl (by decide) (fun _=>rfl)
theorem info90:(Try.prog.info? 90).map (fun i=>(i.zero,i.size,i.bytes))=some (some .nilFunc,1,8):=by kernel_rfl
theorem td90_ok:TD.Ok Try.prog 90 td90:=TD.Ok.of ⟨_,_,_,Try.underlying90⟩ info90 rfl rfl (by decide) (fun _=>rfl)
theorem info91:(Try.prog.info? 91).map (fun i=>(i.zero,i.size,i.bytes))=some (some .nilFunc,1,8):=by kernel_rfl
theorem td91_ok:TD.Ok Try.prog 91 td91:=TD.Ok.of ⟨_,_,_,Try.underlying91⟩ info91 rfl rfl (by decide) (fun _=>rfl)
theorem info92:(Try.prog.info? 92).map (fun i=>(i.zero,i.size,i.bytes))=some (some .nilFunc,1,8):=by kernel_rfl
theorem td92_ok:TD.Ok Try.prog 92 td92:=TD.Ok.of ⟨_,_,_,Try.underlying92⟩ info92 rfl rfl (by decide) (fun _=>rfl)
theorem info93:(Try.prog.info? 93).map (fun i=>(i.zero,i.size,i.bytes))=some (some .nilFunc,1,8):=by kernel_rfl
theorem td93_ok:TD.Ok Try.prog 93 td93:=TD.Ok.of ⟨_,_,_,Try.underlying93⟩ info93 rfl rfl (by decide) (fun _=>rfl)
theorem info94:(Try.prog.info? 94).map (fun i=>(i.zero,i.size,i.bytes))=some (some .nilFunc,1,8):=by kernel_rfl
theorem td94_ok:TD.Ok Try.prog 94 td94:=TD.Ok.of ⟨_,_,_,Try.underlying94⟩ info94 rfl rfl (by decide) (fun _=>rfl)
theorem info95:(Try.prog.info? 95).map (fun i=>(i.zero,i.size,i.bytes))=some (some .nilFunc,1,8):=by kernel_rfl
theorem td95_ok:TD.Ok Try.prog 95 td95:=TD.Ok.of ⟨_,_,_,Try.underlying95⟩ info95 rfl rfl (by decide) (fun _=>rfl)
theorem info96:(Try.prog.info? 96).map (fun i=>(i.zero,i.size,i.bytes))=some (some .nilFunc,1,8):=by kernel_rfl
theorem td96_ok:TD.Ok Try.prog 96 td96:=TD.Ok.of ⟨_,_,_,Try.underlying96⟩ info96 rfl rfl (by decide) (fun _=>rfl)
theorem info97:(Try.prog.info? 97).map (fun i=>(i.zero,i.size,i.bytes))=some (some .nilFunc,1,8):=by kernel_rfl
theorem td97_ok:TD.Ok Try.prog 97 td97:=TD.Ok.of ⟨_,_,_,Try.underlying97⟩ info97 rfl rfl (by decide) (fun _=>rfl)
theorem info98:(Try.prog.info? 98).map (fun i=>(i.zero,i.size,i.bytes))=some (some .nilFunc,1,8):=by kernel_rfl
theorem td98_ok:TD.Ok Try.prog 98 td98:=TD.Ok.of ⟨_,_,_,Try.underlying98⟩ info98 rfl rfl (by decide) (fun _=>rfl)
theorem info99:(Try.prog.info? 99).map (fun i=>(i.zero,i.size,i.bytes))=some (some .nilFunc,1,8):=by kernel_rfl
theorem td99_ok:TD.Ok Try.prog 99 td99:=TD.Ok.of ⟨_,_,_,Try.underlying99⟩ info99 rfl rfl (by decide) (fun _=>rfl)
theorem info100:(Try.prog.info? 100).map (fun i=>(i.zero,i.size,i.bytes))=some (some .nilFunc,1,8):=by kernel_rfl
theorem td100_ok:TD.Ok Try.prog 100 td100:=TD.Ok.of ⟨_,_,_,Try.underlying100⟩ info100 rfl rfl (by decide) (fun _=>rfl)
theorem info101:(Try.prog.info? 101).map (fun i=>(i.zero,i.size,i.bytes))=some (some .nilFunc,1,8):=by kernel_rfl
theorem td101_ok:TD.Ok Try.prog 101 td101:=TD.Ok.of ⟨_,_,_,Try.underlying101⟩ info101 rfl rfl (by decide) (fun _=>rfl)
theorem info102:(Try.prog.info? 102).map (fun i=>(i.zero,i.size,i.bytes))=some (some .nilFunc,1,8):=by kernel_rfl
theorem td102_ok:TD.Ok Try.prog 102 td102:=TD.Ok.of ⟨_,_,_,Try.underlying102⟩ info102 rfl rfl (by decide) (fun _=>rfl)
theorem info103:(Try.prog.info? 103).map (fun i=>(i.zero,i.size,i.bytes))=some (some .nilFunc,1,8):=by kernel_rfl
theorem td103_ok:TD.Ok Try.prog 103 td103:=TD.Ok.of ⟨_,_,_,Try.underlying103⟩ info103 rfl rfl (by decide) (fun _=>rfl)
theorem info104:(Try.prog.info? 104).map (fun i=>(i.zero,i.size,i.bytes))=some (some .nilFunc,1,8):=by kernel_rfl
theorem td104_ok:TD.Ok Try.prog 104 td104:=TD.Ok.of ⟨_,_,_,Try.underlying104⟩ info104 rfl rfl (by decide) (fun _=>rfl)
theorem info105:(Try.prog.info? 105).map (fun i=>(i.zero,i.size,i.bytes))=some (some .nilFunc,1,8):=by kernel_rfl
theorem td105_ok:TD.Ok Try.prog 105 td105:=TD.Ok.of ⟨_,_,_,Try.underlying105⟩ info105 rfl rfl (by decide) (fun _=>rfl)
theorem info106:(Try.prog.info? 106).map (fun i=>(i.zero,i.size,i.bytes))=some (some .nilFunc,1,8):=by kernel_rfl
theorem td106_ok:TD.Ok Try.prog 106 td106:=TD.Ok.of ⟨_,_,_,Try.underlying106⟩ info106 rfl rfl (by decide) (fun _=>rfl)
theorem info107:(Try.prog.info? 107).map (fun i=>(i.zero,i.size,i.bytes))=some (some .nilFunc,1,8):=by kernel_rfl
theorem td107_ok:TD.Ok Try.prog 107 td107:=TD.Ok.of ⟨_,_,_,Try.underlying107⟩ info107 rfl rfl (by decide) (fun _=>rfl)
theorem info108:(Try.prog.info? 108).map (fun i=>(i.zero,i.size,i.bytes))=some (some .nilFunc,1,8):=by kernel_rfl
theorem td108_ok:TD.Ok Try.prog 108 td108:=TD.Ok.of ⟨_,_,_,Try.underlying108⟩ info108 rfl rfl (by decide) (fun _=>rfl)
theorem info109:(Try.prog.info? 109).map (fun i=>(i.zero,i.size,i.bytes))=some (some .nilFunc,1,8):=by kernel_rfl
theorem td109_ok:TD.Ok Try.prog 109 td109:=TD.Ok.of ⟨_,_,_,Try.underlying109⟩ info109 rfl rfl (by decide) (fun _=>rfl)
theorem info110:(Try.prog.info? 110).map (fun i=>(i.zero,i.size,i.bytes))=some (some (.slice none 0 0),1,24):=by kernel_rfl
theorem td110_ok:TD.Ok Try.prog 110 td110:=TD.Ok.of Try.underlying110 info110 rfl rfl (by decide) (fun _=>rfl)
theorem info111:(Try.prog.info? 111).map (fun i=>(i.zero,i.size,i.bytes))=some (some .nilFunc,1,8):=by kernel_rfl
theorem td111_ok:TD.Ok Try.prog 111 td111:=TD.Ok.of ⟨_,_,_,Try.underlying111⟩ info111 rfl rfl (by decide) (fun _=>rfl)
theorem info112:(Try.prog.info? 112).map (fun i=>(i.zero,i.size,i.bytes))=some (some .nilFunc,1,8):=by kernel_rfl
theorem td112_ok:TD.Ok Try.prog 112 td112:=TD.Ok.of ⟨_,_,_,Try.underlying112⟩ info112 rfl rfl (by decide) (fun _=>rfl)
theorem info113:(Try.prog.info? 113).map (fun i=>(i.zero,i.size,i.bytes))=some (some .nilFunc,1,8):=by kernel_rfl
theorem td113_ok:TD.Ok Try.prog 113 td113:=TD.Ok.of ⟨_,_,_,Try.underlying113⟩ info113 rfl rfl (by decide) (fun _=>rfl)
theorem info114:(Try.prog.info? 114).map (fun i=>(i.zero,i.size,i.bytes))=some (some .nilFunc,1,8):=by kernel_rfl
theorem td114_ok:TD.Ok Try.prog 114 td114:=TD.Ok.of ⟨_,_,_,Try.underlying114⟩ info114 rfl rfl (by decide) (fun _=>rfl)
theorem info115:(Try.prog.info? 115).map (fun i=>(i.zero,i.size,i.bytes))=some (some (.slice none 0 0),1,24):=by kernel_rfl
theorem td115_ok:TD.Ok Try.prog 115 td115:=TD.Ok.of Try.underlying115 info115 rfl rfl (by decide) (fun _=>rfl)
theorem info116:(Try.prog.info? 116).map (fun i=>(i.zero,i.size,i.bytes))=some (some .nilFunc,1,8):=by kernel_rfl
theorem td116_ok:TD.Ok Try.prog 116 td116:=TD.Ok.of ⟨_,_,_,Try.underlying116⟩ info116 rfl rfl (by decide) (fun _=>rfl)
theorem info117:(Try.prog.info? 117).map (fun i=>(i.zero,i.size,i.bytes))=some (some .nilFunc,1,8):=by kernel_rfl
theorem td117_ok:TD.Ok Try.prog 117 td117:=TD.Ok.of ⟨_,_,_,Try.underlying117⟩ info117 rfl rfl (by decide) (fun _=>rfl)
theorem info118:(Try.prog.info? 118).map (fun i=>(i.zero,i.size,i.bytes))=some (some .nilFunc,1,8):=by kernel_rfl
theorem td118_ok:TD.Ok Try.prog 118 td118:=TD.Ok.of ⟨_,_,_,Try.underlying118⟩ info118 rfl rfl (by decide) (fun _=>rfl)
theorem info119:(Try.prog.info? 119).map (fun i=>(i.zero,i.size,i.bytes))=some (some .nilFunc,1,8):=by kernel_rfl
theorem td119_ok:TD.Ok Try.prog 119 td119:=TD.Ok.of ⟨_,_,_,Try.underlying119⟩ info119 rfl rfl (by decide) (fun _=>rfl)
theorem info120:(Try.prog.info? 120).map (fun i=>(i.zero,i.size,i.bytes))=some (some .nilFunc,1,8):=by kernel_rfl
theorem td120_ok:TD.Ok Try.prog 120 td120:=TD.Ok.of ⟨_,_,_,Try.underlying120⟩ info120 rfl rfl (by decide) (fun _=>rfl)
theorem info121:(Try.prog.info? 121).map (fun i=>(i.zero,i.size,i.bytes))=some (some .nilFunc,1,8):=by kernel_rfl
theorem td121_ok:TD.Ok Try.prog 121 td121:=TD.Ok.of ⟨_,_,_,Try.underlying121⟩ info121 rfl rfl (by decide) (fun _=>rfl)
theorem info122:(Try.prog.info? 122).map (fun i=>(i.zero,i.size,i.bytes))=some (some .nilFunc,1,8):=by kernel_rfl
theorem td122_ok:TD.Ok Try.prog 122 td122:=TD.Ok.of ⟨_,_,_,Try.underlying122⟩ info122 rfl rfl (by decide) (fun _=>rfl)
theorem info123:(Try.prog.info? 123).map (fun i=>(i.zero,i.size,i.bytes))=some (some .nilFunc,1,8):=by kernel_rfl
theorem td123_ok:TD.Ok Try.prog 123 td123:=TD.Ok.of ⟨_,_,_,Try.underlying123⟩ info123 rfl rfl (by decide) (fun _=>rfl)
theorem info124:(Try.prog.info? 124).map (fun i=>(i.zero,i.size,i.bytes))=some (some .nilFunc,1,8):=by kernel_rfl
theorem td124_ok:TD.Ok Try.prog 124 td124:=TD.Ok.of ⟨_,_,_,Try.underlying124⟩ info124 rfl rfl (by decide) (fun _=>rfl)
theorem info125:(Try.prog.info? 125).map (fun i=>(i.zero,i.size,i.bytes))=some (some .nilFunc,1,8):=by kernel_rfl
theorem td125_ok:TD.Ok Try.prog 125 td125:=TD.Ok.of ⟨_,_,_,Try.underlying125⟩ info125 rfl rfl (by decide) (fun _=>rfl)
theorem info126:(Try.prog.info? 126).map (fun i=>(i.zero,i.size,i.bytes))=some (some .nilFunc,1,8):=by kernel_rfl
theorem td126_ok:TD.Ok Try.prog 126 td126:=TD.Ok.of ⟨_,_,_,Try.underlying126⟩ info126 rfl rfl (by decide) (fun _=>rfl)
theorem info127:(Try.prog.info? 127).map (fun i=>(i.zero,i.size,i.bytes))=some (some (.int .i64 0),1,8):=by kernel_rfl
theorem td127_ok:TD.Ok Try.prog 127 td127:=TD.Ok.of Try.underlying127 info127 rfl rfl (by decide) (fun _=>rfl)
theorem info129:(Try.prog.info? 129).map (fun i=>(i.zero,i.size,i.bytes))=some (some .nilFunc,1,8):=by kernel_rfl
theorem td129_ok:TD.Ok Try.prog 129 td129:=TD.Ok.of ⟨_,_,_,Try.underlying129⟩ info129 rfl rfl (by decide) (fun _=>rfl)
theorem info130:(Try.prog.info? 130).map (fun i=>(i.zero,i.size,i.bytes))=some (some .nilFunc,1,8):=by kernel_rfl
theorem td130_ok:TD.Ok Try.prog 130 td130:=TD.Ok.of ⟨_,_,_,Try.underlying130⟩ info130 rfl rfl (by decide) (fun _=>rfl)
theorem info131:(Try.prog.info? 131).map (fun i=>(i.zero,i.size,i.bytes))=some (some .nilFunc,1,8):=by kernel_rfl
theorem td131_ok:TD.Ok Try.prog 131 td131:=TD.Ok.of ⟨_,_,_,Try.underlying131⟩ info131 rfl rfl (by decide) (fun _=>rfl)
theorem info132:(Try.prog.info? 132).map (fun i=>(i.zero,i.size,i.bytes))=some (some .nilFunc,1,8):=by kernel_rfl
theorem td132_ok:TD.Ok Try.prog 132 td132:=TD.Ok.of ⟨_,_,_,Try.underlying132⟩ info132 rfl rfl (by decide) (fun _=>rfl)
theorem info133:(Try.prog.info? 133).map (fun i=>(i.zero,i.size,i.bytes))=some (some .nilFunc,1,8):=by kernel_rfl
theorem td133_ok:TD.Ok Try.prog 133 td133:=TD.Ok.of ⟨_,_,_,Try.underlying133⟩ info133 rfl rfl (by decide) (fun _=>rfl)
theorem info134:(Try.prog.info? 134).map (fun i=>(i.zero,i.size,i.bytes))=some (some (.int .u32 0),1,4):=by kernel_rfl
theorem td134_ok:TD.Ok Try.prog 134 td134:=TD.Ok.of Try.underlying134 info134 rfl rfl (by decide) (fun _=>rfl)
theorem info135:(Try.prog.info? 135).map (fun i=>(i.zero,i.size,i.bytes))=some (some .nilFunc,1,8):=by kernel_rfl
theorem td135_ok:TD.Ok Try.prog 135 td135:=TD.Ok.of ⟨_,_,_,Try.underlying135⟩ info135 rfl rfl (by decide) (fun _=>rfl)
theorem info136:(Try.prog.info? 136).map (fun i=>(i.zero,i.size,i.bytes))=some (some .nilFunc,1,8):=by kernel_rfl
theorem td136_ok:TD.Ok Try.prog 136 td136:=TD.Ok.of ⟨_,_,_,Try.underlying136⟩ info136 rfl rfl (by decide) (fun _=>rfl)
theorem info137:(Try.prog.info? 137).map (fun i=>(i.zero,i.size,i.bytes))=some (some .nilFunc,1,8):=by kernel_rfl
theorem td137_ok:TD.Ok Try.prog 137 td137:=TD.Ok.of ⟨_,_,_,Try.underlying137⟩ info137 rfl rfl (by decide) (fun _=>rfl)
theorem info138:(Try.prog.info? 138).map (fun i=>(i.zero,i.size,i.bytes))=some (some .nilFunc,1,8):=by kernel_rfl
theorem td138_ok:TD.Ok Try.prog 138 td138:=TD.Ok.of ⟨_,_,_,Try.underlying138⟩ info138 rfl rfl (by decide) (fun _=>rfl)
theorem info139:(Try.prog.info? 139).map (fun i=>(i.zero,i.size,i.bytes))=some (some .nilFunc,1,8):=by kernel_rfl
theorem td139_ok:TD.Ok Try.prog 139 td139:=TD.Ok.of ⟨_,_,_,Try.underlying139⟩ info139 rfl rfl (by decide) (fun _=>rfl)
theorem info140:(Try.prog.info? 140).map (fun i=>(i.zero,i.size,i.bytes))=some (some (.int .u64 0),1,8):=by kernel_rfl
theorem td140_ok:TD.Ok Try.prog 140 td140:=TD.Ok.of Try.underlying140 info140 rfl rfl (by decide) (fun _=>rfl)
theorem info141:(Try.prog.info? 141).map (fun i=>(i.zero,i.size,i.bytes))=some (some .nilFunc,1,8):=by kernel_rfl
theorem td141_ok:TD.Ok Try.prog 141 td141:=TD.Ok.of ⟨_,_,_,Try.underlying141⟩ info141 rfl rfl (by decide) (fun _=>rfl)
theorem info142:(Try.prog.info? 142).map (fun i=>(i.zero,i.size,i.bytes))=some (some .nilFunc,1,8):=by kernel_rfl
theorem td142_ok:TD.Ok Try.prog 142 td142:=TD.Ok.of ⟨_,_,_,Try.underlying142⟩ info142 rfl rfl (by decide) (fun _=>rfl)
theorem info143:(Try.prog.info? 143).map (fun i=>(i.zero,i.size,i.bytes))=some (some .nilFunc,1,8):=by kernel_rfl
theorem td143_ok:TD.Ok Try.prog 143 td143:=TD.Ok.of ⟨_,_,_,Try.underlying143⟩ info143 rfl rfl (by decide) (fun _=>rfl)
theorem info144:(Try.prog.info? 144).map (fun i=>(i.zero,i.size,i.bytes))=some (some (.pointer none),1,8):=by kernel_rfl
theorem td144_ok:TD.Ok Try.prog 144 td144:=TD.Ok.of Try.underlying144 info144 rfl rfl (by decide) (fun _=>rfl)
theorem info145:(Try.prog.info? 145).map (fun i=>(i.zero,i.size,i.bytes))=some (some .nilFunc,1,8):=by kernel_rfl
theorem td145_ok:TD.Ok Try.prog 145 td145:=TD.Ok.of ⟨_,_,_,Try.underlying145⟩ info145 rfl rfl (by decide) (fun _=>rfl)
theorem info147:(Try.prog.info? 147).map (fun i=>(i.zero,i.size,i.bytes))=some (some .nilFunc,1,8):=by kernel_rfl
theorem td147_ok:TD.Ok Try.prog 147 td147:=TD.Ok.of ⟨_,_,_,Try.underlying147⟩ info147 rfl rfl (by decide) (fun _=>rfl)
theorem info148:(Try.prog.info? 148).map (fun i=>(i.zero,i.size,i.bytes))=some (some (.pointer none),1,8):=by kernel_rfl
theorem td148_ok:TD.Ok Try.prog 148 td148:=TD.Ok.of Try.underlying148 info148 rfl rfl (by decide) (fun _=>rfl)
theorem info150:(Try.prog.info? 150).map (fun i=>(i.zero,i.size,i.bytes))=some (some .nilFunc,1,8):=by kernel_rfl
theorem td150_ok:TD.Ok Try.prog 150 td150:=TD.Ok.of ⟨_,_,_,Try.underlying150⟩ info150 rfl rfl (by decide) (fun _=>rfl)
theorem info152:(Try.prog.info? 152).map (fun i=>(i.zero,i.size,i.bytes))=some (some .nilFunc,1,8):=by kernel_rfl
theorem td152_ok:TD.Ok Try.prog 152 td152:=TD.Ok.of ⟨_,_,_,Try.underlying152⟩ info152 rfl rfl (by decide) (fun _=>rfl)
theorem info154:(Try.prog.info? 154).map (fun i=>(i.zero,i.size,i.bytes))=some (some .nilFunc,1,8):=by kernel_rfl
theorem td154_ok:TD.Ok Try.prog 154 td154:=TD.Ok.of ⟨_,_,_,Try.underlying154⟩ info154 rfl rfl (by decide) (fun _=>rfl)
theorem info155:(Try.prog.info? 155).map (fun i=>(i.zero,i.size,i.bytes))=some (some .nilFunc,1,8):=by kernel_rfl
theorem td155_ok:TD.Ok Try.prog 155 td155:=TD.Ok.of ⟨_,_,_,Try.underlying155⟩ info155 rfl rfl (by decide) (fun _=>rfl)
theorem info161:(Try.prog.info? 161).map (fun i=>(i.zero,i.size,i.bytes))=some (some (.int .u8 0),1,1):=by kernel_rfl
theorem td161_ok:TD.Ok Try.prog 161 td161:=TD.Ok.of Try.underlying161 info161 rfl rfl (by decide) (fun _=>rfl)
theorem info162:(Try.prog.info? 162).map (fun i=>(i.zero,i.size,i.bytes))=some (some (.int .u8 0),1,1):=by kernel_rfl
theorem td162_ok:TD.Ok Try.prog 162 td162:=TD.Ok.of Try.underlying162 info162 rfl rfl (by decide) (fun _=>rfl)
theorem info163:(Try.prog.info? 163).map (fun i=>(i.zero,i.size,i.bytes))=some (some .nilFunc,1,8):=by kernel_rfl
theorem td163_ok:TD.Ok Try.prog 163 td163:=TD.Ok.of ⟨_,_,_,Try.underlying163⟩ info163 rfl rfl (by decide) (fun _=>rfl)
theorem info164:(Try.prog.info? 164).map (fun i=>(i.zero,i.size,i.bytes))=some (some (.pointer none),1,8):=by kernel_rfl
theorem td164_ok:TD.Ok Try.prog 164 td164:=TD.Ok.of Try.underlying164 info164 rfl rfl (by decide) (fun _=>rfl)
theorem info165:(Try.prog.info? 165).map (fun i=>(i.zero,i.size,i.bytes))=some (some (.int .i32 0),1,4):=by kernel_rfl
theorem td165_ok:TD.Ok Try.prog 165 td165:=TD.Ok.of Try.underlying165 info165 rfl rfl (by decide) (fun _=>rfl)
theorem info166:(Try.prog.info? 166).map (fun i=>(i.zero,i.size,i.bytes))=some (some (.int .i32 0),1,4):=by kernel_rfl
theorem td166_ok:TD.Ok Try.prog 166 td166:=TD.Ok.of Try.underlying166 info166 rfl rfl (by decide) (fun _=>rfl)
set_option maxRecDepth 100000 in
theorem tabL_ok:∀p∈tabL,TD.Ok Try.prog p.1 p.2:=
  (ν7.2 ⟨td1_ok,(ν7.2 ⟨td2_ok,(ν7.2 ⟨td3_ok,(ν7.2 ⟨td4_ok,(ν7.2 ⟨td5_ok,(ν7.2 ⟨td6_ok,(ν7.2 ⟨td9_ok,(ν7.2 ⟨td10_ok,(ν7.2 ⟨td11_ok,(ν7.2 ⟨td12_ok,(ν7.2 ⟨td15_ok,(ν7.2 ⟨td16_ok,(ν7.2 ⟨td17_ok,(ν7.2 ⟨td21_ok,(ν7.2 ⟨td22_ok,(ν7.2 ⟨td23_ok,(ν7.2 ⟨td24_ok,(ν7.2 ⟨td25_ok,(ν7.2 ⟨td26_ok,(ν7.2 ⟨td27_ok,(ν7.2 ⟨td29_ok,(ν7.2 ⟨td30_ok,(ν7.2 ⟨td31_ok,(ν7.2 ⟨td32_ok,(ν7.2 ⟨td33_ok,(ν7.2 ⟨td34_ok,(ν7.2 ⟨td35_ok,(ν7.2 ⟨td36_ok,(ν7.2 ⟨td37_ok,(ν7.2 ⟨td38_ok,(ν7.2 ⟨td39_ok,(ν7.2 ⟨td40_ok,(ν7.2 ⟨td41_ok,(ν7.2 ⟨td42_ok,(ν7.2 ⟨td44_ok,(ν7.2 ⟨td46_ok,(ν7.2 ⟨td48_ok,(ν7.2 ⟨td49_ok,(ν7.2 ⟨td51_ok,(ν7.2 ⟨td52_ok,(ν7.2 ⟨td54_ok,(ν7.2 ⟨td56_ok,(ν7.2 ⟨td57_ok,(ν7.2 ⟨td59_ok,(ν7.2 ⟨td60_ok,(ν7.2 ⟨td61_ok,(ν7.2 ⟨td62_ok,(ν7.2 ⟨td63_ok,(ν7.2 ⟨td65_ok,(ν7.2 ⟨td66_ok,(ν7.2 ⟨td68_ok,(ν7.2 ⟨td70_ok,(ν7.2 ⟨td71_ok,(ν7.2 ⟨td72_ok,(ν7.2 ⟨td73_ok,(ν7.2 ⟨td74_ok,(ν7.2 ⟨td75_ok,(ν7.2 ⟨td76_ok,(ν7.2 ⟨td77_ok,(ν7.2 ⟨td78_ok,(ν7.2 ⟨td79_ok,(ν7.2 ⟨td80_ok,(ν7.2 ⟨td81_ok,(ν7.2 ⟨td82_ok,(ν7.2 ⟨td83_ok,(ν7.2 ⟨td84_ok,(ν7.2 ⟨td85_ok,(ν7.2 ⟨td86_ok,(ν7.2 ⟨td87_ok,(ν7.2 ⟨td88_ok,(ν7.2 ⟨td89_ok,(ν7.2 ⟨td90_ok,(ν7.2 ⟨td91_ok,(ν7.2 ⟨td92_ok,(ν7.2 ⟨td93_ok,(ν7.2 ⟨td94_ok,(ν7.2 ⟨td95_ok,(ν7.2 ⟨td96_ok,(ν7.2 ⟨td97_ok,(ν7.2 ⟨td98_ok,(ν7.2 ⟨td99_ok,(ν7.2 ⟨td100_ok,(ν7.2 ⟨td101_ok,(ν7.2 ⟨td102_ok,(ν7.2 ⟨td103_ok,(ν7.2 ⟨td104_ok,(ν7.2 ⟨td105_ok,(ν7.2 ⟨td106_ok,(ν7.2 ⟨td107_ok,(ν7.2 ⟨td108_ok,(ν7.2 ⟨td109_ok,(ν7.2 ⟨td110_ok,(ν7.2 ⟨td111_ok,(ν7.2 ⟨td112_ok,(ν7.2 ⟨td113_ok,(ν7.2 ⟨td114_ok,(ν7.2 ⟨td115_ok,(ν7.2 ⟨td116_ok,(ν7.2 ⟨td117_ok,(ν7.2 ⟨td118_ok,(ν7.2 ⟨td119_ok,(ν7.2 ⟨td120_ok,(ν7.2 ⟨td121_ok,(ν7.2 ⟨td122_ok,(ν7.2 ⟨td123_ok,(ν7.2 ⟨td124_ok,(ν7.2 ⟨td125_ok,(ν7.2 ⟨td126_ok,(ν7.2 ⟨td127_ok,(ν7.2 ⟨td129_ok,(ν7.2 ⟨td130_ok,(ν7.2 ⟨td131_ok,(ν7.2 ⟨td132_ok,(ν7.2 ⟨td133_ok,(ν7.2 ⟨td134_ok,(ν7.2 ⟨td135_ok,(ν7.2 ⟨td136_ok,(ν7.2 ⟨td137_ok,(ν7.2 ⟨td138_ok,(ν7.2 ⟨td139_ok,(ν7.2 ⟨td140_ok,(ν7.2 ⟨td141_ok,(ν7.2 ⟨td142_ok,(ν7.2 ⟨td143_ok,(ν7.2 ⟨td144_ok,(ν7.2 ⟨td145_ok,(ν7.2 ⟨td147_ok,(ν7.2 ⟨td148_ok,(ν7.2 ⟨td150_ok,(ν7.2 ⟨td152_ok,(ν7.2 ⟨td154_ok,(ν7.2 ⟨td155_ok,(ν7.2 ⟨td161_ok,(ν7.2 ⟨td162_ok,(ν7.2 ⟨td163_ok,(ν7.2 ⟨td164_ok,(ν7.2 ⟨td165_ok,(ν7.2 ⟨td166_ok,(fun _ h=>by cases h)⟩)⟩)⟩)⟩)⟩)⟩)⟩)⟩)⟩)⟩)⟩)⟩)⟩)⟩)⟩)⟩)⟩)⟩)⟩)⟩)⟩)⟩)⟩)⟩)⟩)⟩)⟩)⟩)⟩)⟩)⟩)⟩)⟩)⟩)⟩)⟩)⟩)⟩)⟩)⟩)⟩)⟩)⟩)⟩)⟩)⟩)⟩)⟩)⟩)⟩)⟩)⟩)⟩)⟩)⟩)⟩)⟩)⟩)⟩)⟩)⟩)⟩)⟩)⟩)⟩)⟩)⟩)⟩)⟩)⟩)⟩)⟩)⟩)⟩)⟩)⟩)⟩)⟩)⟩)⟩)⟩)⟩)⟩)⟩)⟩)⟩)⟩)⟩)⟩)⟩)⟩)⟩)⟩)⟩)⟩)⟩)⟩)⟩)⟩)⟩)⟩)⟩)⟩)⟩)⟩)⟩)⟩)⟩)⟩)⟩)⟩)⟩)⟩)⟩)⟩)⟩)⟩)⟩)⟩)⟩)⟩)⟩)⟩)⟩)⟩)⟩)⟩)⟩)⟩)⟩)⟩)⟩)⟩)⟩)⟩)⟩)⟩)⟩)
theorem mixed:Try.prog.follows .mixedOrders=true:=by kernel_rfl
theorem tab_ok:tab.Ok Try.prog:=Tab.Ok.of_list tabL_ok
end Go.Proofs.Ytjdhigcefkihiaa
namespace Go.Proofs.Ytjdhigcefkihiaa
open Go Go.Sep
attribute [local irreducible] wpC headF
def D3:Info:=⟨156,fun i=>if i=8 then ([[],[0],[],[0,1,2],[0,1,2,3],[0,1,2,3,4],[0,1,2,3,4,5],[0,1,2,3,4,5],[0,1,2,3,4,5],[0,1,2,3,4,5,6],[0,1,2,3,4,5,6,7,9],[0,1,2,3,4,5,6,7,8,9,10]],[(0,[]),(2,[]),(1,[2]),(3,[]),(4,[]),(5,[]),(6,[]),(7,[]),(8,[]),(9,[]),(10,[]),(11,[])]) else if i=16 then ([[],[],[1],[0,1,2],[0,1,2,3]],[(0,[]),(1,[]),(2,[0]),(3,[]),(4,[])]) else if i=35 then ([[],[0],[],[0,1,2],[0,1,2,3],[0,1,2,3,4],[0,1,2,3,4,5],[0,1,2,3,4,5],[0,1,2,3,4,5],[0,1,2,3,4,5,6],[0,1,2,3,4,5,6,7,9],[0,1,2,3,4,5,6,7,8,9,10]],[(0,[]),(2,[]),(1,[2]),(3,[]),(4,[]),(5,[]),(6,[]),(7,[]),(8,[]),(9,[]),(10,[]),(11,[])]) else ([],[]),fun i=>([],[])⟩
def W3 (v0:AV) (v1:AV) (H:Heap) (K:AV→Heap→Prop):Prop:=
 boxV v1 H fun v3 H1=>
 CallT Try.prog 8 [v0,(AV.p (.int .i64 1048576))] H1 fun v22 H2=>
 binV tab .lss 3 v22 (AV.p (.int .i64 0)) fun v24=>
 condV v24 (K (AV.p (.bool true)) H2)
 (loadV tab 25 v3 H2 fun v25=>
 CallT Try.prog 9 [v25,v22] H2 fun v27 H3=>
 binV tab .lss 3 v27 (AV.p (.int .i64 0)) fun v29=>
 condV v29 (K (AV.p (.bool true)) H3)
 (loadV tab 25 v3 H3 fun v33=>
 CallT Try.prog 11 [v0] H3 fun v32 H4=>
 (loadV tab 25 v3 H4 fun v9033=>
 v33=v9033)∧
 CallT Try.prog 12 [v33] H4 fun v34 H5=>
 CallT Try.prog 10 [v32,v34] H5 fun v35 H6=>
 extractV v35 0 fun v36=>
 extractV v35 1 fun v37=>
 extractV v35 2 fun v38=>
 CallT Try.prog 11 [v0] H6 fun v40 H7=>
 loadV tab 25 v3 H7 fun v41=>
 CallT Try.prog 12 [v41] H7 fun v42 H8=>
 allocV tab 32 H8 fun v10 H9=>
 storeV tab 32 v10 v42 H9 fun H10=>
 loadV tab 32 v10 H10 fun v45=>
 CallT Try.prog 13 [v40,v45] H10 fun v46 H11=>
 extractV v46 0 fun v47=>
 extractV v46 1 fun v48=>
 extractV v46 2 fun v49=>
 CallT Try.prog 14 [v47,v36] H11 fun v52 H12=>
 unV .not v52 fun v53=>
 grdV v53 false (CallT Try.prog 14 [v48,v37] H12 fun v57 H13=>
 unV .not v57 fun v58=>
 grdV v58 false (binV tab .neq 4 v49 v38 fun v63=>
 condV v63 (K (AV.p (.bool false)) H13)
 (CallT Try.prog 11 [v0] H13 fun v67 H14=>
 CallT Try.prog 15 [v40,v67] H14 fun v68 H15=>
 unV .not v68 fun v69=>
 condV v69 (K (AV.p (.bool false)) H15)
 (loadV tab 32 v10 H15 fun v70=>
 loadV tab 25 v3 H15 fun v71=>
 CallT Try.prog 12 [v71] H15 fun v72 H16=>
 (loadV tab 32 v10 H16 fun v9070=>
 v70=v9070)∧
 CallT Try.prog 16 [v70,v72] H16 fun v73 H17=>
 unV .not v73 fun v74=>
 condV v74 (K (AV.p (.bool false)) H17)
 (CallT Try.prog 17 [v40,(AV.p (.int .i64 1))] H17 fun v77 H18=>
 loadV tab 32 v10 H18 fun v78=>
 CallT Try.prog 18 [v78,v77] H18 fun v80 H19=>
 binV tab .lss 3 v80 (AV.p (.int .i64 0)) fun v82=>
 grdV v82 false (CallT Try.prog 14 [v47,v36] H19 fun v86 H20=>
 unV .not v86 fun v87=>
 grdV v87 false (CallT Try.prog 14 [v48,v37] H20 fun v92 H21=>
 unV .not v92 fun v93=>
 grdV v93 false (binV tab .neq 4 v49 v38 fun v98=>
 condV v98 (K (AV.p (.bool false)) H21)
 (CallT Try.prog 19 [v47,(AV.p (.int .i64 1))] H21 fun v102 H22=>
 CallT Try.prog 19 [v48,v102] H22 fun v105 H23=>
 CallT Try.prog 20 [v47,(AV.p (.int .i64 1))] H23 fun v108 H24=>
 binV tab .lss 3 v108 (AV.p (.int .i64 0)) fun v110=>
 condV v110 (K (AV.p (.bool false)) H24)
 (CallT Try.prog 20 [v48,v108] H24 fun v113 H25=>
 binV tab .lss 3 v113 (AV.p (.int .i64 0)) fun v115=>
 condV v115 (K (AV.p (.bool false)) H25)
 (binV tab .neq 3 v113 v105 fun v118=>
 condV v118 (K (AV.p (.bool false)) H25)
 (loadV tab 25 v3 H25 fun v122=>
 CallT Try.prog 11 [v0] H25 fun v121 H26=>
 (loadV tab 25 v3 H26 fun v9122=>
 v122=v9122)∧
 CallT Try.prog 12 [v122] H26 fun v123 H27=>
 CallT Try.prog 13 [v121,v123] H27 fun v124 H28=>
 extractV v124 0 fun v125=>
 extractV v124 1 fun v126=>
 extractV v124 2 fun v127=>
 CallT Try.prog 14 [v125,v36] H28 fun v130 H29=>
 unV .not v130 fun v131=>
 grdV v131 false (CallT Try.prog 14 [v126,v37] H29 fun v135 H30=>
 unV .not v135 fun v136=>
 grdV v136 false (binV tab .neq 4 v127 v38 fun v141=>
 condV v141 (K (AV.p (.bool false)) H30)
 (CallT Try.prog 20 [v47,(AV.p (.int .i64 1))] H30 fun v145 H31=>
 binV tab .lss 3 v145 (AV.p (.int .i64 0)) fun v147=>
 condV v147 (K (AV.p (.bool false)) H31)
 (CallT Try.prog 20 [v48,v145] H31 fun v150 H32=>
 binV tab .lss 3 v150 (AV.p (.int .i64 0)) fun v152=>
 condV v152 (K (AV.p (.bool false)) H32)
 (binV tab .neq 3 v150 v105 fun v155=>
 condV v155 (K (AV.p (.bool false)) H32)
 (K (AV.p (.bool true)) H32)))))
 (K (AV.p (.bool false)) H30))
 (K (AV.p (.bool false)) H29))))))
 (K (AV.p (.bool false)) H21))
 (K (AV.p (.bool false)) H20))
 (K (AV.p (.bool false)) H19)))))
 (K (AV.p (.bool false)) H13))
 (K (AV.p (.bool false)) H12)))
def D4:Info:=⟨240,fun i=>([],[]),fun i=>([],[])⟩
def J4_0 (K:AV→Heap→Prop) (v1:AV) (H:Heap):Prop:=
 CallT Try.prog 30 [v1] H fun v217 H17=>
 extractV v217 0 fun v218=>
 extractV v217 1 fun v219=>
 CallT Try.prog 29 [v218,v219] H17 fun v223 H18=>
 extractV v223 0 fun v224=>
 extractV v223 1 fun v225=>
 CallT Try.prog 31 [v218,v219] H18 fun v229 H19=>
 extractV v229 0 fun v230=>
 extractV v229 1 fun v231=>
 binV tab .eql 4 v225 v231 fun v234=>
 grdV v234 true (CallT Try.prog 25 [v224,v230] H19 fun v238 H20=>
 K v238 H20)
 (K (AV.p (.bool false)) H19)
def J4_1 (K:AV→Heap→Prop) (v1:AV) (v6:AV) (v13:AV) (v14:AV) (H:Heap):Prop:=
 CallT Try.prog 29 [(AV.p (.int .i64 4)),v6] H fun v183 H14=>
 extractV v183 0 fun v184=>
 extractV v183 1 fun v185=>
 loadV tab 32 v13 H14 fun v188=>
 CallT Try.prog 28 [v184,v188,v14] H14 fun v190 H15=>
 extractV v190 0 fun v191=>
 extractV v190 1 fun v192=>
 loadV tab 32 v13 H15 fun v195=>
 binV tab .add 3 v14 (AV.p (.int .i64 1)) fun v197=>
 CallT Try.prog 28 [v6,v195,v197] H15 fun v198 H16=>
 extractV v198 0 fun v199=>
 extractV v198 1 fun v200=>
 grdV v185 true (unV .not v192 fun v204=>
 grdV v204 false (unV .not v200 fun v207=>
 grdV v207 false (binV tab .neq 4 v191 v199 fun v212=>
 condV v212 (K (AV.p (.bool false)) H16)
 (J4_0 K v1 H16))
 (K (AV.p (.bool false)) H16))
 (K (AV.p (.bool false)) H16))
 (J4_0 K v1 H16)
def J4_2 (K:AV→Heap→Prop) (v1:AV) (v6:AV) (v13:AV) (v14:AV) (v15:AV) (v19:AV) (v21:AV) (v172:AV) (H:Heap):Prop:=
 grdV v172 true (grdV v19 false (binV tab .neq 4 v15 v21 fun v178=>
 condV v178 (K (AV.p (.bool false)) H)
 (J4_1 K v1 v6 v13 v14 H))
 (binV tab .neq 4 v15 (AV.p (.bool true)) fun v178=>
 condV v178 (K (AV.p (.bool false)) H)
 (J4_1 K v1 v6 v13 v14 H)))
 (J4_1 K v1 v6 v13 v14 H)
def J4_3 (K:AV→Heap→Prop) (v1:AV) (v5:AV) (v6:AV) (v13:AV) (v14:AV) (v15:AV) (v19:AV) (v21:AV) (v160:AV) (H:Heap):Prop:=
 grdV v160 true (grdV v19 true (binV tab .neq 4 v15 v21 fun v166=>
 grdV v166 false (binV tab .eql 3 v5 (AV.p (.int .i64 6)) fun v171=>
 J4_2 K v1 v6 v13 v14 v15 v19 v21 v171 H)
 (K (AV.p (.bool false)) H))
 (binV tab .neq 4 v15 (AV.p (.bool false)) fun v166=>
 grdV v166 false (binV tab .eql 3 v5 (AV.p (.int .i64 6)) fun v171=>
 J4_2 K v1 v6 v13 v14 v15 v19 v21 v171 H)
 (K (AV.p (.bool false)) H)))
 (binV tab .eql 3 v5 (AV.p (.int .i64 6)) fun v171=>
 J4_2 K v1 v6 v13 v14 v15 v19 v21 v171 H)
def J4_4 (K:AV→Heap→Prop) (v1:AV) (v5:AV) (v6:AV) (v13:AV) (v14:AV) (v15:AV) (v17:AV) (v19:AV) (v21:AV) (v145:AV) (H:Heap):Prop:=
 grdV v145 true (grdV v21 true (grdV v19 false (binV tab .neq 4 v15 v17 fun v154=>
 grdV v154 false (binV tab .eql 3 v5 (AV.p (.int .i64 5)) fun v159=>
 J4_3 K v1 v5 v6 v13 v14 v15 v19 v21 v159 H)
 (K (AV.p (.bool false)) H))
 (binV tab .neq 4 v15 (AV.p (.bool true)) fun v154=>
 grdV v154 false (binV tab .eql 3 v5 (AV.p (.int .i64 5)) fun v159=>
 J4_3 K v1 v5 v6 v13 v14 v15 v19 v21 v159 H)
 (K (AV.p (.bool false)) H)))
 (binV tab .neq 4 v15 (AV.p (.bool false)) fun v154=>
 grdV v154 false (binV tab .eql 3 v5 (AV.p (.int .i64 5)) fun v159=>
 J4_3 K v1 v5 v6 v13 v14 v15 v19 v21 v159 H)
 (K (AV.p (.bool false)) H)))
 (binV tab .eql 3 v5 (AV.p (.int .i64 5)) fun v159=>
 J4_3 K v1 v5 v6 v13 v14 v15 v19 v21 v159 H)
def W4 (v0:AV) (v1:AV) (H:Heap) (K:AV→Heap→Prop):Prop:=
 CallT Try.prog 21 [v0,v1] H fun v37 H1=>
 condV v37 (K (AV.p (.bool true)) H1)
 (CallT Try.prog 22 [v0] H1 fun v40 H2=>
 extractV v40 0 fun v41=>
 extractV v40 1 fun v42=>
 extractV v40 2 fun v43=>
 CallT Try.prog 23 [v41,v42,v43] H2 fun v48 H3=>
 extractV v48 0 fun v49=>
 extractV v48 1 fun v50=>
 CallT Try.prog 24 [v41,v42,v43] H3 fun v55 H4=>
 extractV v55 0 fun v56=>
 extractV v55 1 fun v57=>
 binV tab .neq 4 v50 v57 fun v60=>
 grdV v60 false (CallT Try.prog 25 [v49,v56] H4 fun v64 H5=>
 unV .not v64 fun v65=>
 condV v65 (K (AV.p (.bool false)) H5)
 (CallT Try.prog 26 [v1] H5 fun v69 H6=>
 extractV v69 0 fun v70=>
 extractV v69 1 fun v71=>
 extractV v69 2 fun v72=>
 allocV tab 32 H6 fun v13 H7=>
 storeV tab 32 v13 v71 H7 fun H8=>
 grdV v50 true (loadV tab 32 v13 H8 fun v75=>
 CallT Try.prog 27 [v75] H8 fun v76 H9=>
 grdV v76 true (binV tab .geq 3 v72 (AV.p (.int .i64 0)) fun v80=>
 grdV v80 true (binV tab .lss 3 v72 (AV.p (.int .i64 1000)) fun v84=>
 condV v84 (loadV tab 32 v13 H9 fun v88=>
 CallT Try.prog 28 [v49,v88,v72] H9 fun v90 H10=>
 extractV v90 0 fun v91=>
 extractV v90 1 fun v92=>
 loadV tab 32 v13 H10 fun v95=>
 binV tab .add 3 v72 (AV.p (.int .i64 1)) fun v97=>
 CallT Try.prog 28 [v49,v95,v97] H10 fun v98 H11=>
 extractV v98 0 fun v99=>
 extractV v98 1 fun v100=>
 loadV tab 32 v13 H11 fun v103=>
 CallT Try.prog 28 [v42,v103,v72] H11 fun v105 H12=>
 extractV v105 0 fun v106=>
 extractV v105 1 fun v107=>
 loadV tab 32 v13 H12 fun v110=>
 CallT Try.prog 28 [v43,v110,v72] H12 fun v112 H13=>
 extractV v112 0 fun v113=>
 extractV v112 1 fun v114=>
 unV .not v92 fun v116=>
 grdV v116 false (unV .not v100 fun v119=>
 grdV v119 false (unV .not v107 fun v123=>
 grdV v123 false (unV .not v114 fun v127=>
 condV v127 (K (AV.p (.bool false)) H13)
 (binV tab .eql 3 v41 (AV.p (.int .i64 7)) fun v130=>
 grdV v130 true (grdV v113 false (grdV v106 true (binV tab .neq 4 v91 v99 fun v140=>
 grdV v140 false (binV tab .eql 3 v41 (AV.p (.int .i64 8)) fun v144=>
 J4_4 K v1 v41 v42 v13 v72 v91 v99 v106 v113 v144 H13)
 (K (AV.p (.bool false)) H13))
 (binV tab .neq 4 v91 (AV.p (.bool false)) fun v140=>
 grdV v140 false (binV tab .eql 3 v41 (AV.p (.int .i64 8)) fun v144=>
 J4_4 K v1 v41 v42 v13 v72 v91 v99 v106 v113 v144 H13)
 (K (AV.p (.bool false)) H13)))
 (binV tab .neq 4 v91 (AV.p (.bool true)) fun v140=>
 grdV v140 false (binV tab .eql 3 v41 (AV.p (.int .i64 8)) fun v144=>
 J4_4 K v1 v41 v42 v13 v72 v91 v99 v106 v113 v144 H13)
 (K (AV.p (.bool false)) H13)))
 (binV tab .eql 3 v41 (AV.p (.int .i64 8)) fun v144=>
 J4_4 K v1 v41 v42 v13 v72 v91 v99 v106 v113 v144 H13)))
 (K (AV.p (.bool false)) H13))
 (K (AV.p (.bool false)) H13))
 (K (AV.p (.bool false)) H13))
 (J4_0 K v1 H9))
 (J4_0 K v1 H9))
 (J4_0 K v1 H9))
 (J4_0 K v1 H8)))
 (K (AV.p (.bool false)) H4))
theorem W4_wp (v0:AV) (v1:AV) (H:Heap) (K:AV→Heap→Prop):wpC Try.prog tab D4 (bodyOf Try.f4) (retF tab [.tmp 4] K) (nthA [v0,v1]) H=W4 v0 v1 H K:=by kernel_rfl
theorem W4_ok {v0 v1:AV} {H:Heap} {K:AV→Heap→Prop} (h:W4 v0 v1 H K):CallT Try.prog 4 [v0,v1] H K:=
  CallT.of_wp (D:=D4) tab_ok mixed Try.func4 (c:=bodyOf Try.f4) (by kernel_rfl) rfl (by kernel_rfl) (rs:=#[.tmp 4]) rfl (by decide +kernel) (by kernel_rfl) (W4_wp v0 v1 H K) h
end Go.Proofs.Ytjdhigcefkihiaa
namespace Go.Proofs.Ytjdhigcefkihiaa
open Go Go.Sep
attribute [local irreducible] wpC headF
def D21:Info:=⟨16,fun i=>([],[]),fun i=>([],[])⟩
def W21 (v0:AV) (v1:AV) (H:Heap) (K:AV→Heap→Prop):Prop:=
 lenV tab 41 v0 fun v6=>
 binV tab .gtr 3 v6 (AV.p (.int .i64 1048576)) fun v7=>
 grdV v7 false (lenV tab 41 v1 fun v10=>
 lenV tab 41 v0 fun v12=>
 binV tab .sub 3 (AV.p (.int .i64 1048576)) v12 fun v13=>
 binV tab .gtr 3 v10 v13 fun v14=>
 K v14 H)
 (K (AV.p (.bool true)) H)
theorem W21_wp (v0:AV) (v1:AV) (H:Heap) (K:AV→Heap→Prop):wpC Try.prog tab D21 (bodyOf Try.f21) (retF tab [.tmp 4] K) (nthA [v0,v1]) H=W21 v0 v1 H K:=by kernel_rfl
theorem W21_ok {v0 v1:AV} {H:Heap} {K:AV→Heap→Prop} (h:W21 v0 v1 H K):CallT Try.prog 21 [v0,v1] H K:=
  CallT.of_wp (D:=D21) tab_ok mixed Try.func21 (c:=bodyOf Try.f21) (by kernel_rfl) rfl (by kernel_rfl) (rs:=#[.tmp 4]) rfl (by decide +kernel) (by kernel_rfl) (W21_wp v0 v1 H K) h
def D22:Info:=⟨18,fun i=>([],[]),fun i=>([],[])⟩
def W22 (v0:AV) (H:Heap) (K:AV→Heap→Prop):Prop:=
 buildV tab 88 [(0,v0)] fun v8=>
 boxV v8 H fun v9 H1=>
 CallT Try.prog 67 [v9,(AV.p (.int .i64 6))] H1 fun v11 H2=>
 binV tab .add 3 (AV.p (.int .i64 3)) v11 fun v12=>
 CallT Try.prog 68 [v9,(AV.p (.int .i64 2))] H2 fun v15 H3=>
 CallT Try.prog 68 [v9,(AV.p (.int .i64 2))] H3 fun v17 H4=>
 K (.tup [v12,v15,v17]) H4
theorem W22_wp (v0:AV) (H:Heap) (K:AV→Heap→Prop):wpC Try.prog tab D22 (bodyOf Try.f22) (retF tab [.tmp 2,.tmp 3,.tmp 4] K) (nthA [v0]) H=W22 v0 H K:=by kernel_rfl
theorem W22_ok {v0:AV} {H:Heap} {K:AV→Heap→Prop} (h:W22 v0 H K):CallT Try.prog 22 [v0] H K:=
  CallT.of_wp (D:=D22) tab_ok mixed Try.func22 (c:=bodyOf Try.f22) (by kernel_rfl) rfl (by kernel_rfl) (rs:=#[.tmp 2,.tmp 3,.tmp 4]) rfl (by decide +kernel) (by kernel_rfl) (W22_wp v0 H K) h
def D23:Info:=⟨31,fun i=>([],[]),fun i=>([],[])⟩
def W23 (v0:AV) (v1:AV) (v2:AV) (H:Heap) (K:AV→Heap→Prop):Prop:=
 CallT Try.prog 69 [v0] H fun v9 H1=>
 binV tab .neq 3 v9 (AV.p (.int .i64 2)) fun v10=>
 grdV v10 false (CallT Try.prog 37 [v1] H1 fun v13 H2=>
 unV .not v13 fun v14=>
 grdV v14 false (CallT Try.prog 37 [v2] H2 fun v18 H3=>
 unV .not v18 fun v19=>
 condV v19 (K (.tup [(AV.p .nil),(AV.p (.bool false))]) H3)
 (buildV tab 80 [(0,v0)] fun v24=>
 buildSliceV tab 30 1 [(0,v24)] H3 (wkK fun v25 H4=>
 buildSliceV tab 115 3 [(0,v1),(1,v2),(2,v25)] H4 (wkK fun v26 H5=>
 CallT Try.prog 71 [v26] H5 fun v27 H6=>
 CallT Try.prog 70 [v27] H6 fun v28 H7=>
 extractV v28 0 fun v29=>
 extractV v28 1 fun v30=>
 K (.tup [v29,v30]) H7))))
 (K (.tup [(AV.p .nil),(AV.p (.bool false))]) H2))
 (K (.tup [(AV.p .nil),(AV.p (.bool false))]) H1)
theorem W23_wp (v0:AV) (v1:AV) (v2:AV) (H:Heap) (K:AV→Heap→Prop):wpC Try.prog tab D23 (bodyOf Try.f23) (retF tab [.tmp 6,.tmp 7] K) (nthA [v0,v1,v2]) H=W23 v0 v1 v2 H K:=by kernel_rfl
theorem W23_ok {v0 v1 v2:AV} {H:Heap} {K:AV→Heap→Prop} (h:W23 v0 v1 v2 H K):CallT Try.prog 23 [v0,v1,v2] H K:=
  CallT.of_wp (D:=D23) tab_ok mixed Try.func23 (c:=bodyOf Try.f23) (by kernel_rfl) rfl (by kernel_rfl) (rs:=#[.tmp 6,.tmp 7]) rfl (by decide +kernel) (by kernel_rfl) (W23_wp v0 v1 v2 H K) h
def D24:Info:=⟨36,fun i=>([],[]),fun i=>([],[])⟩
def W24 (v0:AV) (v1:AV) (v2:AV) (H:Heap) (K:AV→Heap→Prop):Prop:=
 CallT Try.prog 72 [v0] H fun v10 H1=>
 binV tab .neq 3 v10 (AV.p (.int .i64 2)) fun v11=>
 grdV v11 false (CallT Try.prog 38 [v1] H1 fun v14 H2=>
 unV .not v14 fun v15=>
 grdV v15 false (CallT Try.prog 38 [v2] H2 fun v19 H3=>
 unV .not v19 fun v20=>
 condV v20 (K (.tup [(AV.p .nil),(AV.p (.bool false))]) H3)
 (buildSliceV tab 30 0 [] H3 (wkK fun v22 H4=>
 appendV tab 30 30 v22 v1 H4 (wkK fun v24 H5=>
 appendV tab 30 30 v24 v2 H5 (wkK fun v27 H6=>
 buildV tab 80 [(0,v0)] fun v30=>
 buildSliceV tab 30 1 [(0,v30)] H6 (wkK fun v31 H7=>
 appendV tab 30 30 v27 v31 H7 (wkK fun v32 H8=>
 CallT Try.prog 73 [v32] H8 fun v33 H9=>
 extractV v33 0 fun v34=>
 extractV v33 1 fun v35=>
 K (.tup [v34,v35]) H9)))))))
 (K (.tup [(AV.p .nil),(AV.p (.bool false))]) H2))
 (K (.tup [(AV.p .nil),(AV.p (.bool false))]) H1)
theorem W24_wp (v0:AV) (v1:AV) (v2:AV) (H:Heap) (K:AV→Heap→Prop):wpC Try.prog tab D24 (bodyOf Try.f24) (retF tab [.tmp 6,.tmp 7] K) (nthA [v0,v1,v2]) H=W24 v0 v1 v2 H K:=by kernel_rfl
theorem W24_ok {v0 v1 v2:AV} {H:Heap} {K:AV→Heap→Prop} (h:W24 v0 v1 v2 H K):CallT Try.prog 24 [v0,v1,v2] H K:=
  CallT.of_wp (D:=D24) tab_ok mixed Try.func24 (c:=bodyOf Try.f24) (by kernel_rfl) rfl (by kernel_rfl) (rs:=#[.tmp 6,.tmp 7]) rfl (by decide +kernel) (by kernel_rfl) (W24_wp v0 v1 v2 H K) h
def D25:Info:=⟨26,fun i=>if i=6 then ([[],[],[0,1],[0,1,2],[],[],[4,5],[4,5,6],[0,1,2,3,4,5,6,7]],[(0,[]),(1,[]),(2,[]),(3,[]),(4,[]),(5,[]),(6,[]),(7,[]),(8,[])]) else ([],[]),fun i=>if i=4 then ([0,1,12],[13]) else ([],[])⟩
def L25_0 (K:AV→Heap→Prop) (v0:AV) (v1:AV) (v12:AV) (v13:AV) (H:Heap):Prop:=LoopV (wpC Try.prog tab D25 (cAt [1,1,0,1,0,0] (bodyOf Try.f25))) [0,1,12] (PostF.block 0 (PostF.thenA (wpC Try.prog tab D25 (cAt [1,1,1] (bodyOf Try.f25))) (retF tab [.tmp 4] K))) [13] [v0,v1,AV.any,AV.any,AV.any,AV.any,AV.any,AV.any,AV.any,AV.any,AV.any,AV.any,v12,v13,AV.any,AV.any,AV.any,AV.any,AV.any,AV.any,AV.any,AV.any,AV.any,AV.any,AV.any,AV.any] H
def B25_0 (K:AV→Heap→Prop) (N1:AV→Heap→Prop) (v0:AV) (v1:AV) (v12:AV) (v13:AV) (H:Heap):Prop:=
 binV tab .lss 3 v13 v12 fun v14=>
 condV v14 (indexAddrV tab 30 v0 v13 fun v18=>
 loadV tab 80 v18 H fun v19=>
 indexAddrV tab 30 v1 v13 fun v22=>
 loadV tab 80 v22 H fun v23=>
 binV tab .neq 80 v19 v23 fun v24=>
 condV v24 (K (AV.p (.bool false)) H)
 (binV tab .add 3 v13 (AV.p (.int .i64 1)) fun v25=>
 N1 v25 H))
 (K (AV.p (.bool true)) H)
def W25 (v0:AV) (v1:AV) (H:Heap) (K:AV→Heap→Prop):Prop:=
 lenV tab 30 v0 fun v7=>
 lenV tab 30 v1 fun v9=>
 binV tab .neq 3 v7 v9 fun v10=>
 condV v10 (K (AV.p (.bool false)) H)
 (lenV tab 30 v0 fun v12=>
 L25_0 K v0 v1 v12 (AV.p (.int .i64 0)) H)
theorem W25_wp (v0:AV) (v1:AV) (H:Heap) (K:AV→Heap→Prop):wpC Try.prog tab D25 (bodyOf Try.f25) (retF tab [.tmp 4] K) (nthA [v0,v1]) H=W25 v0 v1 H K:=by kernel_rfl
theorem W25_ok {v0 v1:AV} {H:Heap} {K:AV→Heap→Prop} (h:W25 v0 v1 H K):CallT Try.prog 25 [v0,v1] H K:=
  CallT.of_wp (D:=D25) tab_ok mixed Try.func25 (c:=bodyOf Try.f25) (by kernel_rfl) rfl (by kernel_rfl) (rs:=#[.tmp 4]) rfl (by decide +kernel) (by kernel_rfl) (W25_wp v0 v1 H K) h
theorem L25_0_rule {K:AV→Heap→Prop} {v0 v1 v12 v13:AV} {H:Heap} {σ:Type} (s0:σ) (f13:σ→AV) (TH:σ→Heap) (pre:σ→Prop) (μ:σ→Nat)
    (h0:pre s0∧AV.wk v13 (f13 s0)∧Heap.le (TH s0) H)
    (round:∀s,pre s→B25_0 K (fun w13 H'=>∃s',pre s'∧μ s' < μ s∧AV.wk w13 (f13 s')∧Heap.le (TH s') H') v0 v1 v12 (f13 s) (TH s)) :
    L25_0 K v0 v1 v12 v13 H:=by
  unfold L25_0
  exact LoopV.mk s0 (fun s=>[f13 s]) TH pre μ (fun _=>rfl) (Eq.mp (by kernel_rfl) h0) (fun s hs=>Eq.mp (by kernel_rfl) (round s hs))
def D26:Info:=⟨19,fun i=>if i=4 then ([[],[],[],[2],[0,2,3],[0,1,2,3,4],[0,1,2,3,4,5]],[(0,[]),(1,[]),(2,[]),(3,[1]),(4,[]),(5,[]),(6,[])]) else ([],[]),fun i=>([],[])⟩
def W26 (v0:AV) (H:Heap) (K:AV→Heap→Prop):Prop:=
 allocV tab 32 H fun v3 H1=>
 buildV tab 88 [(0,v0)] fun v9=>
 boxV v9 H1 fun v10 H2=>
 CallT Try.prog 74 [v10] H2 fun v12 H3=>
 CallT Try.prog 75 [v10] H3 fun v14 H4=>
 allocV tab 32 H4 fun v7 H5=>
 storeV tab 32 v7 v14 H5 fun H6=>
 loadV tab 32 v7 H6 fun v16=>
 CallT Try.prog 76 [v10] H6 fun v18 H7=>
 (loadV tab 32 v7 H7 fun v9016=>
 v16=v9016)∧
 storeV tab 32 v3 v16 H7 fun H8=>
 loadV tab 32 v3 H8 fun r1=>
 K (.tup [v12,r1,v18]) H8
theorem W26_wp (v0:AV) (H:Heap) (K:AV→Heap→Prop):wpC Try.prog tab D26 (bodyOf Try.f26) (retF tab [.tmp 2,.cell 3 32,.tmp 4] K) (nthA [v0]) H=W26 v0 H K:=by kernel_rfl
theorem W26_ok {v0:AV} {H:Heap} {K:AV→Heap→Prop} (h:W26 v0 H K):CallT Try.prog 26 [v0] H K:=
  CallT.of_wp (D:=D26) tab_ok mixed Try.func26 (c:=bodyOf Try.f26) (by kernel_rfl) rfl (by kernel_rfl) (rs:=#[.tmp 2,.cell 3 32,.tmp 4]) rfl (by decide +kernel) (by kernel_rfl) (W26_wp v0 H K) h
def D27:Info:=⟨23,fun i=>([],[]),fun i=>([],[])⟩
def W27 (v0:AV) (H:Heap) (K:AV→Heap→Prop):Prop:=
 boxV v0 H fun v1 H1=>
 fieldAddrV tab 32 v1 0 fun v3=>
 loadV tab 23 v3 H1 fun v4=>
 lenV tab 23 v4 fun v5=>
 binV tab .leq 3 v5 (AV.p (.int .i64 24)) fun v6=>
 grdV v6 true (fieldAddrV tab 32 v1 1 fun v8=>
 loadV tab 23 v8 H1 fun v9=>
 lenV tab 23 v9 fun v10=>
 CallT Try.prog 77 [v10,(AV.p (.int .i64 1)),(AV.p (.int .i64 24))] H1 fun v11 H2=>
 grdV v11 true (fieldAddrV tab 32 v1 0 fun v14=>
 loadV tab 23 v14 H2 fun v15=>
 CallT Try.prog 78 [v15,(AV.p (.int .i64 0)),(AV.p (.int .i64 7))] H2 fun v16 H3=>
 grdV v16 true (fieldAddrV tab 32 v1 1 fun v19=>
 loadV tab 23 v19 H3 fun v20=>
 CallT Try.prog 78 [v20,(AV.p (.int .i64 0)),(AV.p (.int .i64 7))] H3 fun v21 H4=>
 K v21 H4)
 (K (AV.p (.bool false)) H3))
 (K (AV.p (.bool false)) H2))
 (K (AV.p (.bool false)) H1)
theorem W27_wp (v0:AV) (H:Heap) (K:AV→Heap→Prop):wpC Try.prog tab D27 (bodyOf Try.f27) (retF tab [.tmp 2] K) (nthA [v0]) H=W27 v0 H K:=by kernel_rfl
theorem W27_ok {v0:AV} {H:Heap} {K:AV→Heap→Prop} (h:W27 v0 H K):CallT Try.prog 27 [v0] H K:=
  CallT.of_wp (D:=D27) tab_ok mixed Try.func27 (c:=bodyOf Try.f27) (by kernel_rfl) rfl (by kernel_rfl) (rs:=#[.tmp 2]) rfl (by decide +kernel) (by kernel_rfl) (W27_wp v0 H K) h
def D28:Info:=⟨45,fun i=>if i=4 then ([[],[0],[0,1],[],[],[4],[4,5],[3,4,5,6],[],[8],[8,9],[3,4,5,6,7,8,9,10],[0,1,2,3,4,5,6,7,8,9,10,11],[0,1,2,3,4,5,6,7,8,9,10,11,12]],[(0,[]),(1,[]),(2,[]),(3,[]),(4,[]),(5,[]),(6,[]),(7,[]),(8,[]),(9,[]),(10,[]),(11,[]),(12,[]),(13,[])]) else ([],[]),fun i=>([],[])⟩
def J28_0 (K:AV→Heap→Prop) (v0:AV) (v2:AV) (v4:AV) (H:Heap):Prop:=
 loadV tab 32 v4 H fun v39=>
 CallT Try.prog 63 [v39,v0] H fun v41 H5=>
 indexAddrV tab 76 v41 v2 fun v43=>
 loadV tab 4 v43 H5 fun v44=>
 K (.tup [v44,(AV.p (.bool true))]) H5
def W28 (v0:AV) (v1:AV) (v2:AV) (H:Heap) (K:AV→Heap→Prop):Prop:=
 boxV v1 H fun v4 H1=>
 CallT Try.prog 37 [v0] H1 fun v9 H2=>
 unV .not v9 fun v10=>
 grdV v10 false (loadV tab 32 v4 H2 fun v12=>
 CallT Try.prog 61 [v12] H2 fun v13 H3=>
 unV .not v13 fun v14=>
 grdV v14 false (CallT Try.prog 79 [v2] H3 fun v18 H4=>
 unV .not v18 fun v19=>
 condV v19 (K (.tup [(AV.p (.bool false)),(AV.p (.bool false))]) H4)
 (fieldAddrV tab 32 v4 0 fun v22=>
 loadV tab 23 v22 H4 fun v23=>
 lenV tab 23 v23 fun v24=>
 binV tab .geq 3 v2 v24 fun v25=>
 condV v25 (fieldAddrV tab 32 v4 0 fun v26=>
 loadV tab 23 v26 H4 fun v27=>
 lenV tab 23 v27 fun v28=>
 fieldAddrV tab 32 v4 0 fun v30=>
 loadV tab 23 v30 H4 fun v31=>
 lenV tab 23 v31 fun v32=>
 binV tab .sub 3 v2 v32 fun v33=>
 fieldAddrV tab 32 v4 1 fun v34=>
 loadV tab 23 v34 H4 fun v35=>
 lenV tab 23 v35 fun v36=>
 binV tab .rem 3 v33 v36 fun v37=>
 binV tab .add 3 v28 v37 fun v38=>
 J28_0 K v0 v38 v4 H4)
 (J28_0 K v0 v2 v4 H4)))
 (K (.tup [(AV.p (.bool false)),(AV.p (.bool false))]) H3))
 (K (.tup [(AV.p (.bool false)),(AV.p (.bool false))]) H2)
theorem W28_wp (v0:AV) (v1:AV) (v2:AV) (H:Heap) (K:AV→Heap→Prop):wpC Try.prog tab D28 (bodyOf Try.f28) (retF tab [.tmp 6,.tmp 7] K) (nthA [v0,v1,v2]) H=W28 v0 v1 v2 H K:=by kernel_rfl
theorem W28_ok {v0 v1 v2:AV} {H:Heap} {K:AV→Heap→Prop} (h:W28 v0 v1 v2 H K):CallT Try.prog 28 [v0,v1,v2] H K:=
  CallT.of_wp (D:=D28) tab_ok mixed Try.func28 (c:=bodyOf Try.f28) (by kernel_rfl) rfl (by kernel_rfl) (rs:=#[.tmp 6,.tmp 7]) rfl (by decide +kernel) (by kernel_rfl) (W28_wp v0 v1 v2 H K) h
def D29:Info:=⟨23,fun i=>([],[]),fun i=>([],[])⟩
def W29 (v0:AV) (v1:AV) (H:Heap) (K:AV→Heap→Prop):Prop:=
 CallT Try.prog 69 [v0] H fun v7 H1=>
 binV tab .neq 3 v7 (AV.p (.int .i64 1)) fun v8=>
 grdV v8 false (CallT Try.prog 37 [v1] H1 fun v11 H2=>
 unV .not v11 fun v12=>
 condV v12 (K (.tup [(AV.p .nil),(AV.p (.bool false))]) H2)
 (CallT Try.prog 80 [v1] H2 fun v15 H3=>
 buildV tab 80 [(0,v0)] fun v17=>
 buildSliceV tab 30 1 [(0,v17)] H3 (wkK fun v18 H4=>
 appendV tab 30 30 v15 v18 H4 (wkK fun v19 H5=>
 CallT Try.prog 70 [v19] H5 fun v20 H6=>
 extractV v20 0 fun v21=>
 extractV v20 1 fun v22=>
 K (.tup [v21,v22]) H6))))
 (K (.tup [(AV.p .nil),(AV.p (.bool false))]) H1)
theorem W29_wp (v0:AV) (v1:AV) (H:Heap) (K:AV→Heap→Prop):wpC Try.prog tab D29 (bodyOf Try.f29) (retF tab [.tmp 4,.tmp 5] K) (nthA [v0,v1]) H=W29 v0 v1 H K:=by kernel_rfl
theorem W29_ok {v0 v1:AV} {H:Heap} {K:AV→Heap→Prop} (h:W29 v0 v1 H K):CallT Try.prog 29 [v0,v1] H K:=
  CallT.of_wp (D:=D29) tab_ok mixed Try.func29 (c:=bodyOf Try.f29) (by kernel_rfl) rfl (by kernel_rfl) (rs:=#[.tmp 4,.tmp 5]) rfl (by decide +kernel) (by kernel_rfl) (W29_wp v0 v1 H K) h
def D30:Info:=⟨15,fun i=>([],[]),fun i=>([],[])⟩
def W30 (v0:AV) (H:Heap) (K:AV→Heap→Prop):Prop:=
 buildV tab 88 [(0,v0)] fun v7=>
 boxV v7 H fun v8 H1=>
 buildSliceV tab 23 6 [(0,(AV.p (.int .i64 3))),(1,(AV.p (.int .i64 3))),(2,(AV.p (.int .i64 4))),(3,(AV.p (.int .i64 4))),(4,(AV.p (.int .i64 5))),(5,(AV.p (.int .i64 1)))] H1 (wkK fun v10 H2=>
 CallT Try.prog 81 [v8,v10] H2 fun v11 H3=>
 CallT Try.prog 74 [v8] H3 fun v14 H4=>
 K (.tup [v11,v14]) H4)
theorem W30_wp (v0:AV) (H:Heap) (K:AV→Heap→Prop):wpC Try.prog tab D30 (bodyOf Try.f30) (retF tab [.tmp 2,.tmp 3] K) (nthA [v0]) H=W30 v0 H K:=by kernel_rfl
theorem W30_ok {v0:AV} {H:Heap} {K:AV→Heap→Prop} (h:W30 v0 H K):CallT Try.prog 30 [v0] H K:=
  CallT.of_wp (D:=D30) tab_ok mixed Try.func30 (c:=bodyOf Try.f30) (by kernel_rfl) rfl (by kernel_rfl) (rs:=#[.tmp 2,.tmp 3]) rfl (by decide +kernel) (by kernel_rfl) (W30_wp v0 H K) h
def D31:Info:=⟨24,fun i=>([],[]),fun i=>([],[])⟩
def W31 (v0:AV) (v1:AV) (H:Heap) (K:AV→Heap→Prop):Prop:=
 CallT Try.prog 72 [v0] H fun v7 H1=>
 binV tab .neq 3 v7 (AV.p (.int .i64 1)) fun v8=>
 grdV v8 false (CallT Try.prog 38 [v1] H1 fun v11 H2=>
 unV .not v11 fun v12=>
 condV v12 (K (.tup [(AV.p .nil),(AV.p (.bool false))]) H2)
 (buildSliceV tab 30 0 [] H2 (wkK fun v14 H3=>
 appendV tab 30 30 v14 v1 H3 (wkK fun v16 H4=>
 buildV tab 80 [(0,v0)] fun v18=>
 buildSliceV tab 30 1 [(0,v18)] H4 (wkK fun v19 H5=>
 appendV tab 30 30 v16 v19 H5 (wkK fun v20 H6=>
 CallT Try.prog 73 [v20] H6 fun v21 H7=>
 extractV v21 0 fun v22=>
 extractV v21 1 fun v23=>
 K (.tup [v22,v23]) H7))))))
 (K (.tup [(AV.p .nil),(AV.p (.bool false))]) H1)
theorem W31_wp (v0:AV) (v1:AV) (H:Heap) (K:AV→Heap→Prop):wpC Try.prog tab D31 (bodyOf Try.f31) (retF tab [.tmp 4,.tmp 5] K) (nthA [v0,v1]) H=W31 v0 v1 H K:=by kernel_rfl
theorem W31_ok {v0 v1:AV} {H:Heap} {K:AV→Heap→Prop} (h:W31 v0 v1 H K):CallT Try.prog 31 [v0,v1] H K:=
  CallT.of_wp (D:=D31) tab_ok mixed Try.func31 (c:=bodyOf Try.f31) (by kernel_rfl) rfl (by kernel_rfl) (rs:=#[.tmp 4,.tmp 5]) rfl (by decide +kernel) (by kernel_rfl) (W31_wp v0 v1 H K) h
def D37:Info:=⟨39,fun i=>([],[]),fun i=>if i=5 then ([15,16],[3,17]) else ([],[])⟩
def L37_0 (K:AV→Heap→Prop) (v3:AV) (v15:AV) (v16:AV) (v17:AV) (H:Heap):Prop:=LoopV (wpC Try.prog tab D37 (cAt [1,1,1,0,1,0,0] (bodyOf Try.f37))) [15,16] (PostF.block 0 (PostF.thenA (wpC Try.prog tab D37 (cAt [1,1,1,1] (bodyOf Try.f37))) (retF tab [.tmp 2] K))) [3,17] [AV.any,AV.any,AV.any,v3,AV.any,AV.any,AV.any,AV.any,AV.any,AV.any,AV.any,AV.any,AV.any,AV.any,AV.any,v15,v16,v17,AV.any,AV.any,AV.any,AV.any,AV.any,AV.any,AV.any,AV.any,AV.any,AV.any,AV.any,AV.any,AV.any,AV.any,AV.any,AV.any,AV.any,AV.any,AV.any,AV.any,AV.any] H
def B37_0 (K:AV→Heap→Prop) (N1:AV→AV→Heap→Prop) (v3:AV) (v15:AV) (v16:AV) (v17:AV) (H:Heap):Prop:=
 binV tab .lss 3 v17 v16 fun v18=>
 condV v18 (indexAddrV tab 30 v15 v17 fun v19=>
 loadV tab 80 v19 H fun v20=>
 allocV tab 80 H fun v5 H1=>
 storeV tab 80 v5 v20 H1 fun H2=>
 fieldAddrV tab 80 v5 0 fun v21=>
 loadV tab 3 v21 H2 fun v22=>
 CallT Try.prog 69 [v22] H2 fun v23 H3=>
 loadV tab 80 v5 H3 fun v24=>
 CallT Try.prog 88 [v24] H3 fun v25 H4=>
 unV .not v25 fun v26=>
 grdV v26 false (binV tab .lss 3 v3 v23 fun v30=>
 condV v30 (K (AV.p (.bool false)) H4)
 (binV tab .sub 3 (AV.p (.int .i64 1)) v23 fun v34=>
 binV tab .add 3 v3 v34 fun v35=>
 binV tab .add 3 v17 (AV.p (.int .i64 1)) fun v36=>
 N1 v35 v36 H4))
 (K (AV.p (.bool false)) H4))
 (binV tab .eql 3 v3 (AV.p (.int .i64 1)) fun v38=>
 K v38 H)
def W37 (v0:AV) (H:Heap) (K:AV→Heap→Prop):Prop:=
 lenV tab 30 v0 fun v8=>
 binV tab .lss 3 v8 (AV.p (.int .i64 1)) fun v9=>
 grdV v9 false (lenV tab 30 v0 fun v12=>
 binV tab .gtr 3 v12 (AV.p (.int .i64 16)) fun v13=>
 condV v13 (K (AV.p (.bool false)) H)
 (lenV tab 30 v0 fun v16=>
 L37_0 K (AV.p (.int .i64 0)) v0 v16 (AV.p (.int .i64 0)) H))
 (K (AV.p (.bool false)) H)
theorem W37_wp (v0:AV) (H:Heap) (K:AV→Heap→Prop):wpC Try.prog tab D37 (bodyOf Try.f37) (retF tab [.tmp 2] K) (nthA [v0]) H=W37 v0 H K:=by kernel_rfl
theorem W37_ok {v0:AV} {H:Heap} {K:AV→Heap→Prop} (h:W37 v0 H K):CallT Try.prog 37 [v0] H K:=
  CallT.of_wp (D:=D37) tab_ok mixed Try.func37 (c:=bodyOf Try.f37) (by kernel_rfl) rfl (by kernel_rfl) (rs:=#[.tmp 2]) rfl (by decide +kernel) (by kernel_rfl) (W37_wp v0 H K) h
theorem L37_0_rule {K:AV→Heap→Prop} {v3 v15 v16 v17:AV} {H:Heap} {σ:Type} (s0:σ) (f3:σ→AV) (f17:σ→AV) (TH:σ→Heap) (pre:σ→Prop) (μ:σ→Nat)
    (h0:pre s0∧AV.wk v3 (f3 s0)∧AV.wk v17 (f17 s0)∧Heap.le (TH s0) H)
    (round:∀s,pre s→B37_0 K (fun w3 w17 H'=>∃s',pre s'∧μ s' < μ s∧AV.wk w3 (f3 s')∧AV.wk w17 (f17 s')∧Heap.le (TH s') H') (f3 s) v15 v16 (f17 s) (TH s)) :
    L37_0 K v3 v15 v16 v17 H:=by
  unfold L37_0
  exact LoopV.mk s0 (fun s=>[f3 s,f17 s]) TH pre μ (fun _=>rfl) (Eq.mp (by kernel_rfl) h0) (fun s hs=>Eq.mp (by kernel_rfl) (round s hs))
def D38:Info:=⟨39,fun i=>([],[]),fun i=>if i=5 then ([11,12],[3,13]) else ([],[])⟩
def L38_0 (K:AV→Heap→Prop) (v3:AV) (v11:AV) (v12:AV) (v13:AV) (H:Heap):Prop:=LoopV (wpC Try.prog tab D38 (cAt [1,1,1,0,1,0,0] (bodyOf Try.f38))) [11,12] (PostF.block 0 (PostF.thenA (wpC Try.prog tab D38 (cAt [1,1,1,1] (bodyOf Try.f38))) (retF tab [.tmp 2] K))) [3,13] [AV.any,AV.any,AV.any,v3,AV.any,AV.any,AV.any,AV.any,AV.any,AV.any,AV.any,v11,v12,v13,AV.any,AV.any,AV.any,AV.any,AV.any,AV.any,AV.any,AV.any,AV.any,AV.any,AV.any,AV.any,AV.any,AV.any,AV.any,AV.any,AV.any,AV.any,AV.any,AV.any,AV.any,AV.any,AV.any,AV.any,AV.any] H
def B38_0 (K:AV→Heap→Prop) (N1:AV→AV→Heap→Prop) (v3:AV) (v11:AV) (v12:AV) (v13:AV) (H:Heap):Prop:=
 binV tab .lss 3 v13 v12 fun v14=>
 condV v14 (indexAddrV tab 30 v11 v13 fun v15=>
 loadV tab 80 v15 H fun v16=>
 allocV tab 80 H fun v5 H2=>
 storeV tab 80 v5 v16 H2 fun H3=>
 fieldAddrV tab 80 v5 0 fun v17=>
 loadV tab 3 v17 H3 fun v18=>
 CallT Try.prog 72 [v18] H3 fun v19 H4=>
 binV tab .lss 3 v19 (AV.p (.int .i64 0)) fun v21=>
 grdV v21 false (loadV tab 80 v5 H4 fun v23=>
 CallT Try.prog 89 [v23] H4 fun v24 H5=>
 unV .not v24 fun v25=>
 grdV v25 false (binV tab .lss 3 v3 v19 fun v30=>
 condV v30 (K (AV.p (.bool false)) H5)
 (binV tab .sub 3 (AV.p (.int .i64 1)) v19 fun v34=>
 binV tab .add 3 v3 v34 fun v35=>
 binV tab .add 3 v13 (AV.p (.int .i64 1)) fun v36=>
 N1 v35 v36 H5))
 (K (AV.p (.bool false)) H5))
 (K (AV.p (.bool false)) H4))
 (binV tab .eql 3 v3 (AV.p (.int .i64 1)) fun v38=>
 K v38 H)
def W38 (v0:AV) (H:Heap) (K:AV→Heap→Prop):Prop:=
 lenV tab 30 v0 fun v8=>
 CallT Try.prog 77 [v8,(AV.p (.int .i64 1)),(AV.p (.int .i64 16))] H fun v9 H1=>
 unV .not v9 fun v10=>
 condV v10 (K (AV.p (.bool false)) H1)
 (lenV tab 30 v0 fun v12=>
 L38_0 K (AV.p (.int .i64 0)) v0 v12 (AV.p (.int .i64 0)) H1)
theorem W38_wp (v0:AV) (H:Heap) (K:AV→Heap→Prop):wpC Try.prog tab D38 (bodyOf Try.f38) (retF tab [.tmp 2] K) (nthA [v0]) H=W38 v0 H K:=by kernel_rfl
theorem W38_ok {v0:AV} {H:Heap} {K:AV→Heap→Prop} (h:W38 v0 H K):CallT Try.prog 38 [v0] H K:=
  CallT.of_wp (D:=D38) tab_ok mixed Try.func38 (c:=bodyOf Try.f38) (by kernel_rfl) rfl (by kernel_rfl) (rs:=#[.tmp 2]) rfl (by decide +kernel) (by kernel_rfl) (W38_wp v0 H K) h
theorem L38_0_rule {K:AV→Heap→Prop} {v3 v11 v12 v13:AV} {H:Heap} {σ:Type} (s0:σ) (f3:σ→AV) (f13:σ→AV) (TH:σ→Heap) (pre:σ→Prop) (μ:σ→Nat)
    (h0:pre s0∧AV.wk v3 (f3 s0)∧AV.wk v13 (f13 s0)∧Heap.le (TH s0) H)
    (round:∀s,pre s→B38_0 K (fun w3 w13 H'=>∃s',pre s'∧μ s' < μ s∧AV.wk w3 (f3 s')∧AV.wk w13 (f13 s')∧Heap.le (TH s') H') (f3 s) v11 v12 (f13 s) (TH s)) :
    L38_0 K v3 v11 v12 v13 H:=by
  unfold L38_0
  exact LoopV.mk s0 (fun s=>[f3 s,f13 s]) TH pre μ (fun _=>rfl) (Eq.mp (by kernel_rfl) h0) (fun s hs=>Eq.mp (by kernel_rfl) (round s hs))
end Go.Proofs.Ytjdhigcefkihiaa
namespace Go.Proofs.Ytjdhigcefkihiaa
open Go Go.Sep
attribute [local irreducible] wpC headF
def D61:Info:=⟨29,fun i=>([],[]),fun i=>([],[])⟩
def W61 (v0:AV) (H:Heap) (K:AV→Heap→Prop):Prop:=
 boxV v0 H fun v1 H1=>
 fieldAddrV tab 32 v1 0 fun v3=>
 loadV tab 23 v3 H1 fun v4=>
 lenV tab 23 v4 fun v5=>
 binV tab .leq 3 v5 (AV.p (.int .i64 24)) fun v6=>
 grdV v6 true (fieldAddrV tab 32 v1 1 fun v8=>
 loadV tab 23 v8 H1 fun v9=>
 lenV tab 23 v9 fun v10=>
 binV tab .geq 3 v10 (AV.p (.int .i64 1)) fun v11=>
 grdV v11 true (fieldAddrV tab 32 v1 1 fun v14=>
 loadV tab 23 v14 H1 fun v15=>
 lenV tab 23 v15 fun v16=>
 binV tab .leq 3 v16 (AV.p (.int .i64 24)) fun v17=>
 grdV v17 true (fieldAddrV tab 32 v1 0 fun v20=>
 loadV tab 23 v20 H1 fun v21=>
 CallT Try.prog 103 [v21] H1 fun v22 H2=>
 grdV v22 true (fieldAddrV tab 32 v1 1 fun v25=>
 loadV tab 23 v25 H2 fun v26=>
 CallT Try.prog 103 [v26] H2 fun v27 H3=>
 K v27 H3)
 (K (AV.p (.bool false)) H2))
 (K (AV.p (.bool false)) H1))
 (K (AV.p (.bool false)) H1))
 (K (AV.p (.bool false)) H1)
theorem W61_wp (v0:AV) (H:Heap) (K:AV→Heap→Prop):wpC Try.prog tab D61 (bodyOf Try.f61) (retF tab [.tmp 2] K) (nthA [v0]) H=W61 v0 H K:=by kernel_rfl
theorem W61_ok {v0:AV} {H:Heap} {K:AV→Heap→Prop} (h:W61 v0 H K):CallT Try.prog 61 [v0] H K:=
  CallT.of_wp (D:=D61) tab_ok mixed Try.func61 (c:=bodyOf Try.f61) (by kernel_rfl) rfl (by kernel_rfl) (rs:=#[.tmp 2]) rfl (by decide +kernel) (by kernel_rfl) (W61_wp v0 H K) h
end Go.Proofs.Ytjdhigcefkihiaa
namespace Go.Proofs.Ytjdhigcefkihiaa
open Go Go.Sep
attribute [local irreducible] wpC headF
def D63:Info:=⟨38,fun i=>if i=6 then ([[],[],[0,1],[],[],[],[],[5,6],[5,6,7],[3,4,5,6,7,8],[3,4,5,6,7,8,9],[0,1,2,3,4,5,6,7,8,9,10],[0,1,2,3,4,5,6,7,8,9,10,11]],[(0,[]),(1,[]),(2,[]),(3,[]),(4,[]),(5,[]),(6,[]),(7,[]),(8,[3,4]),(9,[]),(10,[]),(11,[]),(12,[])]) else ([],[]),fun i=>if i=3 then ([2,10,11],[5,12]) else ([],[])⟩
def L63_0 (K:AV→Heap→Prop) (v2:AV) (v5:AV) (v10:AV) (v11:AV) (v12:AV) (H:Heap):Prop:=LoopV (wpC Try.prog tab D63 (cAt [1,1,0,1,0,0] (bodyOf Try.f63))) [2,10,11] (PostF.block 0 (PostF.thenA (wpC Try.prog tab D63 (cAt [1,1,1] (bodyOf Try.f63))) (retF tab [.tmp 4] K))) [5,12] [AV.any,AV.any,v2,AV.any,AV.any,v5,AV.any,AV.any,AV.any,AV.any,v10,v11,v12,AV.any,AV.any,AV.any,AV.any,AV.any,AV.any,AV.any,AV.any,AV.any,AV.any,AV.any,AV.any,AV.any,AV.any,AV.any,AV.any,AV.any,AV.any,AV.any,AV.any,AV.any,AV.any,AV.any,AV.any,AV.any] H
def B63_0 (K:AV→Heap→Prop) (N1:AV→AV→Heap→Prop) (v2:AV) (v5:AV) (v10:AV) (v11:AV) (v12:AV) (H:Heap):Prop:=
 binV tab .lss 3 v12 v11 fun v13=>
 condV v13 (indexAddrV tab 30 v10 v12 fun v14=>
 loadV tab 80 v14 H fun v15=>
 allocV tab 80 H fun v7 H3=>
 storeV tab 80 v7 v15 H3 fun H4=>
 lenV tab 71 v5 fun v17=>
 fieldAddrV tab 80 v7 0 fun v18=>
 loadV tab 3 v18 H4 fun v19=>
 CallT Try.prog 69 [v19] H4 fun v20 H5=>
 binV tab .sub 3 v17 v20 fun v21=>
 sliceV tab 71 v5 none (some v21) none fun v24=>
 loadV tab 32 v2 H5 fun v25=>
 loadV tab 80 v7 H5 fun v26=>
 sliceV tab 71 v5 (some v21) none none fun v29=>
 CallT Try.prog 108 [v29] H5 fun v30 H6=>
 (loadV tab 32 v2 H6 fun v9025=>
 v25=v9025)∧
 (loadV tab 80 v7 H6 fun v9026=>
 v26=v9026)∧
 CallT Try.prog 107 [v25,v26,v30] H6 fun v31 H7=>
 buildSliceV tab 71 1 [(0,v31)] H7 (wkK fun v32 H8=>
 appendV tab 71 71 v24 v32 H8 (wkK fun v33 H9=>
 binV tab .add 3 v12 (AV.p (.int .i64 1)) fun v34=>
 N1 v33 v34 H9)))
 (indexAddrV tab 71 v5 (AV.p (.int .i64 0)) fun v36=>
 loadV tab 76 v36 H fun v37=>
 K v37 H)
def W63 (v0:AV) (v1:AV) (H:Heap) (K:AV→Heap→Prop):Prop:=
 boxV v0 H fun v2 H1=>
 buildSliceV tab 71 0 [] H1 (wkK fun v9 H2=>
 lenV tab 30 v1 fun v11=>
 L63_0 K v2 v9 v1 v11 (AV.p (.int .i64 0)) H2)
theorem W63_wp (v0:AV) (v1:AV) (H:Heap) (K:AV→Heap→Prop):wpC Try.prog tab D63 (bodyOf Try.f63) (retF tab [.tmp 4] K) (nthA [v0,v1]) H=W63 v0 v1 H K:=by kernel_rfl
theorem W63_ok {v0 v1:AV} {H:Heap} {K:AV→Heap→Prop} (h:W63 v0 v1 H K):CallT Try.prog 63 [v0,v1] H K:=
  CallT.of_wp (D:=D63) tab_ok mixed Try.func63 (c:=bodyOf Try.f63) (by kernel_rfl) rfl (by kernel_rfl) (rs:=#[.tmp 4]) rfl (by decide +kernel) (by kernel_rfl) (W63_wp v0 v1 H K) h
theorem L63_0_rule {K:AV→Heap→Prop} {v2 v5 v10 v11 v12:AV} {H:Heap} {σ:Type} (s0:σ) (f5:σ→AV) (f12:σ→AV) (TH:σ→Heap) (pre:σ→Prop) (μ:σ→Nat)
    (h0:pre s0∧AV.wk v5 (f5 s0)∧AV.wk v12 (f12 s0)∧Heap.le (TH s0) H)
    (round:∀s,pre s→B63_0 K (fun w5 w12 H'=>∃s',pre s'∧μ s' < μ s∧AV.wk w5 (f5 s')∧AV.wk w12 (f12 s')∧Heap.le (TH s') H') v2 (f5 s) v10 v11 (f12 s) (TH s)) :
    L63_0 K v2 v5 v10 v11 v12 H:=by
  unfold L63_0
  exact LoopV.mk s0 (fun s=>[f5 s,f12 s]) TH pre μ (fun _=>rfl) (Eq.mp (by kernel_rfl) h0) (fun s hs=>Eq.mp (by kernel_rfl) (round s hs))
def D67:Info:=⟨20,fun i=>([],[]),fun i=>([],[])⟩
def W67 (v0:AV) (v1:AV) (H:Heap) (K:AV→Heap→Prop):Prop:=
 binV tab .leq 3 v1 (AV.p (.int .i64 1)) fun v7=>
 condV v7 (K (AV.p (.int .i64 0)) H)
 (CallT Try.prog 109 [v0] H fun v9 H1=>
 binV tab .gtr 3 v1 (AV.p (.int .i64 200)) fun v11=>
 condV v11 (binV tab .mul 3 v9 (AV.p (.int .i64 256)) fun v13=>
 CallT Try.prog 109 [v0] H1 fun v15 H2=>
 binV tab .add 3 v13 v15 fun v16=>
 binV tab .rem 3 v16 v1 fun v19=>
 K v19 H2)
 (binV tab .rem 3 v9 v1 fun v19=>
 K v19 H1))
theorem W67_wp (v0:AV) (v1:AV) (H:Heap) (K:AV→Heap→Prop):wpC Try.prog tab D67 (bodyOf Try.f67) (retF tab [.tmp 4] K) (nthA [v0,v1]) H=W67 v0 v1 H K:=by kernel_rfl
theorem W67_ok {v0 v1:AV} {H:Heap} {K:AV→Heap→Prop} (h:W67 v0 v1 H K):CallT Try.prog 67 [v0,v1] H K:=
  CallT.of_wp (D:=D67) tab_ok mixed Try.func67 (c:=bodyOf Try.f67) (by kernel_rfl) rfl (by kernel_rfl) (rs:=#[.tmp 4]) rfl (by decide +kernel) (by kernel_rfl) (W67_wp v0 v1 H K) h
def D68:Info:=⟨50,fun i=>([],[]),fun i=>([],[])⟩
def J68_0 (K:AV→Heap→Prop) (v0:AV) (v13:AV) (H:Heap):Prop:=
 condV v13 (CallT Try.prog 67 [v0,(AV.p (.int .i64 2))] H fun v15 H3=>
 buildV tab 80 [(0,(AV.p (.int .i64 2))),(1,v15)] fun v16=>
 buildSliceV tab 30 1 [(0,v16)] H3 (wkK fun v17 H4=>
 K v17 H4))
 (CallT Try.prog 67 [v0,(AV.p (.int .i64 3))] H fun v19 H5=>
 buildV tab 80 [(0,(AV.p (.int .i64 1))),(1,v19)] fun v20=>
 buildSliceV tab 30 1 [(0,v20)] H5 (wkK fun v21 H6=>
 K v21 H6))
def W68 (v0:AV) (v1:AV) (H:Heap) (K:AV→Heap→Prop):Prop:=
 binV tab .eql 3 v1 (AV.p (.int .i64 0)) fun v7=>
 grdV v7 false (CallT Try.prog 94 [v0,(AV.p (.int .i64 6))] H fun v10 H1=>
 condV v10 (CallT Try.prog 94 [v0,(AV.p (.int .i64 12))] H1 fun v13 H2=>
 J68_0 K v0 v13 H2)
 (CallT Try.prog 94 [v0,(AV.p (.int .i64 3))] H1 fun v23 H7=>
 condV v23 (binV tab .sub 3 v1 (AV.p (.int .i64 1)) fun v26=>
 CallT Try.prog 68 [v0,v26] H7 fun v27 H8=>
 buildSliceV tab 23 3 [(0,(AV.p (.int .i64 3))),(1,(AV.p (.int .i64 3))),(2,(AV.p (.int .i64 4)))] H8 (wkK fun v29 H9=>
 CallT Try.prog 81 [v0,v29] H9 fun v30 H10=>
 buildV tab 80 [(0,v30)] fun v31=>
 buildSliceV tab 30 1 [(0,v31)] H10 (wkK fun v32 H11=>
 appendV tab 30 30 v27 v32 H11 (wkK fun v33 H12=>
 K v33 H12))))
 (buildSliceV tab 23 5 [(0,(AV.p (.int .i64 5))),(1,(AV.p (.int .i64 6))),(2,(AV.p (.int .i64 7))),(3,(AV.p (.int .i64 7))),(4,(AV.p (.int .i64 8)))] H7 (wkK fun v35 H13=>
 CallT Try.prog 81 [v0,v35] H13 fun v36 H14=>
 binV tab .sub 3 v1 (AV.p (.int .i64 1)) fun v39=>
 CallT Try.prog 68 [v0,v39] H14 fun v40 H15=>
 binV tab .sub 3 v1 (AV.p (.int .i64 1)) fun v43=>
 CallT Try.prog 68 [v0,v43] H15 fun v44 H16=>
 appendV tab 30 30 v40 v44 H16 (wkK fun v45 H17=>
 buildV tab 80 [(0,v36)] fun v47=>
 buildSliceV tab 30 1 [(0,v47)] H17 (wkK fun v48 H18=>
 appendV tab 30 30 v45 v48 H18 (wkK fun v49 H19=>
 K v49 H19)))))))
 (CallT Try.prog 94 [v0,(AV.p (.int .i64 12))] H fun v13 H20=>
 J68_0 K v0 v13 H20)
theorem W68_wp (v0:AV) (v1:AV) (H:Heap) (K:AV→Heap→Prop):wpC Try.prog tab D68 (bodyOf Try.f68) (retF tab [.tmp 4] K) (nthA [v0,v1]) H=W68 v0 v1 H K:=by kernel_rfl
theorem W68_ok {v0 v1:AV} {H:Heap} {K:AV→Heap→Prop} (h:W68 v0 v1 H K):CallT Try.prog 68 [v0,v1] H K:=
  CallT.of_wp (D:=D68) tab_ok mixed Try.func68 (c:=bodyOf Try.f68) (by kernel_rfl) rfl (by kernel_rfl) (rs:=#[.tmp 4]) rfl (by decide +kernel) (by kernel_rfl) (W68_wp v0 v1 H K) h
def D69:Info:=⟨15,fun i=>([],[]),fun i=>([],[])⟩
def J69_0 (K:AV→Heap→Prop) (v3:AV) (v7:AV) (H:Heap):Prop:=
 condV v7 (K (AV.p (.int .i64 1)) H)
 (binV tab .eql 3 v3 (AV.p (.int .i64 5)) fun v11=>
 condV v11 (condV v11 (K (AV.p (.int .i64 2)) H)
 (K (AV.p (.int .i64 (-1))) H))
 (binV tab .eql 3 v3 (AV.p (.int .i64 6)) fun v12=>
 condV v12 (condV v12 (K (AV.p (.int .i64 2)) H)
 (K (AV.p (.int .i64 (-1))) H))
 (binV tab .eql 3 v3 (AV.p (.int .i64 7)) fun v13=>
 condV v13 (condV v13 (K (AV.p (.int .i64 2)) H)
 (K (AV.p (.int .i64 (-1))) H))
 (binV tab .eql 3 v3 (AV.p (.int .i64 8)) fun v14=>
 condV v14 (K (AV.p (.int .i64 2)) H)
 (K (AV.p (.int .i64 (-1))) H)))))
def J69_1 (K:AV→Heap→Prop) (v3:AV) (v4:AV) (H:Heap):Prop:=
 condV v4 (K (AV.p (.int .i64 0)) H)
 (binV tab .eql 3 v3 (AV.p (.int .i64 3)) fun v8=>
 condV v8 (J69_0 K v3 v8 H)
 (binV tab .eql 3 v3 (AV.p (.int .i64 4)) fun v9=>
 J69_0 K v3 v9 H))
def W69 (v0:AV) (H:Heap) (K:AV→Heap→Prop):Prop:=
 binV tab .eql 3 v0 (AV.p (.int .i64 1)) fun v5=>
 condV v5 (J69_1 K v0 v5 H)
 (binV tab .eql 3 v0 (AV.p (.int .i64 2)) fun v6=>
 J69_1 K v0 v6 H)
theorem W69_wp (v0:AV) (H:Heap) (K:AV→Heap→Prop):wpC Try.prog tab D69 (bodyOf Try.f69) (retF tab [.tmp 2] K) (nthA [v0]) H=W69 v0 H K:=by kernel_rfl
theorem W69_ok {v0:AV} {H:Heap} {K:AV→Heap→Prop} (h:W69 v0 H K):CallT Try.prog 69 [v0] H K:=
  CallT.of_wp (D:=D69) tab_ok mixed Try.func69 (c:=bodyOf Try.f69) (by kernel_rfl) rfl (by kernel_rfl) (rs:=#[.tmp 2]) rfl (by decide +kernel) (by kernel_rfl) (W69_wp v0 H K) h
def D70:Info:=⟨8,fun i=>([],[]),fun i=>([],[])⟩
def W70 (v0:AV) (H:Heap) (K:AV→Heap→Prop):Prop:=
 CallT Try.prog 37 [v0] H fun v5 H1=>
 unV .not v5 fun v6=>
 condV v6 (K (.tup [(AV.p .nil),(AV.p (.bool false))]) H1)
 (K (.tup [v0,(AV.p (.bool true))]) H1)
theorem W70_wp (v0:AV) (H:Heap) (K:AV→Heap→Prop):wpC Try.prog tab D70 (bodyOf Try.f70) (retF tab [.tmp 2,.tmp 3] K) (nthA [v0]) H=W70 v0 H K:=by kernel_rfl
theorem W70_ok {v0:AV} {H:Heap} {K:AV→Heap→Prop} (h:W70 v0 H K):CallT Try.prog 70 [v0] H K:=
  CallT.of_wp (D:=D70) tab_ok mixed Try.func70 (c:=bodyOf Try.f70) (by kernel_rfl) rfl (by kernel_rfl) (rs:=#[.tmp 2,.tmp 3]) rfl (by decide +kernel) (by kernel_rfl) (W70_wp v0 H K) h
def D71:Info:=⟨36,fun i=>([],[]),fun i=>if i=3 then ([0,9,10],[3,11]) else if i=11 then ([25,26],[6,27]) else ([],[])⟩
def L71_0 (K:AV→Heap→Prop) (v0:AV) (v3:AV) (v9:AV) (v10:AV) (v11:AV) (H:Heap):Prop:=LoopV (wpC Try.prog tab D71 (cAt [1,1,0,1,0,0] (bodyOf Try.f71))) [0,9,10] (PostF.block 0 (PostF.thenA (wpC Try.prog tab D71 (cAt [1,1,1] (bodyOf Try.f71))) (retF tab [.tmp 2] K))) [3,11] [v0,AV.any,AV.any,v3,AV.any,AV.any,AV.any,AV.any,AV.any,v9,v10,v11,AV.any,AV.any,AV.any,AV.any,AV.any,AV.any,AV.any,AV.any,AV.any,AV.any,AV.any,AV.any,AV.any,AV.any,AV.any,AV.any,AV.any,AV.any,AV.any,AV.any,AV.any,AV.any,AV.any,AV.any] H
def L71_1 (K:AV→Heap→Prop) (v6:AV) (v25:AV) (v26:AV) (v27:AV) (H:Heap):Prop:=LoopV (wpC Try.prog tab D71 (cAt [1,1,1,1,0,1,0,0] (bodyOf Try.f71))) [25,26] (PostF.block 2 (PostF.thenA (wpC Try.prog tab D71 (cAt [1,1,1,1,1] (bodyOf Try.f71))) (retF tab [.tmp 2] K))) [6,27] [AV.any,AV.any,AV.any,AV.any,AV.any,AV.any,v6,AV.any,AV.any,AV.any,AV.any,AV.any,AV.any,AV.any,AV.any,AV.any,AV.any,AV.any,AV.any,AV.any,AV.any,AV.any,AV.any,AV.any,AV.any,v25,v26,v27,AV.any,AV.any,AV.any,AV.any,AV.any,AV.any,AV.any,AV.any] H
def B71_1 (K:AV→Heap→Prop) (N1:AV→AV→Heap→Prop) (v6:AV) (v25:AV) (v26:AV) (v27:AV) (H:Heap):Prop:=
 binV tab .lss 3 v27 v26 fun v28=>
 condV v28 (indexAddrV tab 115 v25 v27 fun v29=>
 loadV tab 30 v29 H fun v30=>
 appendV tab 30 30 v6 v30 H (wkK fun v33 H2=>
 binV tab .add 3 v27 (AV.p (.int .i64 1)) fun v34=>
 N1 v33 v34 H2))
 (K v6 H)
def B71_0 (K:AV→Heap→Prop) (N1:AV→AV→Heap→Prop) (v0:AV) (v3:AV) (v9:AV) (v10:AV) (v11:AV) (H:Heap):Prop:=
 binV tab .lss 3 v11 v10 fun v12=>
 condV v12 (indexAddrV tab 115 v9 v11 fun v13=>
 loadV tab 30 v13 H fun v14=>
 lenV tab 30 v14 fun v17=>
 binV tab .add 3 v3 v17 fun v18=>
 binV tab .lss 3 v18 (AV.p (.int .i64 0)) fun v20=>
 condV v20 (False)
 (binV tab .add 3 v11 (AV.p (.int .i64 1)) fun v22=>
 N1 v18 v22 H))
 (CallT Try.prog 110 [(AV.p .nil),v3] H fun v24 H1=>
 lenV tab 115 v0 fun v26=>
 L71_1 K v24 v0 v26 (AV.p (.int .i64 0)) H1)
def W71 (v0:AV) (H:Heap) (K:AV→Heap→Prop):Prop:=
 lenV tab 115 v0 fun v10=>
 L71_0 K v0 (AV.p (.int .i64 0)) v0 v10 (AV.p (.int .i64 0)) H
theorem W71_wp (v0:AV) (H:Heap) (K:AV→Heap→Prop):wpC Try.prog tab D71 (bodyOf Try.f71) (retF tab [.tmp 2] K) (nthA [v0]) H=W71 v0 H K:=by kernel_rfl
theorem W71_ok {v0:AV} {H:Heap} {K:AV→Heap→Prop} (h:W71 v0 H K):CallT Try.prog 71 [v0] H K:=
  CallT.of_wp (D:=D71) tab_ok mixed Try.func71 (c:=bodyOf Try.f71) (by kernel_rfl) rfl (by kernel_rfl) (rs:=#[.tmp 2]) rfl (by decide +kernel) (by kernel_rfl) (W71_wp v0 H K) h
theorem W71_hb:HasBody Try.prog 71:=⟨_,bodyOf Try.f71,Try.func71,by kernel_rfl,rfl⟩
theorem L71_1_rule {K:AV→Heap→Prop} {v6 v25 v26 v27:AV} {H:Heap} {σ:Type} (s0:σ) (f6:σ→AV) (f27:σ→AV) (TH:σ→Heap) (pre:σ→Prop) (μ:σ→Nat)
    (h0:pre s0∧AV.wk v6 (f6 s0)∧AV.wk v27 (f27 s0)∧Heap.le (TH s0) H)
    (round:∀s,pre s→B71_1 K (fun w6 w27 H'=>∃s',pre s'∧μ s' < μ s∧AV.wk w6 (f6 s')∧AV.wk w27 (f27 s')∧Heap.le (TH s') H') (f6 s) v25 v26 (f27 s) (TH s)) :
    L71_1 K v6 v25 v26 v27 H:=by
  unfold L71_1
  exact LoopV.mk s0 (fun s=>[f6 s,f27 s]) TH pre μ (fun _=>rfl) (Eq.mp (by kernel_rfl) h0) (fun s hs=>Eq.mp (by kernel_rfl) (round s hs))
theorem L71_0_rule {K:AV→Heap→Prop} {v0 v3 v9 v10 v11:AV} {H:Heap} {σ:Type} (s0:σ) (f3:σ→AV) (f11:σ→AV) (TH:σ→Heap) (pre:σ→Prop) (μ:σ→Nat)
    (h0:pre s0∧AV.wk v3 (f3 s0)∧AV.wk v11 (f11 s0)∧Heap.le (TH s0) H)
    (round:∀s,pre s→B71_0 K (fun w3 w11 H'=>∃s',pre s'∧μ s' < μ s∧AV.wk w3 (f3 s')∧AV.wk w11 (f11 s')∧Heap.le (TH s') H') v0 (f3 s) v9 v10 (f11 s) (TH s)) :
    L71_0 K v0 v3 v9 v10 v11 H:=by
  unfold L71_0
  exact LoopV.mk s0 (fun s=>[f3 s,f11 s]) TH pre μ (fun _=>rfl) (Eq.mp (by kernel_rfl) h0) (fun s hs=>Eq.mp (by kernel_rfl) (round s hs))
def D72:Info:=⟨15,fun i=>([],[]),fun i=>([],[])⟩
def J72_0 (K:AV→Heap→Prop) (v3:AV) (v7:AV) (H:Heap):Prop:=
 condV v7 (K (AV.p (.int .i64 1)) H)
 (binV tab .eql 3 v3 (AV.p (.int .i64 5)) fun v11=>
 condV v11 (condV v11 (K (AV.p (.int .i64 2)) H)
 (K (AV.p (.int .i64 (-1))) H))
 (binV tab .eql 3 v3 (AV.p (.int .i64 6)) fun v12=>
 condV v12 (condV v12 (K (AV.p (.int .i64 2)) H)
 (K (AV.p (.int .i64 (-1))) H))
 (binV tab .eql 3 v3 (AV.p (.int .i64 7)) fun v13=>
 condV v13 (condV v13 (K (AV.p (.int .i64 2)) H)
 (K (AV.p (.int .i64 (-1))) H))
 (binV tab .eql 3 v3 (AV.p (.int .i64 8)) fun v14=>
 condV v14 (K (AV.p (.int .i64 2)) H)
 (K (AV.p (.int .i64 (-1))) H)))))
def J72_1 (K:AV→Heap→Prop) (v3:AV) (v4:AV) (H:Heap):Prop:=
 condV v4 (K (AV.p (.int .i64 0)) H)
 (binV tab .eql 3 v3 (AV.p (.int .i64 3)) fun v8=>
 condV v8 (J72_0 K v3 v8 H)
 (binV tab .eql 3 v3 (AV.p (.int .i64 4)) fun v9=>
 J72_0 K v3 v9 H))
def W72 (v0:AV) (H:Heap) (K:AV→Heap→Prop):Prop:=
 binV tab .eql 3 v0 (AV.p (.int .i64 1)) fun v5=>
 condV v5 (J72_1 K v0 v5 H)
 (binV tab .eql 3 v0 (AV.p (.int .i64 2)) fun v6=>
 J72_1 K v0 v6 H)
theorem W72_wp (v0:AV) (H:Heap) (K:AV→Heap→Prop):wpC Try.prog tab D72 (bodyOf Try.f72) (retF tab [.tmp 2] K) (nthA [v0]) H=W72 v0 H K:=by kernel_rfl
theorem W72_ok {v0:AV} {H:Heap} {K:AV→Heap→Prop} (h:W72 v0 H K):CallT Try.prog 72 [v0] H K:=
  CallT.of_wp (D:=D72) tab_ok mixed Try.func72 (c:=bodyOf Try.f72) (by kernel_rfl) rfl (by kernel_rfl) (rs:=#[.tmp 2]) rfl (by decide +kernel) (by kernel_rfl) (W72_wp v0 H K) h
def D73:Info:=⟨8,fun i=>([],[]),fun i=>([],[])⟩
def W73 (v0:AV) (H:Heap) (K:AV→Heap→Prop):Prop:=
 CallT Try.prog 38 [v0] H fun v5 H1=>
 unV .not v5 fun v6=>
 condV v6 (K (.tup [(AV.p .nil),(AV.p (.bool false))]) H1)
 (K (.tup [v0,(AV.p (.bool true))]) H1)
theorem W73_wp (v0:AV) (H:Heap) (K:AV→Heap→Prop):wpC Try.prog tab D73 (bodyOf Try.f73) (retF tab [.tmp 2,.tmp 3] K) (nthA [v0]) H=W73 v0 H K:=by kernel_rfl
theorem W73_ok {v0:AV} {H:Heap} {K:AV→Heap→Prop} (h:W73 v0 H K):CallT Try.prog 73 [v0] H K:=
  CallT.of_wp (D:=D73) tab_ok mixed Try.func73 (c:=bodyOf Try.f73) (by kernel_rfl) rfl (by kernel_rfl) (rs:=#[.tmp 2,.tmp 3]) rfl (by decide +kernel) (by kernel_rfl) (W73_wp v0 H K) h
def D74:Info:=⟨41,fun i=>([],[]),fun i=>([],[])⟩
def J74_0 (K:AV→Heap→Prop) (v0:AV) (v3:AV) (H:Heap):Prop:=
 CallT Try.prog 67 [v0,(AV.p (.int .i64 40))] H fun v20 H5=>
 binV tab .eql 3 v20 (AV.p (.int .i64 0)) fun v22=>
 condV v22 (sliceV tab 30 v3 (some (AV.p (.int .i64 1))) none none fun v24=>
 K v24 H5)
 (binV tab .eql 3 v20 (AV.p (.int .i64 1)) fun v26=>
 condV v26 (indexAddrV tab 30 v3 (AV.p (.int .i64 0)) fun v28=>
 fieldAddrV tab 80 v28 1 fun v29=>
 storeV tab 3 v29 (AV.p (.int .i64 3)) H5 fun H6=>
 K v3 H6)
 (binV tab .eql 3 v20 (AV.p (.int .i64 2)) fun v31=>
 condV v31 (lenV tab 30 v3 fun v34=>
 binV tab .sub 3 v34 (AV.p (.int .i64 1)) fun v35=>
 CallT Try.prog 67 [v0,(AV.p (.int .i64 10))] H5 fun v37 H7=>
 indexAddrV tab 30 v3 v35 fun v38=>
 fieldAddrV tab 80 v38 0 fun v39=>
 storeV tab 3 v39 v37 H7 fun H8=>
 K v3 H8)
 (K v3 H5)))
def W74 (v0:AV) (H:Heap) (K:AV→Heap→Prop):Prop:=
 CallT Try.prog 67 [v0,(AV.p (.int .i64 2))] H fun v6 H1=>
 binV tab .add 3 (AV.p (.int .i64 2)) v6 fun v7=>
 CallT Try.prog 68 [v0,v7] H1 fun v8 H2=>
 lenV tab 30 v8 fun v10=>
 binV tab .gtr 3 v10 (AV.p (.int .i64 16)) fun v11=>
 grdV v11 true (CallT Try.prog 94 [v0,(AV.p (.int .i64 10))] H2 fun v14 H3=>
 unV .not v14 fun v15=>
 condV v15 (CallT Try.prog 68 [v0,(AV.p (.int .i64 2))] H3 fun v18 H4=>
 J74_0 K v0 v18 H4)
 (J74_0 K v0 v8 H3))
 (J74_0 K v0 v8 H2)
theorem W74_wp (v0:AV) (H:Heap) (K:AV→Heap→Prop):wpC Try.prog tab D74 (bodyOf Try.f74) (retF tab [.tmp 2] K) (nthA [v0]) H=W74 v0 H K:=by kernel_rfl
theorem W74_ok {v0:AV} {H:Heap} {K:AV→Heap→Prop} (h:W74 v0 H K):CallT Try.prog 74 [v0] H K:=
  CallT.of_wp (D:=D74) tab_ok mixed Try.func74 (c:=bodyOf Try.f74) (by kernel_rfl) rfl (by kernel_rfl) (rs:=#[.tmp 2]) rfl (by decide +kernel) (by kernel_rfl) (W74_wp v0 H K) h
def D75:Info:=⟨57,fun i=>if i=12 then ([[],[0],[],[],[2,3],[0,1,2,3,4],[0,1,2,3,4,5]],[(0,[]),(1,[]),(2,[]),(3,[1]),(4,[1]),(5,[]),(6,[])]) else ([],[]),fun i=>([],[])⟩
def J75_0 (K:AV→Heap→Prop) (v0:AV) (v2:AV) (v3:AV) (H:Heap):Prop:=
 CallT Try.prog 67 [v0,(AV.p (.int .i64 40))] H fun v31 H14=>
 binV tab .eql 3 v31 (AV.p (.int .i64 0)) fun v33=>
 condV v33 (buildSliceV tab 23 3 [(0,(AV.p (.int .i64 0))),(1,(AV.p (.int .i64 24))),(2,(AV.p (.int .i64 25)))] H14 (wkK fun v36 H15=>
 CallT Try.prog 81 [v0,v36] H15 fun v37 H16=>
 CallT Try.prog 111 [v0,v37] H16 fun v38 H17=>
 fieldAddrV tab 32 v3 1 fun v39=>
 storeV tab 23 v39 v38 H17 fun H18=>
 loadV tab 32 v3 H18 fun v56=>
 storeV tab 32 v2 v56 H18 fun H20=>
 loadV tab 32 v2 H20 fun r0=>
 K r0 H20))
 (binV tab .eql 3 v31 (AV.p (.int .i64 1)) fun v41=>
 condV v41 (buildSliceV tab 23 2 [(0,(AV.p (.int .i64 24))),(1,(AV.p (.int .i64 25)))] H14 (wkK fun v44 H21=>
 CallT Try.prog 81 [v0,v44] H21 fun v45 H22=>
 CallT Try.prog 111 [v0,v45] H22 fun v46 H23=>
 fieldAddrV tab 32 v3 0 fun v47=>
 storeV tab 23 v47 v46 H23 fun H24=>
 loadV tab 32 v3 H24 fun v56=>
 storeV tab 32 v2 v56 H24 fun H25=>
 loadV tab 32 v2 H25 fun r0=>
 K r0 H25))
 (binV tab .eql 3 v31 (AV.p (.int .i64 2)) fun v49=>
 condV v49 (fieldAddrV tab 32 v3 1 fun v50=>
 loadV tab 23 v50 H14 fun v51=>
 buildSliceV tab 23 3 [(0,(AV.p (.int .i64 (-1)))),(1,(AV.p (.int .i64 7))),(2,(AV.p (.int .i64 8)))] H14 (wkK fun v53 H26=>
 (loadV tab 23 v50 H26 fun v9051=>
 v51=v9051)∧
 CallT Try.prog 81 [v0,v53] H26 fun v54 H27=>
 (loadV tab 23 v50 H27 fun v9051=>
 v51=v9051)∧
 indexAddrV tab 23 v51 (AV.p (.int .i64 0)) fun v55=>
 storeV tab 3 v55 v54 H27 fun H28=>
 loadV tab 32 v3 H28 fun v56=>
 storeV tab 32 v2 v56 H28 fun H29=>
 loadV tab 32 v2 H29 fun r0=>
 K r0 H29))
 (loadV tab 32 v3 H14 fun v56=>
 storeV tab 32 v2 v56 H14 fun H30=>
 loadV tab 32 v2 H30 fun r0=>
 K r0 H30)))
def J75_1 (K:AV→Heap→Prop) (v0:AV) (v2:AV) (v3:AV) (H:Heap):Prop:=
 CallT Try.prog 94 [v0,(AV.p (.int .i64 4))] H fun v23 H11=>
 condV v23 (fieldAddrV tab 32 v3 0 fun v24=>
 loadV tab 23 v24 H11 fun v25=>
 fieldAddrV tab 32 v3 1 fun v26=>
 loadV tab 23 v26 H11 fun v27=>
 appendV tab 23 23 v25 v27 H11 (wkK fun v28 H12=>
 fieldAddrV tab 32 v3 0 fun v29=>
 storeV tab 23 v29 v28 H12 fun H13=>
 J75_0 K v0 v2 v3 H13))
 (J75_0 K v0 v2 v3 H11)
def W75 (v0:AV) (H:Heap) (K:AV→Heap→Prop):Prop:=
 allocV tab 32 H fun v2 H1=>
 CallT Try.prog 67 [v0,(AV.p (.int .i64 6))] H1 fun v6 H2=>
 CallT Try.prog 111 [v0,v6] H2 fun v7 H3=>
 CallT Try.prog 67 [v0,(AV.p (.int .i64 5))] H3 fun v10 H4=>
 binV tab .add 3 (AV.p (.int .i64 1)) v10 fun v11=>
 CallT Try.prog 111 [v0,v11] H4 fun v12 H5=>
 buildV tab 32 [(0,v7),(1,v12)] fun v13=>
 allocV tab 32 H5 fun v3 H6=>
 storeV tab 32 v3 v13 H6 fun H7=>
 CallT Try.prog 94 [v0,(AV.p (.int .i64 4))] H7 fun v15 H8=>
 condV v15 (fieldAddrV tab 32 v3 1 fun v16=>
 loadV tab 23 v16 H8 fun v17=>
 fieldAddrV tab 32 v3 1 fun v18=>
 loadV tab 23 v18 H8 fun v19=>
 appendV tab 23 23 v17 v19 H8 (wkK fun v20 H9=>
 fieldAddrV tab 32 v3 1 fun v21=>
 storeV tab 23 v21 v20 H9 fun H10=>
 J75_1 K v0 v2 v3 H10))
 (J75_1 K v0 v2 v3 H8)
theorem W75_wp (v0:AV) (H:Heap) (K:AV→Heap→Prop):wpC Try.prog tab D75 (bodyOf Try.f75) (retF tab [.cell 2 32] K) (nthA [v0]) H=W75 v0 H K:=by kernel_rfl
theorem W75_ok {v0:AV} {H:Heap} {K:AV→Heap→Prop} (h:W75 v0 H K):CallT Try.prog 75 [v0] H K:=
  CallT.of_wp (D:=D75) tab_ok mixed Try.func75 (c:=bodyOf Try.f75) (by kernel_rfl) rfl (by kernel_rfl) (rs:=#[.cell 2 32]) rfl (by decide +kernel) (by kernel_rfl) (W75_wp v0 H K) h
def D76:Info:=⟨6,fun i=>([],[]),fun i=>([],[])⟩
def W76 (v0:AV) (H:Heap) (K:AV→Heap→Prop):Prop:=
 buildSliceV tab 23 10 [(0,(AV.p (.int .i64 (-1)))),(1,(AV.p (.int .i64 0))),(2,(AV.p (.int .i64 1))),(3,(AV.p (.int .i64 2))),(4,(AV.p (.int .i64 3))),(5,(AV.p (.int .i64 5))),(6,(AV.p (.int .i64 8))),(7,(AV.p (.int .i64 13))),(8,(AV.p (.int .i64 1000))),(9,(AV.p (.int .i64 1001)))] H (wkK fun v4 H1=>
 CallT Try.prog 81 [v0,v4] H1 fun v5 H2=>
 K v5 H2)
theorem W76_wp (v0:AV) (H:Heap) (K:AV→Heap→Prop):wpC Try.prog tab D76 (bodyOf Try.f76) (retF tab [.tmp 2] K) (nthA [v0]) H=W76 v0 H K:=by kernel_rfl
theorem W76_ok {v0:AV} {H:Heap} {K:AV→Heap→Prop} (h:W76 v0 H K):CallT Try.prog 76 [v0] H K:=
  CallT.of_wp (D:=D76) tab_ok mixed Try.func76 (c:=bodyOf Try.f76) (by kernel_rfl) rfl (by kernel_rfl) (rs:=#[.tmp 2]) rfl (by decide +kernel) (by kernel_rfl) (W76_wp v0 H K) h
def D77:Info:=⟨15,fun i=>([],[]),fun i=>([],[])⟩
def W77 (v0:AV) (v1:AV) (v2:AV) (H:Heap) (K:AV→Heap→Prop):Prop:=
 binV tab .geq 3 v0 v1 fun v9=>
 grdV v9 true (binV tab .leq 3 v0 v2 fun v13=>
 K v13 H)
 (K (AV.p (.bool false)) H)
theorem W77_wp (v0:AV) (v1:AV) (v2:AV) (H:Heap) (K:AV→Heap→Prop):wpC Try.prog tab D77 (bodyOf Try.f77) (retF tab [.tmp 6] K) (nthA [v0,v1,v2]) H=W77 v0 v1 v2 H K:=by kernel_rfl
theorem W77_ok {v0 v1 v2:AV} {H:Heap} {K:AV→Heap→Prop} (h:W77 v0 v1 v2 H K):CallT Try.prog 77 [v0,v1,v2] H K:=
  CallT.of_wp (D:=D77) tab_ok mixed Try.func77 (c:=bodyOf Try.f77) (by kernel_rfl) rfl (by kernel_rfl) (rs:=#[.tmp 6]) rfl (by decide +kernel) (by kernel_rfl) (W77_wp v0 v1 v2 H K) h
def D78:Info:=⟨21,fun i=>([],[]),fun i=>if i=2 then ([1,2,9,10],[11]) else ([],[])⟩
def L78_0 (K:AV→Heap→Prop) (v1:AV) (v2:AV) (v9:AV) (v10:AV) (v11:AV) (H:Heap):Prop:=LoopV (wpC Try.prog tab D78 (cAt [1,0,1,0,0] (bodyOf Try.f78))) [1,2,9,10] (PostF.block 0 (PostF.thenA (wpC Try.prog tab D78 (cAt [1,1] (bodyOf Try.f78))) (retF tab [.tmp 6] K))) [11] [AV.any,v1,v2,AV.any,AV.any,AV.any,AV.any,AV.any,AV.any,v9,v10,v11,AV.any,AV.any,AV.any,AV.any,AV.any,AV.any,AV.any,AV.any,AV.any] H
def B78_0 (K:AV→Heap→Prop) (N1:AV→Heap→Prop) (v1:AV) (v2:AV) (v9:AV) (v10:AV) (v11:AV) (H:Heap):Prop:=
 binV tab .lss 3 v11 v10 fun v12=>
 condV v12 (indexAddrV tab 23 v9 v11 fun v13=>
 loadV tab 3 v13 H fun v14=>
 CallT Try.prog 77 [v14,v1,v2] H fun v18 H1=>
 unV .not v18 fun v19=>
 condV v19 (K (AV.p (.bool false)) H1)
 (binV tab .add 3 v11 (AV.p (.int .i64 1)) fun v20=>
 N1 v20 H1))
 (K (AV.p (.bool true)) H)
def W78 (v0:AV) (v1:AV) (v2:AV) (H:Heap) (K:AV→Heap→Prop):Prop:=
 lenV tab 23 v0 fun v10=>
 L78_0 K v1 v2 v0 v10 (AV.p (.int .i64 0)) H
theorem W78_wp (v0:AV) (v1:AV) (v2:AV) (H:Heap) (K:AV→Heap→Prop):wpC Try.prog tab D78 (bodyOf Try.f78) (retF tab [.tmp 6] K) (nthA [v0,v1,v2]) H=W78 v0 v1 v2 H K:=by kernel_rfl
theorem W78_ok {v0 v1 v2:AV} {H:Heap} {K:AV→Heap→Prop} (h:W78 v0 v1 v2 H K):CallT Try.prog 78 [v0,v1,v2] H K:=
  CallT.of_wp (D:=D78) tab_ok mixed Try.func78 (c:=bodyOf Try.f78) (by kernel_rfl) rfl (by kernel_rfl) (rs:=#[.tmp 6]) rfl (by decide +kernel) (by kernel_rfl) (W78_wp v0 v1 v2 H K) h
theorem L78_0_rule {K:AV→Heap→Prop} {v1 v2 v9 v10 v11:AV} {H:Heap} {σ:Type} (s0:σ) (f11:σ→AV) (TH:σ→Heap) (pre:σ→Prop) (μ:σ→Nat)
    (h0:pre s0∧AV.wk v11 (f11 s0)∧Heap.le (TH s0) H)
    (round:∀s,pre s→B78_0 K (fun w11 H'=>∃s',pre s'∧μ s' < μ s∧AV.wk w11 (f11 s')∧Heap.le (TH s') H') v1 v2 v9 v10 (f11 s) (TH s)) :
    L78_0 K v1 v2 v9 v10 v11 H:=by
  unfold L78_0
  exact LoopV.mk s0 (fun s=>[f11 s]) TH pre μ (fun _=>rfl) (Eq.mp (by kernel_rfl) h0) (fun s hs=>Eq.mp (by kernel_rfl) (round s hs))
def D79:Info:=⟨9,fun i=>([],[]),fun i=>([],[])⟩
def W79 (v0:AV) (H:Heap) (K:AV→Heap→Prop):Prop:=
 binV tab .geq 3 v0 (AV.p (.int .i64 0)) fun v4=>
 grdV v4 true (binV tab .leq 3 v0 (AV.p (.int .i64 1000)) fun v7=>
 K v7 H)
 (K (AV.p (.bool false)) H)
theorem W79_wp (v0:AV) (H:Heap) (K:AV→Heap→Prop):wpC Try.prog tab D79 (bodyOf Try.f79) (retF tab [.tmp 2] K) (nthA [v0]) H=W79 v0 H K:=by kernel_rfl
theorem W79_ok {v0:AV} {H:Heap} {K:AV→Heap→Prop} (h:W79 v0 H K):CallT Try.prog 79 [v0] H K:=
  CallT.of_wp (D:=D79) tab_ok mixed Try.func79 (c:=bodyOf Try.f79) (by kernel_rfl) rfl (by kernel_rfl) (rs:=#[.tmp 2]) rfl (by decide +kernel) (by kernel_rfl) (W79_wp v0 H K) h
def D80:Info:=⟨8,fun i=>([],[]),fun i=>([],[])⟩
def W80 (v0:AV) (H:Heap) (K:AV→Heap→Prop):Prop:=
 binV tab .eql 30 v0 (AV.p .nil) fun v4=>
 condV v4 (K (AV.p .nil) H)
 (buildSliceV tab 30 0 [] H (wkK fun v5 H1=>
 appendV tab 30 30 v5 v0 H1 (wkK fun v7 H2=>
 K v7 H2)))
theorem W80_wp (v0:AV) (H:Heap) (K:AV→Heap→Prop):wpC Try.prog tab D80 (bodyOf Try.f80) (retF tab [.tmp 2] K) (nthA [v0]) H=W80 v0 H K:=by kernel_rfl
theorem W80_ok {v0:AV} {H:Heap} {K:AV→Heap→Prop} (h:W80 v0 H K):CallT Try.prog 80 [v0] H K:=
  CallT.of_wp (D:=D80) tab_ok mixed Try.func80 (c:=bodyOf Try.f80) (by kernel_rfl) rfl (by kernel_rfl) (rs:=#[.tmp 2]) rfl (by decide +kernel) (by kernel_rfl) (W80_wp v0 H K) h
theorem W80_hb:HasBody Try.prog 80:=⟨_,bodyOf Try.f80,Try.func80,by kernel_rfl,rfl⟩
def D81:Info:=⟨12,fun i=>([],[]),fun i=>([],[])⟩
def W81 (v0:AV) (v1:AV) (H:Heap) (K:AV→Heap→Prop):Prop:=
 lenV tab 23 v1 fun v8=>
 CallT Try.prog 67 [v0,v8] H fun v9 H1=>
 indexAddrV tab 23 v1 v9 fun v10=>
 loadV tab 3 v10 H1 fun v11=>
 K v11 H1
theorem W81_wp (v0:AV) (v1:AV) (H:Heap) (K:AV→Heap→Prop):wpC Try.prog tab D81 (bodyOf Try.f81) (retF tab [.tmp 4] K) (nthA [v0,v1]) H=W81 v0 v1 H K:=by kernel_rfl
theorem W81_ok {v0 v1:AV} {H:Heap} {K:AV→Heap→Prop} (h:W81 v0 v1 H K):CallT Try.prog 81 [v0,v1] H K:=
  CallT.of_wp (D:=D81) tab_ok mixed Try.func81 (c:=bodyOf Try.f81) (by kernel_rfl) rfl (by kernel_rfl) (rs:=#[.tmp 4]) rfl (by decide +kernel) (by kernel_rfl) (W81_wp v0 v1 H K) h
end Go.Proofs.Ytjdhigcefkihiaa
