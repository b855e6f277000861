/- Texts laid together: Lr0 Tab W0 W1 W2. -/
import Derived.Test.YtjdhigcefkihiaaPc2
import Derived.Test.YtjdhigcefkihiaaProg
import Derived.KernelRfl
set_option linter.unusedVariables false
set_option linter.unusedSimpArgs false
open Nat renaming reduceAdd→ν1,reduceLeDiff→ν2,reduceLT→ν3,reduceMul→ν4,reduceSub→ν5
open Int renaming reduceToNat→ι1,reduceSub→ι2,reduceAdd→ι3,reduceNeg→ι4
open Array renaming toList→ι5
open Ne renaming symm→ν6
open List renaming forall_mem_cons→ν7
namespace Go.Sep
open Go Go.RowKit
theorem args_cons {P:Program} {t:TypeId} {ts:List TypeId} {avs:List AV} (h:ArgsT P (t::ts) avs):∃v vs,avs=v::vs∧ArgT P t v∧ArgsT P ts vs:=by
  cases h with
  | cons h r=>exact ⟨_,_,rfl,h,r⟩
theorem args_nil {P:Program} {avs:List AV} (h:ArgsT P [] avs):avs=[]:=by cases h;rfl
end Go.Sep
namespace Go.Proofs.Ytjdhigcefkihiaa
open Go Go.Sep
def td1:TD:=⟨.func,1,8,[.nilfn]⟩
def td2:TD:=⟨.int .i64,1,8,[(.p (.int .i64 0))]⟩
def td3:TD:=⟨.int .i64,1,8,[(.p (.int .i64 0))]⟩
def td4:TD:=⟨.bool,1,1,[(.p (.bool false))]⟩
def td5:TD:=⟨.int .u8,1,1,[(.p (.int .u8 0))]⟩
def td6:TD:=⟨.int .u8,1,1,[(.p (.int .u8 0))]⟩
def td9:TD:=⟨.str,1,16,[(.p (.str ⟨#[]⟩))]⟩
def td10:TD:=⟨.str,1,16,[(.p (.str ⟨#[]⟩))]⟩
def td11:TD:=⟨.str,1,16,[(.p (.str ⟨#[]⟩))]⟩
def td12:TD:=⟨.int .u64,1,8,[(.p (.int .u64 0))]⟩
def td15:TD:=⟨.ptr 157,1,8,[.nilp]⟩
def td16:TD:=⟨.ptr 160,1,8,[.nilp]⟩
def td17:TD:=⟨.ptr 168,1,8,[.nilp]⟩
def td21:TD:=⟨.int .i32,1,4,[(.p (.int .i32 0))]⟩
def td22:TD:=⟨.slice 82,1,24,[(.p .nil)]⟩
def td23:TD:=⟨.slice 3,1,24,[(.p .nil)]⟩
def td24:TD:=⟨.struct [(0,23),(1,23)],2,48,[(.p .nil),(.p .nil)]⟩
def td25:TD:=⟨.struct [(0,23),(1,23)],2,48,[(.p .nil),(.p .nil)]⟩
def td26:TD:=⟨.func,1,8,[.nilfn]⟩
def td27:TD:=⟨.func,1,8,[.nilfn]⟩
def td29:TD:=⟨.func,1,8,[.nilfn]⟩
def td30:TD:=⟨.slice 80,1,24,[(.p .nil)]⟩
def td31:TD:=⟨.func,1,8,[.nilfn]⟩
def td32:TD:=⟨.struct [(0,23),(1,23)],2,48,[(.p .nil),(.p .nil)]⟩
def td33:TD:=⟨.func,1,8,[.nilfn]⟩
def td34:TD:=⟨.func,1,8,[.nilfn]⟩
def td35:TD:=⟨.func,1,8,[.nilfn]⟩
def td36:TD:=⟨.func,1,8,[.nilfn]⟩
def td37:TD:=⟨.func,1,8,[.nilfn]⟩
def td38:TD:=⟨.func,1,8,[.nilfn]⟩
def td39:TD:=⟨.func,1,8,[.nilfn]⟩
def td40:TD:=⟨.func,1,8,[.nilfn]⟩
def td41:TD:=⟨.slice 5,1,24,[(.p .nil)]⟩
def td42:TD:=⟨.func,1,8,[.nilfn]⟩
def td44:TD:=⟨.func,1,8,[.nilfn]⟩
def td46:TD:=⟨.func,1,8,[.nilfn]⟩
def td48:TD:=⟨.func,1,8,[.nilfn]⟩
def td49:TD:=⟨.func,1,8,[.nilfn]⟩
def td51:TD:=⟨.func,1,8,[.nilfn]⟩
def td52:TD:=⟨.func,1,8,[.nilfn]⟩
def td54:TD:=⟨.func,1,8,[.nilfn]⟩
def td56:TD:=⟨.func,1,8,[.nilfn]⟩
def td57:TD:=⟨.func,1,8,[.nilfn]⟩
def td59:TD:=⟨.func,1,8,[.nilfn]⟩
def td60:TD:=⟨.func,1,8,[.nilfn]⟩
def td61:TD:=⟨.func,1,8,[.nilfn]⟩
def td62:TD:=⟨.func,1,8,[.nilfn]⟩
def td63:TD:=⟨.func,1,8,[.nilfn]⟩
def td65:TD:=⟨.func,1,8,[.nilfn]⟩
def td66:TD:=⟨.func,1,8,[.nilfn]⟩
def td68:TD:=⟨.func,1,8,[.nilfn]⟩
def td70:TD:=⟨.func,1,8,[.nilfn]⟩
def td71:TD:=⟨.slice 76,1,24,[(.p .nil)]⟩
def td72:TD:=⟨.func,1,8,[.nilfn]⟩
def td73:TD:=⟨.func,1,8,[.nilfn]⟩
def td74:TD:=⟨.int .u64,1,8,[(.p (.int .u64 0))]⟩
def td75:TD:=⟨.func,1,8,[.nilfn]⟩
def td76:TD:=⟨.slice 4,1,24,[(.p .nil)]⟩
def td77:TD:=⟨.int .u64,1,8,[(.p (.int .u64 0))]⟩
def td78:TD:=⟨.func,1,8,[.nilfn]⟩
def td79:TD:=⟨.struct [(0,3),(1,3)],2,16,[(.p (.int .i64 0)),(.p (.int .i64 0))]⟩
def td80:TD:=⟨.struct [(0,3),(1,3)],2,16,[(.p (.int .i64 0)),(.p (.int .i64 0))]⟩
def td81:TD:=⟨.func,1,8,[.nilfn]⟩
def td82:TD:=⟨.struct [(0,3),(1,3)],2,16,[(.p (.int .i64 0)),(.p (.int .i64 0))]⟩
def td83:TD:=⟨.func,1,8,[.nilfn]⟩
def td84:TD:=⟨.func,1,8,[.nilfn]⟩
def td85:TD:=⟨.func,1,8,[.nilfn]⟩
def td86:TD:=⟨.ptr 88,1,8,[.nilp]⟩
def td87:TD:=⟨.struct [(0,41),(1,3),(2,74)],3,40,[(.p .nil),(.p (.int .i64 0)),(.p (.int .u64 0))]⟩
def td88:TD:=⟨.struct [(0,41),(1,3),(2,74)],3,40,[(.p .nil),(.p (.int .i64 0)),(.p (.int .u64 0))]⟩
def td89:TD:=⟨.func,1,8,[.nilfn]⟩
def td90:TD:=⟨.func,1,8,[.nilfn]⟩
def td91:TD:=⟨.func,1,8,[.nilfn]⟩
def td92:TD:=⟨.func,1,8,[.nilfn]⟩
def td93:TD:=⟨.func,1,8,[.nilfn]⟩
def td94:TD:=⟨.func,1,8,[.nilfn]⟩
def td95:TD:=⟨.func,1,8,[.nilfn]⟩
def td96:TD:=⟨.func,1,8,[.nilfn]⟩
def td97:TD:=⟨.func,1,8,[.nilfn]⟩
def td98:TD:=⟨.func,1,8,[.nilfn]⟩
def td99:TD:=⟨.func,1,8,[.nilfn]⟩
def td100:TD:=⟨.func,1,8,[.nilfn]⟩
def td101:TD:=⟨.func,1,8,[.nilfn]⟩
def td102:TD:=⟨.func,1,8,[.nilfn]⟩
def td103:TD:=⟨.func,1,8,[.nilfn]⟩
def td104:TD:=⟨.func,1,8,[.nilfn]⟩
def td105:TD:=⟨.func,1,8,[.nilfn]⟩
def td106:TD:=⟨.func,1,8,[.nilfn]⟩
def td107:TD:=⟨.func,1,8,[.nilfn]⟩
def td108:TD:=⟨.func,1,8,[.nilfn]⟩
def td109:TD:=⟨.func,1,8,[.nilfn]⟩
def td110:TD:=⟨.slice 23,1,24,[(.p .nil)]⟩
def td111:TD:=⟨.func,1,8,[.nilfn]⟩
def td112:TD:=⟨.func,1,8,[.nilfn]⟩
def td113:TD:=⟨.func,1,8,[.nilfn]⟩
def td114:TD:=⟨.func,1,8,[.nilfn]⟩
def td115:TD:=⟨.slice 30,1,24,[(.p .nil)]⟩
def td116:TD:=⟨.func,1,8,[.nilfn]⟩
def td117:TD:=⟨.func,1,8,[.nilfn]⟩
def td118:TD:=⟨.func,1,8,[.nilfn]⟩
def td119:TD:=⟨.func,1,8,[.nilfn]⟩
def td120:TD:=⟨.func,1,8,[.nilfn]⟩
def td121:TD:=⟨.func,1,8,[.nilfn]⟩
def td122:TD:=⟨.func,1,8,[.nilfn]⟩
def td123:TD:=⟨.func,1,8,[.nilfn]⟩
def td124:TD:=⟨.func,1,8,[.nilfn]⟩
def td125:TD:=⟨.func,1,8,[.nilfn]⟩
def td126:TD:=⟨.func,1,8,[.nilfn]⟩
def td127:TD:=⟨.int .i64,1,8,[(.p (.int .i64 0))]⟩
def td129:TD:=⟨.func,1,8,[.nilfn]⟩
def td130:TD:=⟨.func,1,8,[.nilfn]⟩
def td131:TD:=⟨.func,1,8,[.nilfn]⟩
def td132:TD:=⟨.func,1,8,[.nilfn]⟩
def td133:TD:=⟨.func,1,8,[.nilfn]⟩
def td134:TD:=⟨.int .u32,1,4,[(.p (.int .u32 0))]⟩
def td135:TD:=⟨.func,1,8,[.nilfn]⟩
def td136:TD:=⟨.func,1,8,[.nilfn]⟩
def td137:TD:=⟨.func,1,8,[.nilfn]⟩
def td138:TD:=⟨.func,1,8,[.nilfn]⟩
def td139:TD:=⟨.func,1,8,[.nilfn]⟩
def td140:TD:=⟨.int .u64,1,8,[(.p (.int .u64 0))]⟩
def td141:TD:=⟨.func,1,8,[.nilfn]⟩
def td142:TD:=⟨.func,1,8,[.nilfn]⟩
def td143:TD:=⟨.func,1,8,[.nilfn]⟩
def td144:TD:=⟨.ptr 3,1,8,[.nilp]⟩
def td145:TD:=⟨.func,1,8,[.nilfn]⟩
def td147:TD:=⟨.func,1,8,[.nilfn]⟩
def td148:TD:=⟨.ptr 140,1,8,[.nilp]⟩
def td150:TD:=⟨.func,1,8,[.nilfn]⟩
def td152:TD:=⟨.func,1,8,[.nilfn]⟩
def td154:TD:=⟨.func,1,8,[.nilfn]⟩
def td155:TD:=⟨.func,1,8,[.nilfn]⟩
def td161:TD:=⟨.int .u8,1,1,[(.p (.int .u8 0))]⟩
def td162:TD:=⟨.int .u8,1,1,[(.p (.int .u8 0))]⟩
def td163:TD:=⟨.func,1,8,[.nilfn]⟩
def td164:TD:=⟨.ptr 5,1,8,[.nilp]⟩
def td165:TD:=⟨.int .i32,1,4,[(.p (.int .i32 0))]⟩
def td166:TD:=⟨.int .i32,1,4,[(.p (.int .i32 0))]⟩
def tabL:List (Nat×TD):=[(1,td1),(2,td2),(3,td3),(4,td4),(5,td5),(6,td6),(9,td9),(10,td10),(11,td11),(12,td12),(15,td15),(16,td16),(17,td17),(21,td21),(22,td22),(23,td23),(24,td24),(25,td25),(26,td26),(27,td27),(29,td29),(30,td30),(31,td31),(32,td32),(33,td33),(34,td34),(35,td35),(36,td36),(37,td37),(38,td38),(39,td39),(40,td40),(41,td41),(42,td42),(44,td44),(46,td46),(48,td48),(49,td49),(51,td51),(52,td52),(54,td54),(56,td56),(57,td57),(59,td59),(60,td60),(61,td61),(62,td62),(63,td63),(65,td65),(66,td66),(68,td68),(70,td70),(71,td71),(72,td72),(73,td73),(74,td74),(75,td75),(76,td76),(77,td77),(78,td78),(79,td79),(80,td80),(81,td81),(82,td82),(83,td83),(84,td84),(85,td85),(86,td86),(87,td87),(88,td88),(89,td89),(90,td90),(91,td91),(92,td92),(93,td93),(94,td94),(95,td95),(96,td96),(97,td97),(98,td98),(99,td99),(100,td100),(101,td101),(102,td102),(103,td103),(104,td104),(105,td105),(106,td106),(107,td107),(108,td108),(109,td109),(110,td110),(111,td111),(112,td112),(113,td113),(114,td114),(115,td115),(116,td116),(117,td117),(118,td118),(119,td119),(120,td120),(121,td121),(122,td122),(123,td123),(124,td124),(125,td125),(126,td126),(127,td127),(129,td129),(130,td130),(131,td131),(132,td132),(133,td133),(134,td134),(135,td135),(136,td136),(137,td137),(138,td138),(139,td139),(140,td140),(141,td141),(142,td142),(143,td143),(144,td144),(145,td145),(147,td147),(148,td148),(150,td150),(152,td152),(154,td154),(155,td155),(161,td161),(162,td162),(163,td163),(164,td164),(165,td165),(166,td166)]
def tab:Tab:=fun t=>(tabL.find? (fun p=>p.1==t)).map (·.2)
theorem tab_1:tab 1=some ⟨.func,1,8,[.nilfn]⟩:=rfl
theorem tab_2:tab 2=some ⟨.int .i64,1,8,[(.p (.int .i64 0))]⟩:=rfl
theorem tab_3:tab 3=some ⟨.int .i64,1,8,[(.p (.int .i64 0))]⟩:=rfl
theorem tab_4:tab 4=some ⟨.bool,1,1,[(.p (.bool false))]⟩:=rfl
theorem tab_5:tab 5=some ⟨.int .u8,1,1,[(.p (.int .u8 0))]⟩:=rfl
theorem tab_6:tab 6=some ⟨.int .u8,1,1,[(.p (.int .u8 0))]⟩:=rfl
theorem tab_9:tab 9=some ⟨.str,1,16,[(.p (.str ⟨#[]⟩))]⟩:=rfl
theorem tab_10:tab 10=some ⟨.str,1,16,[(.p (.str ⟨#[]⟩))]⟩:=rfl
theorem tab_11:tab 11=some ⟨.str,1,16,[(.p (.str ⟨#[]⟩))]⟩:=rfl
theorem tab_12:tab 12=some ⟨.int .u64,1,8,[(.p (.int .u64 0))]⟩:=rfl
theorem tab_15:tab 15=some ⟨.ptr 157,1,8,[.nilp]⟩:=rfl
theorem tab_16:tab 16=some ⟨.ptr 160,1,8,[.nilp]⟩:=rfl
theorem tab_17:tab 17=some ⟨.ptr 168,1,8,[.nilp]⟩:=rfl
theorem tab_21:tab 21=some ⟨.int .i32,1,4,[(.p (.int .i32 0))]⟩:=rfl
theorem tab_22:tab 22=some ⟨.slice 82,1,24,[(.p .nil)]⟩:=rfl
theorem tab_23:tab 23=some ⟨.slice 3,1,24,[(.p .nil)]⟩:=rfl
theorem tab_24:tab 24=some ⟨.struct [(0,23),(1,23)],2,48,[(.p .nil),(.p .nil)]⟩:=rfl
theorem tab_25:tab 25=some ⟨.struct [(0,23),(1,23)],2,48,[(.p .nil),(.p .nil)]⟩:=rfl
theorem tab_26:tab 26=some ⟨.func,1,8,[.nilfn]⟩:=rfl
theorem tab_27:tab 27=some ⟨.func,1,8,[.nilfn]⟩:=rfl
theorem tab_29:tab 29=some ⟨.func,1,8,[.nilfn]⟩:=rfl
theorem tab_30:tab 30=some ⟨.slice 80,1,24,[(.p .nil)]⟩:=rfl
theorem tab_31:tab 31=some ⟨.func,1,8,[.nilfn]⟩:=rfl
theorem tab_32:tab 32=some ⟨.struct [(0,23),(1,23)],2,48,[(.p .nil),(.p .nil)]⟩:=rfl
theorem tab_33:tab 33=some ⟨.func,1,8,[.nilfn]⟩:=rfl
theorem tab_34:tab 34=some ⟨.func,1,8,[.nilfn]⟩:=rfl
theorem tab_35:tab 35=some ⟨.func,1,8,[.nilfn]⟩:=rfl
theorem tab_36:tab 36=some ⟨.func,1,8,[.nilfn]⟩:=rfl
theorem tab_37:tab 37=some ⟨.func,1,8,[.nilfn]⟩:=rfl
theorem tab_38:tab 38=some ⟨.func,1,8,[.nilfn]⟩:=rfl
theorem tab_39:tab 39=some ⟨.func,1,8,[.nilfn]⟩:=rfl
theorem tab_40:tab 40=some ⟨.func,1,8,[.nilfn]⟩:=rfl
theorem tab_41:tab 41=some ⟨.slice 5,1,24,[(.p .nil)]⟩:=rfl
theorem tab_42:tab 42=some ⟨.func,1,8,[.nilfn]⟩:=rfl
theorem tab_44:tab 44=some ⟨.func,1,8,[.nilfn]⟩:=rfl
theorem tab_46:tab 46=some ⟨.func,1,8,[.nilfn]⟩:=rfl
theorem tab_48:tab 48=some ⟨.func,1,8,[.nilfn]⟩:=rfl
theorem tab_49:tab 49=some ⟨.func,1,8,[.nilfn]⟩:=rfl
theorem tab_51:tab 51=some ⟨.func,1,8,[.nilfn]⟩:=rfl
theorem tab_52:tab 52=some ⟨.func,1,8,[.nilfn]⟩:=rfl
theorem tab_54:tab 54=some ⟨.func,1,8,[.nilfn]⟩:=rfl
theorem tab_56:tab 56=some ⟨.func,1,8,[.nilfn]⟩:=rfl
theorem tab_57:tab 57=some ⟨.func,1,8,[.nilfn]⟩:=rfl
theorem tab_59:tab 59=some ⟨.func,1,8,[.nilfn]⟩:=rfl
theorem tab_60:tab 60=some ⟨.func,1,8,[.nilfn]⟩:=rfl
theorem tab_61:tab 61=some ⟨.func,1,8,[.nilfn]⟩:=rfl
theorem tab_62:tab 62=some ⟨.func,1,8,[.nilfn]⟩:=rfl
theorem tab_63:tab 63=some ⟨.func,1,8,[.nilfn]⟩:=rfl
theorem tab_65:tab 65=some ⟨.func,1,8,[.nilfn]⟩:=rfl
theorem tab_66:tab 66=some ⟨.func,1,8,[.nilfn]⟩:=rfl
theorem tab_68:tab 68=some ⟨.func,1,8,[.nilfn]⟩:=rfl
theorem tab_70:tab 70=some ⟨.func,1,8,[.nilfn]⟩:=rfl
theorem tab_71:tab 71=some ⟨.slice 76,1,24,[(.p .nil)]⟩:=rfl
theorem tab_72:tab 72=some ⟨.func,1,8,[.nilfn]⟩:=rfl
theorem tab_73:tab 73=some ⟨.func,1,8,[.nilfn]⟩:=rfl
theorem tab_74:tab 74=some ⟨.int .u64,1,8,[(.p (.int .u64 0))]⟩:=rfl
theorem tab_75:tab 75=some ⟨.func,1,8,[.nilfn]⟩:=rfl
theorem tab_76:tab 76=some ⟨.slice 4,1,24,[(.p .nil)]⟩:=rfl
theorem tab_77:tab 77=some ⟨.int .u64,1,8,[(.p (.int .u64 0))]⟩:=rfl
theorem tab_78:tab 78=some ⟨.func,1,8,[.nilfn]⟩:=rfl
theorem tab_79:tab 79=some ⟨.struct [(0,3),(1,3)],2,16,[(.p (.int .i64 0)),(.p (.int .i64 0))]⟩:=rfl
theorem tab_80:tab 80=some ⟨.struct [(0,3),(1,3)],2,16,[(.p (.int .i64 0)),(.p (.int .i64 0))]⟩:=rfl
theorem tab_81:tab 81=some ⟨.func,1,8,[.nilfn]⟩:=rfl
theorem tab_82:tab 82=some ⟨.struct [(0,3),(1,3)],2,16,[(.p (.int .i64 0)),(.p (.int .i64 0))]⟩:=rfl
theorem tab_83:tab 83=some ⟨.func,1,8,[.nilfn]⟩:=rfl
theorem tab_84:tab 84=some ⟨.func,1,8,[.nilfn]⟩:=rfl
theorem tab_85:tab 85=some ⟨.func,1,8,[.nilfn]⟩:=rfl
theorem tab_86:tab 86=some ⟨.ptr 88,1,8,[.nilp]⟩:=rfl
theorem tab_87:tab 87=some ⟨.struct [(0,41),(1,3),(2,74)],3,40,[(.p .nil),(.p (.int .i64 0)),(.p (.int .u64 0))]⟩:=rfl
theorem tab_88:tab 88=some ⟨.struct [(0,41),(1,3),(2,74)],3,40,[(.p .nil),(.p (.int .i64 0)),(.p (.int .u64 0))]⟩:=rfl
theorem tab_89:tab 89=some ⟨.func,1,8,[.nilfn]⟩:=rfl
theorem tab_90:tab 90=some ⟨.func,1,8,[.nilfn]⟩:=rfl
theorem tab_91:tab 91=some ⟨.func,1,8,[.nilfn]⟩:=rfl
theorem tab_92:tab 92=some ⟨.func,1,8,[.nilfn]⟩:=rfl
theorem tab_93:tab 93=some ⟨.func,1,8,[.nilfn]⟩:=rfl
theorem tab_94:tab 94=some ⟨.func,1,8,[.nilfn]⟩:=rfl
theorem tab_95:tab 95=some ⟨.func,1,8,[.nilfn]⟩:=rfl
theorem tab_96:tab 96=some ⟨.func,1,8,[.nilfn]⟩:=rfl
theorem tab_97:tab 97=some ⟨.func,1,8,[.nilfn]⟩:=rfl
theorem tab_98:tab 98=some ⟨.func,1,8,[.nilfn]⟩:=rfl
theorem tab_99:tab 99=some ⟨.func,1,8,[.nilfn]⟩:=rfl
theorem tab_100:tab 100=some ⟨.func,1,8,[.nilfn]⟩:=rfl
theorem tab_101:tab 101=some ⟨.func,1,8,[.nilfn]⟩:=rfl
theorem tab_102:tab 102=some ⟨.func,1,8,[.nilfn]⟩:=rfl
theorem tab_103:tab 103=some ⟨.func,1,8,[.nilfn]⟩:=rfl
theorem tab_104:tab 104=some ⟨.func,1,8,[.nilfn]⟩:=rfl
theorem tab_105:tab 105=some ⟨.func,1,8,[.nilfn]⟩:=rfl
theorem tab_106:tab 106=some ⟨.func,1,8,[.nilfn]⟩:=rfl
theorem tab_107:tab 107=some ⟨.func,1,8,[.nilfn]⟩:=rfl
theorem tab_108:tab 108=some ⟨.func,1,8,[.nilfn]⟩:=rfl
theorem tab_109:tab 109=some ⟨.func,1,8,[.nilfn]⟩:=rfl
theorem tab_110:tab 110=some ⟨.slice 23,1,24,[(.p .nil)]⟩:=rfl
theorem tab_111:tab 111=some ⟨.func,1,8,[.nilfn]⟩:=rfl
theorem tab_112:tab 112=some ⟨.func,1,8,[.nilfn]⟩:=rfl
theorem tab_113:tab 113=some ⟨.func,1,8,[.nilfn]⟩:=rfl
theorem tab_114:tab 114=some ⟨.func,1,8,[.nilfn]⟩:=rfl
theorem tab_115:tab 115=some ⟨.slice 30,1,24,[(.p .nil)]⟩:=rfl
theorem tab_116:tab 116=some ⟨.func,1,8,[.nilfn]⟩:=rfl
theorem tab_117:tab 117=some ⟨.func,1,8,[.nilfn]⟩:=rfl
theorem tab_118:tab 118=some ⟨.func,1,8,[.nilfn]⟩:=rfl
theorem tab_119:tab 119=some ⟨.func,1,8,[.nilfn]⟩:=rfl
theorem tab_120:tab 120=some ⟨.func,1,8,[.nilfn]⟩:=rfl
theorem tab_121:tab 121=some ⟨.func,1,8,[.nilfn]⟩:=rfl
theorem tab_122:tab 122=some ⟨.func,1,8,[.nilfn]⟩:=rfl
theorem tab_123:tab 123=some ⟨.func,1,8,[.nilfn]⟩:=rfl
theorem tab_124:tab 124=some ⟨.func,1,8,[.nilfn]⟩:=rfl
theorem tab_125:tab 125=some ⟨.func,1,8,[.nilfn]⟩:=rfl
theorem tab_126:tab 126=some ⟨.func,1,8,[.nilfn]⟩:=rfl
theorem tab_127:tab 127=some ⟨.int .i64,1,8,[(.p (.int .i64 0))]⟩:=rfl
theorem tab_129:tab 129=some ⟨.func,1,8,[.nilfn]⟩:=rfl
theorem tab_130:tab 130=some ⟨.func,1,8,[.nilfn]⟩:=rfl
theorem tab_131:tab 131=some ⟨.func,1,8,[.nilfn]⟩:=rfl
theorem tab_132:tab 132=some ⟨.func,1,8,[.nilfn]⟩:=rfl
theorem tab_133:tab 133=some ⟨.func,1,8,[.nilfn]⟩:=rfl
theorem tab_134:tab 134=some ⟨.int .u32,1,4,[(.p (.int .u32 0))]⟩:=rfl
theorem tab_135:tab 135=some ⟨.func,1,8,[.nilfn]⟩:=rfl
theorem tab_136:tab 136=some ⟨.func,1,8,[.nilfn]⟩:=rfl
theorem tab_137:tab 137=some ⟨.func,1,8,[.nilfn]⟩:=rfl
theorem tab_138:tab 138=some ⟨.func,1,8,[.nilfn]⟩:=rfl
theorem tab_139:tab 139=some ⟨.func,1,8,[.nilfn]⟩:=rfl
theorem tab_140:tab 140=some ⟨.int .u64,1,8,[(.p (.int .u64 0))]⟩:=rfl
theorem tab_141:tab 141=some ⟨.func,1,8,[.nilfn]⟩:=rfl
theorem tab_142:tab 142=some ⟨.func,1,8,[.nilfn]⟩:=rfl
theorem tab_143:tab 143=some ⟨.func,1,8,[.nilfn]⟩:=rfl
theorem tab_144:tab 144=some ⟨.ptr 3,1,8,[.nilp]⟩:=rfl
theorem tab_145:tab 145=some ⟨.func,1,8,[.nilfn]⟩:=rfl
theorem tab_147:tab 147=some ⟨.func,1,8,[.nilfn]⟩:=rfl
theorem tab_148:tab 148=some ⟨.ptr 140,1,8,[.nilp]⟩:=rfl
theorem tab_150:tab 150=some ⟨.func,1,8,[.nilfn]⟩:=rfl
theorem tab_152:tab 152=some ⟨.func,1,8,[.nilfn]⟩:=rfl
theorem tab_154:tab 154=some ⟨.func,1,8,[.nilfn]⟩:=rfl
theorem tab_155:tab 155=some ⟨.func,1,8,[.nilfn]⟩:=rfl
theorem tab_161:tab 161=some ⟨.int .u8,1,1,[(.p (.int .u8 0))]⟩:=rfl
theorem tab_162:tab 162=some ⟨.int .u8,1,1,[(.p (.int .u8 0))]⟩:=rfl
theorem tab_163:tab 163=some ⟨.func,1,8,[.nilfn]⟩:=rfl
theorem tab_164:tab 164=some ⟨.ptr 5,1,8,[.nilp]⟩:=rfl
theorem tab_165:tab 165=some ⟨.int .i32,1,4,[(.p (.int .i32 0))]⟩:=rfl
theorem tab_166:tab 166=some ⟨.int .i32,1,4,[(.p (.int .i32 0))]⟩:=rfl
set_option maxRecDepth 100000 in
theorem tabs:tab 1=some ⟨.func,1,8,[.nilfn]⟩∧tab 2=some ⟨.int .i64,1,8,[(.p (.int .i64 0))]⟩∧tab 3=some ⟨.int .i64,1,8,[(.p (.int .i64 0))]⟩∧tab 4=some ⟨.bool,1,1,[(.p (.bool false))]⟩∧tab 5=some ⟨.int .u8,1,1,[(.p (.int .u8 0))]⟩∧tab 6=some ⟨.int .u8,1,1,[(.p (.int .u8 0))]⟩∧tab 9=some ⟨.str,1,16,[(.p (.str ⟨#[]⟩))]⟩∧tab 10=some ⟨.str,1,16,[(.p (.str ⟨#[]⟩))]⟩∧tab 11=some ⟨.str,1,16,[(.p (.str ⟨#[]⟩))]⟩∧tab 12=some ⟨.int .u64,1,8,[(.p (.int .u64 0))]⟩∧tab 15=some ⟨.ptr 157,1,8,[.nilp]⟩∧tab 16=some ⟨.ptr 160,1,8,[.nilp]⟩∧tab 17=some ⟨.ptr 168,1,8,[.nilp]⟩∧tab 21=some ⟨.int .i32,1,4,[(.p (.int .i32 0))]⟩∧tab 22=some ⟨.slice 82,1,24,[(.p .nil)]⟩∧tab 23=some ⟨.slice 3,1,24,[(.p .nil)]⟩∧tab 24=some ⟨.struct [(0,23),(1,23)],2,48,[(.p .nil),(.p .nil)]⟩∧tab 25=some ⟨.struct [(0,23),(1,23)],2,48,[(.p .nil),(.p .nil)]⟩∧tab 26=some ⟨.func,1,8,[.nilfn]⟩∧tab 27=some ⟨.func,1,8,[.nilfn]⟩∧tab 29=some ⟨.func,1,8,[.nilfn]⟩∧tab 30=some ⟨.slice 80,1,24,[(.p .nil)]⟩∧tab 31=some ⟨.func,1,8,[.nilfn]⟩∧tab 32=some ⟨.struct [(0,23),(1,23)],2,48,[(.p .nil),(.p .nil)]⟩∧tab 33=some ⟨.func,1,8,[.nilfn]⟩∧tab 34=some ⟨.func,1,8,[.nilfn]⟩∧tab 35=some ⟨.func,1,8,[.nilfn]⟩∧tab 36=some ⟨.func,1,8,[.nilfn]⟩∧tab 37=some ⟨.func,1,8,[.nilfn]⟩∧tab 38=some ⟨.func,1,8,[.nilfn]⟩∧tab 39=some ⟨.func,1,8,[.nilfn]⟩∧tab 40=some ⟨.func,1,8,[.nilfn]⟩∧tab 41=some ⟨.slice 5,1,24,[(.p .nil)]⟩∧tab 42=some ⟨.func,1,8,[.nilfn]⟩∧tab 44=some ⟨.func,1,8,[.nilfn]⟩∧tab 46=some ⟨.func,1,8,[.nilfn]⟩∧tab 48=some ⟨.func,1,8,[.nilfn]⟩∧tab 49=some ⟨.func,1,8,[.nilfn]⟩∧tab 51=some ⟨.func,1,8,[.nilfn]⟩∧tab 52=some ⟨.func,1,8,[.nilfn]⟩∧tab 54=some ⟨.func,1,8,[.nilfn]⟩∧tab 56=some ⟨.func,1,8,[.nilfn]⟩∧tab 57=some ⟨.func,1,8,[.nilfn]⟩∧tab 59=some ⟨.func,1,8,[.nilfn]⟩∧tab 60=some ⟨.func,1,8,[.nilfn]⟩∧tab 61=some ⟨.func,1,8,[.nilfn]⟩∧tab 62=some ⟨.func,1,8,[.nilfn]⟩∧tab 63=some ⟨.func,1,8,[.nilfn]⟩∧tab 65=some ⟨.func,1,8,[.nilfn]⟩∧tab 66=some ⟨.func,1,8,[.nilfn]⟩∧tab 68=some ⟨.func,1,8,[.nilfn]⟩∧tab 70=some ⟨.func,1,8,[.nilfn]⟩∧tab 71=some ⟨.slice 76,1,24,[(.p .nil)]⟩∧tab 72=some ⟨.func,1,8,[.nilfn]⟩∧tab 73=some ⟨.func,1,8,[.nilfn]⟩∧tab 74=some ⟨.int .u64,1,8,[(.p (.int .u64 0))]⟩∧tab 75=some ⟨.func,1,8,[.nilfn]⟩∧tab 76=some ⟨.slice 4,1,24,[(.p .nil)]⟩∧tab 77=some ⟨.int .u64,1,8,[(.p (.int .u64 0))]⟩∧tab 78=some ⟨.func,1,8,[.nilfn]⟩∧tab 79=some ⟨.struct [(0,3),(1,3)],2,16,[(.p (.int .i64 0)),(.p (.int .i64 0))]⟩∧tab 80=some ⟨.struct [(0,3),(1,3)],2,16,[(.p (.int .i64 0)),(.p (.int .i64 0))]⟩∧tab 81=some ⟨.func,1,8,[.nilfn]⟩∧tab 82=some ⟨.struct [(0,3),(1,3)],2,16,[(.p (.int .i64 0)),(.p (.int .i64 0))]⟩∧tab 83=some ⟨.func,1,8,[.nilfn]⟩∧tab 84=some ⟨.func,1,8,[.nilfn]⟩∧tab 85=some ⟨.func,1,8,[.nilfn]⟩∧tab 86=some ⟨.ptr 88,1,8,[.nilp]⟩∧tab 87=some ⟨.struct [(0,41),(1,3),(2,74)],3,40,[(.p .nil),(.p (.int .i64 0)),(.p (.int .u64 0))]⟩∧tab 88=some ⟨.struct [(0,41),(1,3),(2,74)],3,40,[(.p .nil),(.p (.int .i64 0)),(.p (.int .u64 0))]⟩∧tab 89=some ⟨.func,1,8,[.nilfn]⟩∧tab 90=some ⟨.func,1,8,[.nilfn]⟩∧tab 91=some ⟨.func,1,8,[.nilfn]⟩∧tab 92=some ⟨.func,1,8,[.nilfn]⟩∧tab 93=some ⟨.func,1,8,[.nilfn]⟩∧tab 94=some ⟨.func,1,8,[.nilfn]⟩∧tab 95=some ⟨.func,1,8,[.nilfn]⟩∧tab 96=some ⟨.func,1,8,[.nilfn]⟩∧tab 97=some ⟨.func,1,8,[.nilfn]⟩∧tab 98=some ⟨.func,1,8,[.nilfn]⟩∧tab 99=some ⟨.func,1,8,[.nilfn]⟩∧tab 100=some ⟨.func,1,8,[.nilfn]⟩∧tab 101=some ⟨.func,1,8,[.nilfn]⟩∧tab 102=some ⟨.func,1,8,[.nilfn]⟩∧tab 103=some ⟨.func,1,8,[.nilfn]⟩∧tab 104=some ⟨.func,1,8,[.nilfn]⟩∧tab 105=some ⟨.func,1,8,[.nilfn]⟩∧tab 106=some ⟨.func,1,8,[.nilfn]⟩∧tab 107=some ⟨.func,1,8,[.nilfn]⟩∧tab 108=some ⟨.func,1,8,[.nilfn]⟩∧tab 109=some ⟨.func,1,8,[.nilfn]⟩∧tab 110=some ⟨.slice 23,1,24,[(.p .nil)]⟩∧tab 111=some ⟨.func,1,8,[.nilfn]⟩∧tab 112=some ⟨.func,1,8,[.nilfn]⟩∧tab 113=some ⟨.func,1,8,[.nilfn]⟩∧tab 114=some ⟨.func,1,8,[.nilfn]⟩∧tab 115=some ⟨.slice 30,1,24,[(.p .nil)]⟩∧tab 116=some ⟨.func,1,8,[.nilfn]⟩∧tab 117=some ⟨.func,1,8,[.nilfn]⟩∧tab 118=some ⟨.func,1,8,[.nilfn]⟩∧tab 119=some ⟨.func,1,8,[.nilfn]⟩∧tab 120=some ⟨.func,1,8,[.nilfn]⟩∧tab 121=some ⟨.func,1,8,[.nilfn]⟩∧tab 122=some ⟨.func,1,8,[.nilfn]⟩∧tab 123=some ⟨.func,1,8,[.nilfn]⟩∧tab 124=some ⟨.func,1,8,[.nilfn]⟩∧tab 125=some ⟨.func,1,8,[.nilfn]⟩∧tab 126=some ⟨.func,1,8,[.nilfn]⟩∧tab 127=some ⟨.int .i64,1,8,[(.p (.int .i64 0))]⟩∧tab 129=some ⟨.func,1,8,[.nilfn]⟩∧tab 130=some ⟨.func,1,8,[.nilfn]⟩∧tab 131=some ⟨.func,1,8,[.nilfn]⟩∧tab 132=some ⟨.func,1,8,[.nilfn]⟩∧tab 133=some ⟨.func,1,8,[.nilfn]⟩∧tab 134=some ⟨.int .u32,1,4,[(.p (.int .u32 0))]⟩∧tab 135=some ⟨.func,1,8,[.nilfn]⟩∧tab 136=some ⟨.func,1,8,[.nilfn]⟩∧tab 137=some ⟨.func,1,8,[.nilfn]⟩∧tab 138=some ⟨.func,1,8,[.nilfn]⟩∧tab 139=some ⟨.func,1,8,[.nilfn]⟩∧tab 140=some ⟨.int .u64,1,8,[(.p (.int .u64 0))]⟩∧tab 141=some ⟨.func,1,8,[.nilfn]⟩∧tab 142=some ⟨.func,1,8,[.nilfn]⟩∧tab 143=some ⟨.func,1,8,[.nilfn]⟩∧tab 144=some ⟨.ptr 3,1,8,[.nilp]⟩∧tab 145=some ⟨.func,1,8,[.nilfn]⟩∧tab 147=some ⟨.func,1,8,[.nilfn]⟩∧tab 148=some ⟨.ptr 140,1,8,[.nilp]⟩∧tab 150=some ⟨.func,1,8,[.nilfn]⟩∧tab 152=some ⟨.func,1,8,[.nilfn]⟩∧tab 154=some ⟨.func,1,8,[.nilfn]⟩∧tab 155=some ⟨.func,1,8,[.nilfn]⟩∧tab 161=some ⟨.int .u8,1,1,[(.p (.int .u8 0))]⟩∧tab 162=some ⟨.int .u8,1,1,[(.p (.int .u8 0))]⟩∧tab 163=some ⟨.func,1,8,[.nilfn]⟩∧tab 164=some ⟨.ptr 5,1,8,[.nilp]⟩∧tab 165=some ⟨.int .i32,1,4,[(.p (.int .i32 0))]⟩∧tab 166=some ⟨.int .i32,1,4,[(.p (.int .i32 0))]⟩:=⟨tab_1,tab_2,tab_3,tab_4,tab_5,tab_6,tab_9,tab_10,tab_11,tab_12,tab_15,tab_16,tab_17,tab_21,tab_22,tab_23,tab_24,tab_25,tab_26,tab_27,tab_29,tab_30,tab_31,tab_32,tab_33,tab_34,tab_35,tab_36,tab_37,tab_38,tab_39,tab_40,tab_41,tab_42,tab_44,tab_46,tab_48,tab_49,tab_51,tab_52,tab_54,tab_56,tab_57,tab_59,tab_60,tab_61,tab_62,tab_63,tab_65,tab_66,tab_68,tab_70,tab_71,tab_72,tab_73,tab_74,tab_75,tab_76,tab_77,tab_78,tab_79,tab_80,tab_81,tab_82,tab_83,tab_84,tab_85,tab_86,tab_87,tab_88,tab_89,tab_90,tab_91,tab_92,tab_93,tab_94,tab_95,tab_96,tab_97,tab_98,tab_99,tab_100,tab_101,tab_102,tab_103,tab_104,tab_105,tab_106,tab_107,tab_108,tab_109,tab_110,tab_111,tab_112,tab_113,tab_114,tab_115,tab_116,tab_117,tab_118,tab_119,tab_120,tab_121,tab_122,tab_123,tab_124,tab_125,tab_126,tab_127,tab_129,tab_130,tab_131,tab_132,tab_133,tab_134,tab_135,tab_136,tab_137,tab_138,tab_139,tab_140,tab_141,tab_142,tab_143,tab_144,tab_145,tab_147,tab_148,tab_150,tab_152,tab_154,tab_155,tab_161,tab_162,tab_163,tab_164,tab_165,tab_166⟩
theorem info1:(Try.prog.info? 1).map (fun i=>(i.zero,i.size,i.bytes))=some (some .nilFunc,1,8):=by kernel_rfl
theorem td1_ok:TD.Ok Try.prog 1 td1:=TD.Ok.of ⟨_,_,_,Try.underlying1⟩ info1 rfl rfl (by decide) (fun _=>rfl)
theorem info2:(Try.prog.info? 2).map (fun i=>(i.zero,i.size,i.bytes))=some (some (.int .i64 0),1,8):=by kernel_rfl
theorem td2_ok:TD.Ok Try.prog 2 td2:=TD.Ok.of Try.underlying2 info2 rfl rfl (by decide) (fun _=>rfl)
theorem info3:(Try.prog.info? 3).map (fun i=>(i.zero,i.size,i.bytes))=some (some (.int .i64 0),1,8):=by kernel_rfl
theorem td3_ok:TD.Ok Try.prog 3 td3:=TD.Ok.of Try.underlying3 info3 rfl rfl (by decide) (fun _=>rfl)
theorem info4:(Try.prog.info? 4).map (fun i=>(i.zero,i.size,i.bytes))=some (some (.bool false),1,1):=by kernel_rfl
theorem td4_ok:TD.Ok Try.prog 4 td4:=TD.Ok.of Try.underlying4 info4 rfl rfl (by decide) (fun _=>rfl)
theorem info5:(Try.prog.info? 5).map (fun i=>(i.zero,i.size,i.bytes))=some (some (.int .u8 0),1,1):=by kernel_rfl
theorem td5_ok:TD.Ok Try.prog 5 td5:=TD.Ok.of Try.underlying5 info5 rfl rfl (by decide) (fun _=>rfl)
theorem info6:(Try.prog.info? 6).map (fun i=>(i.zero,i.size,i.bytes))=some (some (.int .u8 0),1,1):=by kernel_rfl
theorem td6_ok:TD.Ok Try.prog 6 td6:=TD.Ok.of Try.underlying6 info6 rfl rfl (by decide) (fun _=>rfl)
theorem info9:(Try.prog.info? 9).map (fun i=>(i.zero,i.size,i.bytes))=some (some (.string ⟨#[]⟩),1,16):=by kernel_rfl
theorem td9_ok:TD.Ok Try.prog 9 td9:=TD.Ok.of Try.underlying9 info9 rfl rfl (by decide) (fun _=>rfl)
theorem info10:(Try.prog.info? 10).map (fun i=>(i.zero,i.size,i.bytes))=some (some (.string ⟨#[]⟩),1,16):=by kernel_rfl
theorem td10_ok:TD.Ok Try.prog 10 td10:=TD.Ok.of Try.underlying10 info10 rfl rfl (by decide) (fun _=>rfl)
theorem info11:(Try.prog.info? 11).map (fun i=>(i.zero,i.size,i.bytes))=some (some (.string ⟨#[]⟩),1,16):=by kernel_rfl
theorem td11_ok:TD.Ok Try.prog 11 td11:=TD.Ok.of Try.underlying11 info11 rfl rfl (by decide) (fun _=>rfl)
theorem info12:(Try.prog.info? 12).map (fun i=>(i.zero,i.size,i.bytes))=some (some (.int .u64 0),1,8):=by kernel_rfl
theorem td12_ok:TD.Ok Try.prog 12 td12:=TD.Ok.of Try.underlying12 info12 rfl rfl (by decide) (fun _=>rfl)
theorem info15:(Try.prog.info? 15).map (fun i=>(i.zero,i.size,i.bytes))=some (some (.pointer none),1,8):=by kernel_rfl
theorem td15_ok:TD.Ok Try.prog 15 td15:=TD.Ok.of Try.underlying15 info15 rfl rfl (by decide) (fun _=>rfl)
theorem info16:(Try.prog.info? 16).map (fun i=>(i.zero,i.size,i.bytes))=some (some (.pointer none),1,8):=by kernel_rfl
theorem td16_ok:TD.Ok Try.prog 16 td16:=TD.Ok.of Try.underlying16 info16 rfl rfl (by decide) (fun _=>rfl)
theorem info17:(Try.prog.info? 17).map (fun i=>(i.zero,i.size,i.bytes))=some (some (.pointer none),1,8):=by kernel_rfl
theorem td17_ok:TD.Ok Try.prog 17 td17:=TD.Ok.of Try.underlying17 info17 rfl rfl (by decide) (fun _=>rfl)
theorem info21:(Try.prog.info? 21).map (fun i=>(i.zero,i.size,i.bytes))=some (some (.int .i32 0),1,4):=by kernel_rfl
theorem td21_ok:TD.Ok Try.prog 21 td21:=TD.Ok.of Try.underlying21 info21 rfl rfl (by decide) (fun _=>rfl)
theorem info22:(Try.prog.info? 22).map (fun i=>(i.zero,i.size,i.bytes))=some (some (.slice none 0 0),1,24):=by kernel_rfl
theorem td22_ok:TD.Ok Try.prog 22 td22:=TD.Ok.of Try.underlying22 info22 rfl rfl (by decide) (fun _=>rfl)
theorem info23:(Try.prog.info? 23).map (fun i=>(i.zero,i.size,i.bytes))=some (some (.slice none 0 0),1,24):=by kernel_rfl
theorem td23_ok:TD.Ok Try.prog 23 td23:=TD.Ok.of Try.underlying23 info23 rfl rfl (by decide) (fun _=>rfl)
theorem info24:(Try.prog.info? 24).map (fun i=>(i.zero,i.size,i.bytes))=some (some (.agg #[(.slice none 0 0),(.slice none 0 0)]),2,48):=by kernel_rfl
theorem td24_ok:TD.Ok Try.prog 24 td24:=TD.Ok.of ⟨_,Try.underlying24,rfl,Try.stoodInHeld24,Try.eqGuardType24,by decide⟩ info24 rfl rfl (by decide) (fun h=>by cases h)
theorem info25:(Try.prog.info? 25).map (fun i=>(i.zero,i.size,i.bytes))=some (some (.agg #[(.slice none 0 0),(.slice none 0 0)]),2,48):=by kernel_rfl
theorem td25_ok:TD.Ok Try.prog 25 td25:=TD.Ok.of ⟨_,Try.underlying25,rfl,Try.stoodInHeld25,Try.eqGuardType25,by decide⟩ info25 rfl rfl (by decide) (fun h=>by cases h)
theorem info26:(Try.prog.info? 26).map (fun i=>(i.zero,i.size,i.bytes))=some (some .nilFunc,1,8):=by kernel_rfl
theorem td26_ok:TD.Ok Try.prog 26 td26:=TD.Ok.of ⟨_,_,_,Try.underlying26⟩ info26 rfl rfl (by decide) (fun _=>rfl)
theorem info27:(Try.prog.info? 27).map (fun i=>(i.zero,i.size,i.bytes))=some (some .nilFunc,1,8):=by kernel_rfl
theorem td27_ok:TD.Ok Try.prog 27 td27:=TD.Ok.of ⟨_,_,_,Try.underlying27⟩ info27 rfl rfl (by decide) (fun _=>rfl)
theorem info29:(Try.prog.info? 29).map (fun i=>(i.zero,i.size,i.bytes))=some (some .nilFunc,1,8):=by kernel_rfl
theorem td29_ok:TD.Ok Try.prog 29 td29:=TD.Ok.of ⟨_,_,_,Try.underlying29⟩ info29 rfl rfl (by decide) (fun _=>rfl)
theorem info30:(Try.prog.info? 30).map (fun i=>(i.zero,i.size,i.bytes))=some (some (.slice none 0 0),1,24):=by kernel_rfl
theorem td30_ok:TD.Ok Try.prog 30 td30:=TD.Ok.of Try.underlying30 info30 rfl rfl (by decide) (fun _=>rfl)
theorem info31:(Try.prog.info? 31).map (fun i=>(i.zero,i.size,i.bytes))=some (some .nilFunc,1,8):=by kernel_rfl
theorem td31_ok:TD.Ok Try.prog 31 td31:=TD.Ok.of ⟨_,_,_,Try.underlying31⟩ info31 rfl rfl (by decide) (fun _=>rfl)
theorem info32:(Try.prog.info? 32).map (fun i=>(i.zero,i.size,i.bytes))=some (some (.agg #[(.slice none 0 0),(.slice none 0 0)]),2,48):=by kernel_rfl
theorem td32_ok:TD.Ok Try.prog 32 td32:=TD.Ok.of ⟨_,Try.underlying32,rfl,Try.stoodInHeld32,Try.eqGuardType32,by decide⟩ info32 rfl rfl (by decide) (fun h=>by cases h)
theorem info33:(Try.prog.info? 33).map (fun i=>(i.zero,i.size,i.bytes))=some (some .nilFunc,1,8):=by kernel_rfl
theorem td33_ok:TD.Ok Try.prog 33 td33:=TD.Ok.of ⟨_,_,_,Try.underlying33⟩ info33 rfl rfl (by decide) (fun _=>rfl)
theorem info34:(Try.prog.info? 34).map (fun i=>(i.zero,i.size,i.bytes))=some (some .nilFunc,1,8):=by kernel_rfl
theorem td34_ok:TD.Ok Try.prog 34 td34:=TD.Ok.of ⟨_,_,_,Try.underlying34⟩ info34 rfl rfl (by decide) (fun _=>rfl)
theorem info35:(Try.prog.info? 35).map (fun i=>(i.zero,i.size,i.bytes))=some (some .nilFunc,1,8):=by kernel_rfl
theorem td35_ok:TD.Ok Try.prog 35 td35:=TD.Ok.of ⟨_,_,_,Try.underlying35⟩ info35 rfl rfl (by decide) (fun _=>rfl)
theorem info36:(Try.prog.info? 36).map (fun i=>(i.zero,i.size,i.bytes))=some (some .nilFunc,1,8):=by kernel_rfl
theorem td36_ok:TD.Ok Try.prog 36 td36:=TD.Ok.of ⟨_,_,_,Try.underlying36⟩ info36 rfl rfl (by decide) (fun _=>rfl)
theorem info37:(Try.prog.info? 37).map (fun i=>(i.zero,i.size,i.bytes))=some (some .nilFunc,1,8):=by kernel_rfl
theorem td37_ok:TD.Ok Try.prog 37 td37:=TD.Ok.of ⟨_,_,_,Try.underlying37⟩ info37 rfl rfl (by decide) (fun _=>rfl)
theorem info38:(Try.prog.info? 38).map (fun i=>(i.zero,i.size,i.bytes))=some (some .nilFunc,1,8):=by kernel_rfl
theorem td38_ok:TD.Ok Try.prog 38 td38:=TD.Ok.of ⟨_,_,_,Try.underlying38⟩ info38 rfl rfl (by decide) (fun _=>rfl)
theorem info39:(Try.prog.info? 39).map (fun i=>(i.zero,i.size,i.bytes))=some (some .nilFunc,1,8):=by kernel_rfl
theorem td39_ok:TD.Ok Try.prog 39 td39:=TD.Ok.of ⟨_,_,_,Try.underlying39⟩ info39 rfl rfl (by decide) (fun _=>rfl)
theorem info40:(Try.prog.info? 40).map (fun i=>(i.zero,i.size,i.bytes))=some (some .nilFunc,1,8):=by kernel_rfl
theorem td40_ok:TD.Ok Try.prog 40 td40:=TD.Ok.of ⟨_,_,_,Try.underlying40⟩ info40 rfl rfl (by decide) (fun _=>rfl)
theorem info41:(Try.prog.info? 41).map (fun i=>(i.zero,i.size,i.bytes))=some (some (.slice none 0 0),1,24):=by kernel_rfl
theorem td41_ok:TD.Ok Try.prog 41 td41:=TD.Ok.of Try.underlying41 info41 rfl rfl (by decide) (fun _=>rfl)
theorem info42:(Try.prog.info? 42).map (fun i=>(i.zero,i.size,i.bytes))=some (some .nilFunc,1,8):=by kernel_rfl
theorem td42_ok:TD.Ok Try.prog 42 td42:=TD.Ok.of ⟨_,_,_,Try.underlying42⟩ info42 rfl rfl (by decide) (fun _=>rfl)
theorem info44:(Try.prog.info? 44).map (fun i=>(i.zero,i.size,i.bytes))=some (some .nilFunc,1,8):=by kernel_rfl
theorem td44_ok:TD.Ok Try.prog 44 td44:=TD.Ok.of ⟨_,_,_,Try.underlying44⟩ info44 rfl rfl (by decide) (fun _=>rfl)
theorem info46:(Try.prog.info? 46).map (fun i=>(i.zero,i.size,i.bytes))=some (some .nilFunc,1,8):=by kernel_rfl
theorem td46_ok:TD.Ok Try.prog 46 td46:=TD.Ok.of ⟨_,_,_,Try.underlying46⟩ info46 rfl rfl (by decide) (fun _=>rfl)
theorem info48:(Try.prog.info? 48).map (fun i=>(i.zero,i.size,i.bytes))=some (some .nilFunc,1,8):=by kernel_rfl
theorem td48_ok:TD.Ok Try.prog 48 td48:=TD.Ok.of ⟨_,_,_,Try.underlying48⟩ info48 rfl rfl (by decide) (fun _=>rfl)
theorem info49:(Try.prog.info? 49).map (fun i=>(i.zero,i.size,i.bytes))=some (some .nilFunc,1,8):=by kernel_rfl
theorem td49_ok:TD.Ok Try.prog 49 td49:=TD.Ok.of ⟨_,_,_,Try.underlying49⟩ info49 rfl rfl (by decide) (fun _=>rfl)
theorem info51:(Try.prog.info? 51).map (fun i=>(i.zero,i.size,i.bytes))=some (some .nilFunc,1,8):=by kernel_rfl
theorem td51_ok:TD.Ok Try.prog 51 td51:=TD.Ok.of ⟨_,_,_,Try.underlying51⟩ info51 rfl rfl (by decide) (fun _=>rfl)
theorem info52:(Try.prog.info? 52).map (fun i=>(i.zero,i.size,i.bytes))=some (some .nilFunc,1,8):=by kernel_rfl
theorem td52_ok:TD.Ok Try.prog 52 td52:=TD.Ok.of ⟨_,_,_,Try.underlying52⟩ info52 rfl rfl (by decide) (fun _=>rfl)
theorem info54:(Try.prog.info? 54).map (fun i=>(i.zero,i.size,i.bytes))=some (some .nilFunc,1,8):=by kernel_rfl
theorem td54_ok:TD.Ok Try.prog 54 td54:=TD.Ok.of ⟨_,_,_,Try.underlying54⟩ info54 rfl rfl (by decide) (fun _=>rfl)
theorem info56:(Try.prog.info? 56).map (fun i=>(i.zero,i.size,i.bytes))=some (some .nilFunc,1,8):=by kernel_rfl
theorem td56_ok:TD.Ok Try.prog 56 td56:=TD.Ok.of ⟨_,_,_,Try.underlying56⟩ info56 rfl rfl (by decide) (fun _=>rfl)
theorem info57:(Try.prog.info? 57).map (fun i=>(i.zero,i.size,i.bytes))=some (some .nilFunc,1,8):=by kernel_rfl
theorem td57_ok:TD.Ok Try.prog 57 td57:=TD.Ok.of ⟨_,_,_,Try.underlying57⟩ info57 rfl rfl (by decide) (fun _=>rfl)
theorem info59:(Try.prog.info? 59).map (fun i=>(i.zero,i.size,i.bytes))=some (some .nilFunc,1,8):=by kernel_rfl
theorem td59_ok:TD.Ok Try.prog 59 td59:=TD.Ok.of ⟨_,_,_,Try.underlying59⟩ info59 rfl rfl (by decide) (fun _=>rfl)
theorem info60:(Try.prog.info? 60).map (fun i=>(i.zero,i.size,i.bytes))=some (some .nilFunc,1,8):=by kernel_rfl
theorem td60_ok:TD.Ok Try.prog 60 td60:=TD.Ok.of ⟨_,_,_,Try.underlying60⟩ info60 rfl rfl (by decide) (fun _=>rfl)
theorem info61:(Try.prog.info? 61).map (fun i=>(i.zero,i.size,i.bytes))=some (some .nilFunc,1,8):=by kernel_rfl
theorem td61_ok:TD.Ok Try.prog 61 td61:=TD.Ok.of ⟨_,_,_,Try.underlying61⟩ info61 rfl rfl (by decide) (fun _=>rfl)
theorem info62:(Try.prog.info? 62).map (fun i=>(i.zero,i.size,i.bytes))=some (some .nilFunc,1,8):=by kernel_rfl
theorem td62_ok:TD.Ok Try.prog 62 td62:=TD.Ok.of ⟨_,_,_,Try.underlying62⟩ info62 rfl rfl (by decide) (fun _=>rfl)
theorem info63:(Try.prog.info? 63).map (fun i=>(i.zero,i.size,i.bytes))=some (some .nilFunc,1,8):=by kernel_rfl
theorem td63_ok:TD.Ok Try.prog 63 td63:=TD.Ok.of ⟨_,_,_,Try.underlying63⟩ info63 rfl rfl (by decide) (fun _=>rfl)
theorem info65:(Try.prog.info? 65).map (fun i=>(i.zero,i.size,i.bytes))=some (some .nilFunc,1,8):=by kernel_rfl
theorem td65_ok:TD.Ok Try.prog 65 td65:=TD.Ok.of ⟨_,_,_,Try.underlying65⟩ info65 rfl rfl (by decide) (fun _=>rfl)
theorem info66:(Try.prog.info? 66).map (fun i=>(i.zero,i.size,i.bytes))=some (some .nilFunc,1,8):=by kernel_rfl
theorem td66_ok:TD.Ok Try.prog 66 td66:=TD.Ok.of ⟨_,_,_,Try.underlying66⟩ info66 rfl rfl (by decide) (fun _=>rfl)
theorem info68:(Try.prog.info? 68).map (fun i=>(i.zero,i.size,i.bytes))=some (some .nilFunc,1,8):=by kernel_rfl
theorem td68_ok:TD.Ok Try.prog 68 td68:=TD.Ok.of ⟨_,_,_,Try.underlying68⟩ info68 rfl rfl (by decide) (fun _=>rfl)
theorem info70:(Try.prog.info? 70).map (fun i=>(i.zero,i.size,i.bytes))=some (some .nilFunc,1,8):=by kernel_rfl
theorem td70_ok:TD.Ok Try.prog 70 td70:=TD.Ok.of ⟨_,_,_,Try.underlying70⟩ info70 rfl rfl (by decide) (fun _=>rfl)
theorem info71:(Try.prog.info? 71).map (fun i=>(i.zero,i.size,i.bytes))=some (some (.slice none 0 0),1,24):=by kernel_rfl
theorem td71_ok:TD.Ok Try.prog 71 td71:=TD.Ok.of Try.underlying71 info71 rfl rfl (by decide) (fun _=>rfl)
theorem info72:(Try.prog.info? 72).map (fun i=>(i.zero,i.size,i.bytes))=some (some .nilFunc,1,8):=by kernel_rfl
theorem td72_ok:TD.Ok Try.prog 72 td72:=TD.Ok.of ⟨_,_,_,Try.underlying72⟩ info72 rfl rfl (by decide) (fun _=>rfl)
theorem info73:(Try.prog.info? 73).map (fun i=>(i.zero,i.size,i.bytes))=some (some .nilFunc,1,8):=by kernel_rfl
theorem td73_ok:TD.Ok Try.prog 73 td73:=TD.Ok.of ⟨_,_,_,Try.underlying73⟩ info73 rfl rfl (by decide) (fun _=>rfl)
theorem info74:(Try.prog.info? 74).map (fun i=>(i.zero,i.size,i.bytes))=some (some (.int .u64 0),1,8):=by kernel_rfl
theorem td74_ok:TD.Ok Try.prog 74 td74:=TD.Ok.of Try.underlying74 info74 rfl rfl (by decide) (fun _=>rfl)
theorem info75:(Try.prog.info? 75).map (fun i=>(i.zero,i.size,i.bytes))=some (some .nilFunc,1,8):=by kernel_rfl
theorem td75_ok:TD.Ok Try.prog 75 td75:=TD.Ok.of ⟨_,_,_,Try.underlying75⟩ info75 rfl rfl (by decide) (fun _=>rfl)
theorem info76:(Try.prog.info? 76).map (fun i=>(i.zero,i.size,i.bytes))=some (some (.slice none 0 0),1,24):=by kernel_rfl
theorem td76_ok:TD.Ok Try.prog 76 td76:=TD.Ok.of Try.underlying76 info76 rfl rfl (by decide) (fun _=>rfl)
theorem info77:(Try.prog.info? 77).map (fun i=>(i.zero,i.size,i.bytes))=some (some (.int .u64 0),1,8):=by kernel_rfl
theorem td77_ok:TD.Ok Try.prog 77 td77:=TD.Ok.of Try.underlying77 info77 rfl rfl (by decide) (fun _=>rfl)
theorem info78:(Try.prog.info? 78).map (fun i=>(i.zero,i.size,i.bytes))=some (some .nilFunc,1,8):=by kernel_rfl
theorem td78_ok:TD.Ok Try.prog 78 td78:=TD.Ok.of ⟨_,_,_,Try.underlying78⟩ info78 rfl rfl (by decide) (fun _=>rfl)
theorem info79:(Try.prog.info? 79).map (fun i=>(i.zero,i.size,i.bytes))=some (some (.agg #[(.int .i64 0),(.int .i64 0)]),2,16):=by kernel_rfl
theorem td79_ok:TD.Ok Try.prog 79 td79:=TD.Ok.of ⟨_,Try.underlying79,rfl,Try.stoodInHeld79,Try.eqGuardType79,by decide⟩ info79 rfl rfl (by decide) (fun h=>by cases h)
theorem info80:(Try.prog.info? 80).map (fun i=>(i.zero,i.size,i.bytes))=some (some (.agg #[(.int .i64 0),(.int .i64 0)]),2,16):=by kernel_rfl
theorem td80_ok:TD.Ok Try.prog 80 td80:=TD.Ok.of ⟨_,Try.underlying80,rfl,Try.stoodInHeld80,Try.eqGuardType80,by decide⟩ info80 rfl rfl (by decide) (fun h=>by cases h)
theorem info81:(Try.prog.info? 81).map (fun i=>(i.zero,i.size,i.bytes))=some (some .nilFunc,1,8):=by kernel_rfl
theorem td81_ok:TD.Ok Try.prog 81 td81:=TD.Ok.of ⟨_,_,_,Try.underlying81⟩ info81 rfl rfl (by decide) (fun _=>rfl)
theorem info82:(Try.prog.info? 82).map (fun i=>(i.zero,i.size,i.bytes))=some (some (.agg #[(.int .i64 0),(.int .i64 0)]),2,16):=by kernel_rfl
theorem td82_ok:TD.Ok Try.prog 82 td82:=TD.Ok.of ⟨_,Try.underlying82,rfl,Try.stoodInHeld82,Try.eqGuardType82,by decide⟩ info82 rfl rfl (by decide) (fun h=>by cases h)
theorem info83:(Try.prog.info? 83).map (fun i=>(i.zero,i.size,i.bytes))=some (some .nilFunc,1,8):=by kernel_rfl
theorem td83_ok:TD.Ok Try.prog 83 td83:=TD.Ok.of ⟨_,_,_,Try.underlying83⟩ info83 rfl rfl (by decide) (fun _=>rfl)
theorem info84:(Try.prog.info? 84).map (fun i=>(i.zero,i.size,i.bytes))=some (some .nilFunc,1,8):=by kernel_rfl
theorem td84_ok:TD.Ok Try.prog 84 td84:=TD.Ok.of ⟨_,_,_,Try.underlying84⟩ info84 rfl rfl (by decide) (fun _=>rfl)
theorem info85:(Try.prog.info? 85).map (fun i=>(i.zero,i.size,i.bytes))=some (some .nilFunc,1,8):=by kernel_rfl
theorem td85_ok:TD.Ok Try.prog 85 td85:=TD.Ok.of ⟨_,_,_,Try.underlying85⟩ info85 rfl rfl (by decide) (fun _=>rfl)
theorem info86:(Try.prog.info? 86).map (fun i=>(i.zero,i.size,i.bytes))=some (some (.pointer none),1,8):=by kernel_rfl
theorem td86_ok:TD.Ok Try.prog 86 td86:=TD.Ok.of Try.underlying86 info86 rfl rfl (by decide) (fun _=>rfl)
theorem info87:(Try.prog.info? 87).map (fun i=>(i.zero,i.size,i.bytes))=some (some (.agg #[(.slice none 0 0),(.int .i64 0),(.int .u64 0)]),3,40):=by kernel_rfl
theorem td87_ok:TD.Ok Try.prog 87 td87:=TD.Ok.of ⟨_,Try.underlying87,rfl,Try.stoodInHeld87,Try.eqGuardType87,by decide⟩ info87 rfl rfl (by decide) (fun h=>by cases h)
theorem info88:(Try.prog.info? 88).map (fun i=>(i.zero,i.size,i.bytes))=some (some (.agg #[(.slice none 0 0),(.int .i64 0),(.int .u64 0)]),3,40):=by kernel_rfl
theorem td88_ok:TD.Ok Try.prog 88 td88:=TD.Ok.of ⟨_,Try.underlying88,rfl,Try.stoodInHeld88,Try.eqGuardType88,by decide⟩ info88 rfl rfl (by decide) (fun h=>by cases h)
theorem info89:(Try.prog.info? 89).map (fun i=>(i.zero,i.size,i.bytes))=some (some .nilFunc,1,8):=by kernel_rfl
theorem td89_ok:TD.Ok Try.prog 89 td89:=TD.Ok.of ⟨_,_,_,Try.underlying89⟩ info89 rfl rfl (by decide) (fun _=>rfl)
theorem info90:(Try.prog.info? 90).map (fun i=>(i.zero,i.size,i.bytes))=some (some .nilFunc,1,8):=by kernel_rfl
theorem td90_ok:TD.Ok Try.prog 90 td90:=TD.Ok.of ⟨_,_,_,Try.underlying90⟩ info90 rfl rfl (by decide) (fun _=>rfl)
theorem info91:(Try.prog.info? 91).map (fun i=>(i.zero,i.size,i.bytes))=some (some .nilFunc,1,8):=by kernel_rfl
theorem td91_ok:TD.Ok Try.prog 91 td91:=TD.Ok.of ⟨_,_,_,Try.underlying91⟩ info91 rfl rfl (by decide) (fun _=>rfl)
theorem info92:(Try.prog.info? 92).map (fun i=>(i.zero,i.size,i.bytes))=some (some .nilFunc,1,8):=by kernel_rfl
theorem td92_ok:TD.Ok Try.prog 92 td92:=TD.Ok.of ⟨_,_,_,Try.underlying92⟩ info92 rfl rfl (by decide) (fun _=>rfl)
theorem info93:(Try.prog.info? 93).map (fun i=>(i.zero,i.size,i.bytes))=some (some .nilFunc,1,8):=by kernel_rfl
theorem td93_ok:TD.Ok Try.prog 93 td93:=TD.Ok.of ⟨_,_,_,Try.underlying93⟩ info93 rfl rfl (by decide) (fun _=>rfl)
theorem info94:(Try.prog.info? 94).map (fun i=>(i.zero,i.size,i.bytes))=some (some .nilFunc,1,8):=by kernel_rfl
theorem td94_ok:TD.Ok Try.prog 94 td94:=TD.Ok.of ⟨_,_,_,Try.underlying94⟩ info94 rfl rfl (by decide) (fun _=>rfl)
theorem info95:(Try.prog.info? 95).map (fun i=>(i.zero,i.size,i.bytes))=some (some .nilFunc,1,8):=by kernel_rfl
theorem td95_ok:TD.Ok Try.prog 95 td95:=TD.Ok.of ⟨_,_,_,Try.underlying95⟩ info95 rfl rfl (by decide) (fun _=>rfl)
theorem info96:(Try.prog.info? 96).map (fun i=>(i.zero,i.size,i.bytes))=some (some .nilFunc,1,8):=by kernel_rfl
theorem td96_ok:TD.Ok Try.prog 96 td96:=TD.Ok.of ⟨_,_,_,Try.underlying96⟩ info96 rfl rfl (by decide) (fun _=>rfl)
theorem info97:(Try.prog.info? 97).map (fun i=>(i.zero,i.size,i.bytes))=some (some .nilFunc,1,8):=by kernel_rfl
theorem td97_ok:TD.Ok Try.prog 97 td97:=TD.Ok.of ⟨_,_,_,Try.underlying97⟩ info97 rfl rfl (by decide) (fun _=>rfl)
theorem info98:(Try.prog.info? 98).map (fun i=>(i.zero,i.size,i.bytes))=some (some .nilFunc,1,8):=by kernel_rfl
theorem td98_ok:TD.Ok Try.prog 98 td98:=TD.Ok.of ⟨_,_,_,Try.underlying98⟩ info98 rfl rfl (by decide) (fun _=>rfl)
theorem info99:(Try.prog.info? 99).map (fun i=>(i.zero,i.size,i.bytes))=some (some .nilFunc,1,8):=by kernel_rfl
theorem td99_ok:TD.Ok Try.prog 99 td99:=TD.Ok.of ⟨_,_,_,Try.underlying99⟩ info99 rfl rfl (by decide) (fun _=>rfl)
theorem info100:(Try.prog.info? 100).map (fun i=>(i.zero,i.size,i.bytes))=some (some .nilFunc,1,8):=by kernel_rfl
theorem td100_ok:TD.Ok Try.prog 100 td100:=TD.Ok.of ⟨_,_,_,Try.underlying100⟩ info100 rfl rfl (by decide) (fun _=>rfl)
theorem info101:(Try.prog.info? 101).map (fun i=>(i.zero,i.size,i.bytes))=some (some .nilFunc,1,8):=by kernel_rfl
theorem td101_ok:TD.Ok Try.prog 101 td101:=TD.Ok.of ⟨_,_,_,Try.underlying101⟩ info101 rfl rfl (by decide) (fun _=>rfl)
theorem info102:(Try.prog.info? 102).map (fun i=>(i.zero,i.size,i.bytes))=some (some .nilFunc,1,8):=by kernel_rfl
theorem td102_ok:TD.Ok Try.prog 102 td102:=TD.Ok.of ⟨_,_,_,Try.underlying102⟩ info102 rfl rfl (by decide) (fun _=>rfl)
theorem info103:(Try.prog.info? 103).map (fun i=>(i.zero,i.size,i.bytes))=some (some .nilFunc,1,8):=by kernel_rfl
theorem td103_ok:TD.Ok Try.prog 103 td103:=TD.Ok.of ⟨_,_,_,Try.underlying103⟩ info103 rfl rfl (by decide) (fun _=>rfl)
theorem info104:(Try.prog.info? 104).map (fun i=>(i.zero,i.size,i.bytes))=some (some .nilFunc,1,8):=by kernel_rfl
theorem td104_ok:TD.Ok Try.prog 104 td104:=TD.Ok.of ⟨_,_,_,Try.underlying104⟩ info104 rfl rfl (by decide) (fun _=>rfl)
theorem info105:(Try.prog.info? 105).map (fun i=>(i.zero,i.size,i.bytes))=some (some .nilFunc,1,8):=by kernel_rfl
theorem td105_ok:TD.Ok Try.prog 105 td105:=TD.Ok.of ⟨_,_,_,Try.underlying105⟩ info105 rfl rfl (by decide) (fun _=>rfl)
theorem info106:(Try.prog.info? 106).map (fun i=>(i.zero,i.size,i.bytes))=some (some .nilFunc,1,8):=by kernel_rfl
theorem td106_ok:TD.Ok Try.prog 106 td106:=TD.Ok.of ⟨_,_,_,Try.underlying106⟩ info106 rfl rfl (by decide) (fun _=>rfl)
theorem info107:(Try.prog.info? 107).map (fun i=>(i.zero,i.size,i.bytes))=some (some .nilFunc,1,8):=by kernel_rfl
theorem td107_ok:TD.Ok Try.prog 107 td107:=TD.Ok.of ⟨_,_,_,Try.underlying107⟩ info107 rfl rfl (by decide) (fun _=>rfl)
theorem info108:(Try.prog.info? 108).map (fun i=>(i.zero,i.size,i.bytes))=some (some .nilFunc,1,8):=by kernel_rfl
theorem td108_ok:TD.Ok Try.prog 108 td108:=TD.Ok.of ⟨_,_,_,Try.underlying108⟩ info108 rfl rfl (by decide) (fun _=>rfl)
theorem info109:(Try.prog.info? 109).map (fun i=>(i.zero,i.size,i.bytes))=some (some .nilFunc,1,8):=by kernel_rfl
theorem td109_ok:TD.Ok Try.prog 109 td109:=TD.Ok.of ⟨_,_,_,Try.underlying109⟩ info109 rfl rfl (by decide) (fun _=>rfl)
theorem info110:(Try.prog.info? 110).map (fun i=>(i.zero,i.size,i.bytes))=some (some (.slice none 0 0),1,24):=by kernel_rfl
theorem td110_ok:TD.Ok Try.prog 110 td110:=TD.Ok.of Try.underlying110 info110 rfl rfl (by decide) (fun _=>rfl)
theorem info111:(Try.prog.info? 111).map (fun i=>(i.zero,i.size,i.bytes))=some (some .nilFunc,1,8):=by kernel_rfl
theorem td111_ok:TD.Ok Try.prog 111 td111:=TD.Ok.of ⟨_,_,_,Try.underlying111⟩ info111 rfl rfl (by decide) (fun _=>rfl)
theorem info112:(Try.prog.info? 112).map (fun i=>(i.zero,i.size,i.bytes))=some (some .nilFunc,1,8):=by kernel_rfl
theorem td112_ok:TD.Ok Try.prog 112 td112:=TD.Ok.of ⟨_,_,_,Try.underlying112⟩ info112 rfl rfl (by decide) (fun _=>rfl)
theorem info113:(Try.prog.info? 113).map (fun i=>(i.zero,i.size,i.bytes))=some (some .nilFunc,1,8):=by kernel_rfl
theorem td113_ok:TD.Ok Try.prog 113 td113:=TD.Ok.of ⟨_,_,_,Try.underlying113⟩ info113 rfl rfl (by decide) (fun _=>rfl)
theorem info114:(Try.prog.info? 114).map (fun i=>(i.zero,i.size,i.bytes))=some (some .nilFunc,1,8):=by kernel_rfl
theorem td114_ok:TD.Ok Try.prog 114 td114:=TD.Ok.of ⟨_,_,_,Try.underlying114⟩ info114 rfl rfl (by decide) (fun _=>rfl)
theorem info115:(Try.prog.info? 115).map (fun i=>(i.zero,i.size,i.bytes))=some (some (.slice none 0 0),1,24):=by kernel_rfl
theorem td115_ok:TD.Ok Try.prog 115 td115:=TD.Ok.of Try.underlying115 info115 rfl rfl (by decide) (fun _=>rfl)
theorem info116:(Try.prog.info? 116).map (fun i=>(i.zero,i.size,i.bytes))=some (some .nilFunc,1,8):=by kernel_rfl
theorem td116_ok:TD.Ok Try.prog 116 td116:=TD.Ok.of ⟨_,_,_,Try.underlying116⟩ info116 rfl rfl (by decide) (fun _=>rfl)
theorem info117:(Try.prog.info? 117).map (fun i=>(i.zero,i.size,i.bytes))=some (some .nilFunc,1,8):=by kernel_rfl
theorem td117_ok:TD.Ok Try.prog 117 td117:=TD.Ok.of ⟨_,_,_,Try.underlying117⟩ info117 rfl rfl (by decide) (fun _=>rfl)
theorem info118:(Try.prog.info? 118).map (fun i=>(i.zero,i.size,i.bytes))=some (some .nilFunc,1,8):=by kernel_rfl
theorem td118_ok:TD.Ok Try.prog 118 td118:=TD.Ok.of ⟨_,_,_,Try.underlying118⟩ info118 rfl rfl (by decide) (fun _=>rfl)
theorem info119:(Try.prog.info? 119).map (fun i=>(i.zero,i.size,i.bytes))=some (some .nilFunc,1,8):=by kernel_rfl
theorem td119_ok:TD.Ok Try.prog 119 td119:=TD.Ok.of ⟨_,_,_,Try.underlying119⟩ info119 rfl rfl (by decide) (fun _=>rfl)
theorem info120:(Try.prog.info? 120).map (fun i=>(i.zero,i.size,i.bytes))=some (some .nilFunc,1,8):=by kernel_rfl
theorem td120_ok:TD.Ok Try.prog 120 td120:=TD.Ok.of ⟨_,_,_,Try.underlying120⟩ info120 rfl rfl (by decide) (fun _=>rfl)
theorem info121:(Try.prog.info? 121).map (fun i=>(i.zero,i.size,i.bytes))=some (some .nilFunc,1,8):=by kernel_rfl
theorem td121_ok:TD.Ok Try.prog 121 td121:=TD.Ok.of ⟨_,_,_,Try.underlying121⟩ info121 rfl rfl (by decide) (fun _=>rfl)
theorem info122:(Try.prog.info? 122).map (fun i=>(i.zero,i.size,i.bytes))=some (some .nilFunc,1,8):=by kernel_rfl
theorem td122_ok:TD.Ok Try.prog 122 td122:=TD.Ok.of ⟨_,_,_,Try.underlying122⟩ info122 rfl rfl (by decide) (fun _=>rfl)
theorem info123:(Try.prog.info? 123).map (fun i=>(i.zero,i.size,i.bytes))=some (some .nilFunc,1,8):=by kernel_rfl
theorem td123_ok:TD.Ok Try.prog 123 td123:=TD.Ok.of ⟨_,_,_,Try.underlying123⟩ info123 rfl rfl (by decide) (fun _=>rfl)
theorem info124:(Try.prog.info? 124).map (fun i=>(i.zero,i.size,i.bytes))=some (some .nilFunc,1,8):=by kernel_rfl
theorem td124_ok:TD.Ok Try.prog 124 td124:=TD.Ok.of ⟨_,_,_,Try.underlying124⟩ info124 rfl rfl (by decide) (fun _=>rfl)
theorem info125:(Try.prog.info? 125).map (fun i=>(i.zero,i.size,i.bytes))=some (some .nilFunc,1,8):=by kernel_rfl
theorem td125_ok:TD.Ok Try.prog 125 td125:=TD.Ok.of ⟨_,_,_,Try.underlying125⟩ info125 rfl rfl (by decide) (fun _=>rfl)
theorem info126:(Try.prog.info? 126).map (fun i=>(i.zero,i.size,i.bytes))=some (some .nilFunc,1,8):=by kernel_rfl
theorem td126_ok:TD.Ok Try.prog 126 td126:=TD.Ok.of ⟨_,_,_,Try.underlying126⟩ info126 rfl rfl (by decide) (fun _=>rfl)
theorem info127:(Try.prog.info? 127).map (fun i=>(i.zero,i.size,i.bytes))=some (some (.int .i64 0),1,8):=by kernel_rfl
theorem td127_ok:TD.Ok Try.prog 127 td127:=TD.Ok.of Try.underlying127 info127 rfl rfl (by decide) (fun _=>rfl)
theorem info129:(Try.prog.info? 129).map (fun i=>(i.zero,i.size,i.bytes))=some (some .nilFunc,1,8):=by kernel_rfl
theorem td129_ok:TD.Ok Try.prog 129 td129:=TD.Ok.of ⟨_,_,_,Try.underlying129⟩ info129 rfl rfl (by decide) (fun _=>rfl)
theorem info130:(Try.prog.info? 130).map (fun i=>(i.zero,i.size,i.bytes))=some (some .nilFunc,1,8):=by kernel_rfl
theorem td130_ok:TD.Ok Try.prog 130 td130:=TD.Ok.of ⟨_,_,_,Try.underlying130⟩ info130 rfl rfl (by decide) (fun _=>rfl)
theorem info131:(Try.prog.info? 131).map (fun i=>(i.zero,i.size,i.bytes))=some (some .nilFunc,1,8):=by kernel_rfl
theorem td131_ok:TD.Ok Try.prog 131 td131:=TD.Ok.of ⟨_,_,_,Try.underlying131⟩ info131 rfl rfl (by decide) (fun _=>rfl)
theorem info132:(Try.prog.info? 132).map (fun i=>(i.zero,i.size,i.bytes))=some (some .nilFunc,1,8):=by kernel_rfl
theorem td132_ok:TD.Ok Try.prog 132 td132:=TD.Ok.of ⟨_,_,_,Try.underlying132⟩ info132 rfl rfl (by decide) (fun _=>rfl)
theorem info133:(Try.prog.info? 133).map (fun i=>(i.zero,i.size,i.bytes))=some (some .nilFunc,1,8):=by kernel_rfl
theorem td133_ok:TD.Ok Try.prog 133 td133:=TD.Ok.of ⟨_,_,_,Try.underlying133⟩ info133 rfl rfl (by decide) (fun _=>rfl)
theorem info134:(Try.prog.info? 134).map (fun i=>(i.zero,i.size,i.bytes))=some (some (.int .u32 0),1,4):=by kernel_rfl
theorem td134_ok:TD.Ok Try.prog 134 td134:=TD.Ok.of Try.underlying134 info134 rfl rfl (by decide) (fun _=>rfl)
theorem info135:(Try.prog.info? 135).map (fun i=>(i.zero,i.size,i.bytes))=some (some .nilFunc,1,8):=by kernel_rfl
theorem td135_ok:TD.Ok Try.prog 135 td135:=TD.Ok.of ⟨_,_,_,Try.underlying135⟩ info135 rfl rfl (by decide) (fun _=>rfl)
theorem info136:(Try.prog.info? 136).map (fun i=>(i.zero,i.size,i.bytes))=some (some .nilFunc,1,8):=by kernel_rfl
theorem td136_ok:TD.Ok Try.prog 136 td136:=TD.Ok.of ⟨_,_,_,Try.underlying136⟩ info136 rfl rfl (by decide) (fun _=>rfl)
theorem info137:(Try.prog.info? 137).map (fun i=>(i.zero,i.size,i.bytes))=some (some .nilFunc,1,8):=by kernel_rfl
theorem td137_ok:TD.Ok Try.prog 137 td137:=TD.Ok.of ⟨_,_,_,Try.underlying137⟩ info137 rfl rfl (by decide) (fun _=>rfl)
theorem info138:(Try.prog.info? 138).map (fun i=>(i.zero,i.size,i.bytes))=some (some .nilFunc,1,8):=by kernel_rfl
theorem td138_ok:TD.Ok Try.prog 138 td138:=TD.Ok.of ⟨_,_,_,Try.underlying138⟩ info138 rfl rfl (by decide) (fun _=>rfl)
theorem info139:(Try.prog.info? 139).map (fun i=>(i.zero,i.size,i.bytes))=some (some .nilFunc,1,8):=by kernel_rfl
theorem td139_ok:TD.Ok Try.prog 139 td139:=TD.Ok.of ⟨_,_,_,Try.underlying139⟩ info139 rfl rfl (by decide) (fun _=>rfl)
theorem info140:(Try.prog.info? 140).map (fun i=>(i.zero,i.size,i.bytes))=some (some (.int .u64 0),1,8):=by kernel_rfl
theorem td140_ok:TD.Ok Try.prog 140 td140:=TD.Ok.of Try.underlying140 info140 rfl rfl (by decide) (fun _=>rfl)
theorem info141:(Try.prog.info? 141).map (fun i=>(i.zero,i.size,i.bytes))=some (some .nilFunc,1,8):=by kernel_rfl
theorem td141_ok:TD.Ok Try.prog 141 td141:=TD.Ok.of ⟨_,_,_,Try.underlying141⟩ info141 rfl rfl (by decide) (fun _=>rfl)
theorem info142:(Try.prog.info? 142).map (fun i=>(i.zero,i.size,i.bytes))=some (some .nilFunc,1,8):=by kernel_rfl
theorem td142_ok:TD.Ok Try.prog 142 td142:=TD.Ok.of ⟨_,_,_,Try.underlying142⟩ info142 rfl rfl (by decide) (fun _=>rfl)
theorem info143:(Try.prog.info? 143).map (fun i=>(i.zero,i.size,i.bytes))=some (some .nilFunc,1,8):=by kernel_rfl
theorem td143_ok:TD.Ok Try.prog 143 td143:=TD.Ok.of ⟨_,_,_,Try.underlying143⟩ info143 rfl rfl (by decide) (fun _=>rfl)
theorem info144:(Try.prog.info? 144).map (fun i=>(i.zero,i.size,i.bytes))=some (some (.pointer none),1,8):=by kernel_rfl
theorem td144_ok:TD.Ok Try.prog 144 td144:=TD.Ok.of Try.underlying144 info144 rfl rfl (by decide) (fun _=>rfl)
theorem info145:(Try.prog.info? 145).map (fun i=>(i.zero,i.size,i.bytes))=some (some .nilFunc,1,8):=by kernel_rfl
theorem td145_ok:TD.Ok Try.prog 145 td145:=TD.Ok.of ⟨_,_,_,Try.underlying145⟩ info145 rfl rfl (by decide) (fun _=>rfl)
theorem info147:(Try.prog.info? 147).map (fun i=>(i.zero,i.size,i.bytes))=some (some .nilFunc,1,8):=by kernel_rfl
theorem td147_ok:TD.Ok Try.prog 147 td147:=TD.Ok.of ⟨_,_,_,Try.underlying147⟩ info147 rfl rfl (by decide) (fun _=>rfl)
theorem info148:(Try.prog.info? 148).map (fun i=>(i.zero,i.size,i.bytes))=some (some (.pointer none),1,8):=by kernel_rfl
theorem td148_ok:TD.Ok Try.prog 148 td148:=TD.Ok.of Try.underlying148 info148 rfl rfl (by decide) (fun _=>rfl)
theorem info150:(Try.prog.info? 150).map (fun i=>(i.zero,i.size,i.bytes))=some (some .nilFunc,1,8):=by kernel_rfl
theorem td150_ok:TD.Ok Try.prog 150 td150:=TD.Ok.of ⟨_,_,_,Try.underlying150⟩ info150 rfl rfl (by decide) (fun _=>rfl)
theorem info152:(Try.prog.info? 152).map (fun i=>(i.zero,i.size,i.bytes))=some (some .nilFunc,1,8):=by kernel_rfl
theorem td152_ok:TD.Ok Try.prog 152 td152:=TD.Ok.of ⟨_,_,_,Try.underlying152⟩ info152 rfl rfl (by decide) (fun _=>rfl)
theorem info154:(Try.prog.info? 154).map (fun i=>(i.zero,i.size,i.bytes))=some (some .nilFunc,1,8):=by kernel_rfl
theorem td154_ok:TD.Ok Try.prog 154 td154:=TD.Ok.of ⟨_,_,_,Try.underlying154⟩ info154 rfl rfl (by decide) (fun _=>rfl)
theorem info155:(Try.prog.info? 155).map (fun i=>(i.zero,i.size,i.bytes))=some (some .nilFunc,1,8):=by kernel_rfl
theorem td155_ok:TD.Ok Try.prog 155 td155:=TD.Ok.of ⟨_,_,_,Try.underlying155⟩ info155 rfl rfl (by decide) (fun _=>rfl)
theorem info161:(Try.prog.info? 161).map (fun i=>(i.zero,i.size,i.bytes))=some (some (.int .u8 0),1,1):=by kernel_rfl
theorem td161_ok:TD.Ok Try.prog 161 td161:=TD.Ok.of Try.underlying161 info161 rfl rfl (by decide) (fun _=>rfl)
theorem info162:(Try.prog.info? 162).map (fun i=>(i.zero,i.size,i.bytes))=some (some (.int .u8 0),1,1):=by kernel_rfl
theorem td162_ok:TD.Ok Try.prog 162 td162:=TD.Ok.of Try.underlying162 info162 rfl rfl (by decide) (fun _=>rfl)
theorem info163:(Try.prog.info? 163).map (fun i=>(i.zero,i.size,i.bytes))=some (some .nilFunc,1,8):=by kernel_rfl
theorem td163_ok:TD.Ok Try.prog 163 td163:=TD.Ok.of ⟨_,_,_,Try.underlying163⟩ info163 rfl rfl (by decide) (fun _=>rfl)
theorem info164:(Try.prog.info? 164).map (fun i=>(i.zero,i.size,i.bytes))=some (some (.pointer none),1,8):=by kernel_rfl
theorem td164_ok:TD.Ok Try.prog 164 td164:=TD.Ok.of Try.underlying164 info164 rfl rfl (by decide) (fun _=>rfl)
theorem info165:(Try.prog.info? 165).map (fun i=>(i.zero,i.size,i.bytes))=some (some (.int .i32 0),1,4):=by kernel_rfl
theorem td165_ok:TD.Ok Try.prog 165 td165:=TD.Ok.of Try.underlying165 info165 rfl rfl (by decide) (fun _=>rfl)
theorem info166:(Try.prog.info? 166).map (fun i=>(i.zero,i.size,i.bytes))=some (some (.int .i32 0),1,4):=by kernel_rfl
theorem td166_ok:TD.Ok Try.prog 166 td166:=TD.Ok.of Try.underlying166 info166 rfl rfl (by decide) (fun _=>rfl)
set_option maxRecDepth 100000 in
theorem tabL_ok:∀p∈tabL,TD.Ok Try.prog p.1 p.2:=
  (ν7.2 ⟨td1_ok,(ν7.2 ⟨td2_ok,(ν7.2 ⟨td3_ok,(ν7.2 ⟨td4_ok,(ν7.2 ⟨td5_ok,(ν7.2 ⟨td6_ok,(ν7.2 ⟨td9_ok,(ν7.2 ⟨td10_ok,(ν7.2 ⟨td11_ok,(ν7.2 ⟨td12_ok,(ν7.2 ⟨td15_ok,(ν7.2 ⟨td16_ok,(ν7.2 ⟨td17_ok,(ν7.2 ⟨td21_ok,(ν7.2 ⟨td22_ok,(ν7.2 ⟨td23_ok,(ν7.2 ⟨td24_ok,(ν7.2 ⟨td25_ok,(ν7.2 ⟨td26_ok,(ν7.2 ⟨td27_ok,(ν7.2 ⟨td29_ok,(ν7.2 ⟨td30_ok,(ν7.2 ⟨td31_ok,(ν7.2 ⟨td32_ok,(ν7.2 ⟨td33_ok,(ν7.2 ⟨td34_ok,(ν7.2 ⟨td35_ok,(ν7.2 ⟨td36_ok,(ν7.2 ⟨td37_ok,(ν7.2 ⟨td38_ok,(ν7.2 ⟨td39_ok,(ν7.2 ⟨td40_ok,(ν7.2 ⟨td41_ok,(ν7.2 ⟨td42_ok,(ν7.2 ⟨td44_ok,(ν7.2 ⟨td46_ok,(ν7.2 ⟨td48_ok,(ν7.2 ⟨td49_ok,(ν7.2 ⟨td51_ok,(ν7.2 ⟨td52_ok,(ν7.2 ⟨td54_ok,(ν7.2 ⟨td56_ok,(ν7.2 ⟨td57_ok,(ν7.2 ⟨td59_ok,(ν7.2 ⟨td60_ok,(ν7.2 ⟨td61_ok,(ν7.2 ⟨td62_ok,(ν7.2 ⟨td63_ok,(ν7.2 ⟨td65_ok,(ν7.2 ⟨td66_ok,(ν7.2 ⟨td68_ok,(ν7.2 ⟨td70_ok,(ν7.2 ⟨td71_ok,(ν7.2 ⟨td72_ok,(ν7.2 ⟨td73_ok,(ν7.2 ⟨td74_ok,(ν7.2 ⟨td75_ok,(ν7.2 ⟨td76_ok,(ν7.2 ⟨td77_ok,(ν7.2 ⟨td78_ok,(ν7.2 ⟨td79_ok,(ν7.2 ⟨td80_ok,(ν7.2 ⟨td81_ok,(ν7.2 ⟨td82_ok,(ν7.2 ⟨td83_ok,(ν7.2 ⟨td84_ok,(ν7.2 ⟨td85_ok,(ν7.2 ⟨td86_ok,(ν7.2 ⟨td87_ok,(ν7.2 ⟨td88_ok,(ν7.2 ⟨td89_ok,(ν7.2 ⟨td90_ok,(ν7.2 ⟨td91_ok,(ν7.2 ⟨td92_ok,(ν7.2 ⟨td93_ok,(ν7.2 ⟨td94_ok,(ν7.2 ⟨td95_ok,(ν7.2 ⟨td96_ok,(ν7.2 ⟨td97_ok,(ν7.2 ⟨td98_ok,(ν7.2 ⟨td99_ok,(ν7.2 ⟨td100_ok,(ν7.2 ⟨td101_ok,(ν7.2 ⟨td102_ok,(ν7.2 ⟨td103_ok,(ν7.2 ⟨td104_ok,(ν7.2 ⟨td105_ok,(ν7.2 ⟨td106_ok,(ν7.2 ⟨td107_ok,(ν7.2 ⟨td108_ok,(ν7.2 ⟨td109_ok,(ν7.2 ⟨td110_ok,(ν7.2 ⟨td111_ok,(ν7.2 ⟨td112_ok,(ν7.2 ⟨td113_ok,(ν7.2 ⟨td114_ok,(ν7.2 ⟨td115_ok,(ν7.2 ⟨td116_ok,(ν7.2 ⟨td117_ok,(ν7.2 ⟨td118_ok,(ν7.2 ⟨td119_ok,(ν7.2 ⟨td120_ok,(ν7.2 ⟨td121_ok,(ν7.2 ⟨td122_ok,(ν7.2 ⟨td123_ok,(ν7.2 ⟨td124_ok,(ν7.2 ⟨td125_ok,(ν7.2 ⟨td126_ok,(ν7.2 ⟨td127_ok,(ν7.2 ⟨td129_ok,(ν7.2 ⟨td130_ok,(ν7.2 ⟨td131_ok,(ν7.2 ⟨td132_ok,(ν7.2 ⟨td133_ok,(ν7.2 ⟨td134_ok,(ν7.2 ⟨td135_ok,(ν7.2 ⟨td136_ok,(ν7.2 ⟨td137_ok,(ν7.2 ⟨td138_ok,(ν7.2 ⟨td139_ok,(ν7.2 ⟨td140_ok,(ν7.2 ⟨td141_ok,(ν7.2 ⟨td142_ok,(ν7.2 ⟨td143_ok,(ν7.2 ⟨td144_ok,(ν7.2 ⟨td145_ok,(ν7.2 ⟨td147_ok,(ν7.2 ⟨td148_ok,(ν7.2 ⟨td150_ok,(ν7.2 ⟨td152_ok,(ν7.2 ⟨td154_ok,(ν7.2 ⟨td155_ok,(ν7.2 ⟨td161_ok,(ν7.2 ⟨td162_ok,(ν7.2 ⟨td163_ok,(ν7.2 ⟨td164_ok,(ν7.2 ⟨td165_ok,(ν7.2 ⟨td166_ok,(fun _ h=>by cases h)⟩)⟩)⟩)⟩)⟩)⟩)⟩)⟩)⟩)⟩)⟩)⟩)⟩)⟩)⟩)⟩)⟩)⟩)⟩)⟩)⟩)⟩)⟩)⟩)⟩)⟩)⟩)⟩)⟩)⟩)⟩)⟩)⟩)⟩)⟩)⟩)⟩)⟩)⟩)⟩)⟩)⟩)⟩)⟩)⟩)⟩)⟩)⟩)⟩)⟩)⟩)⟩)⟩)⟩)⟩)⟩)⟩)⟩)⟩)⟩)⟩)⟩)⟩)⟩)⟩)⟩)⟩)⟩)⟩)⟩)⟩)⟩)⟩)⟩)⟩)⟩)⟩)⟩)⟩)⟩)⟩)⟩)⟩)⟩)⟩)⟩)⟩)⟩)⟩)⟩)⟩)⟩)⟩)⟩)⟩)⟩)⟩)⟩)⟩)⟩)⟩)⟩)⟩)⟩)⟩)⟩)⟩)⟩)⟩)⟩)⟩)⟩)⟩)⟩)⟩)⟩)⟩)⟩)⟩)⟩)⟩)⟩)⟩)⟩)⟩)⟩)⟩)⟩)⟩)⟩)⟩)⟩)⟩)⟩)⟩)⟩)⟩)⟩)
theorem mixed:Try.prog.follows .mixedOrders=true:=by kernel_rfl
theorem tab_ok:tab.Ok Try.prog:=Tab.Ok.of_list tabL_ok
end Go.Proofs.Ytjdhigcefkihiaa
namespace Go.Proofs.Ytjdhigcefkihiaa
open Go Go.Sep
attribute [local irreducible] wpC headF
def D3:Info:=⟨156,fun i=>if i=8 then ([[],[0],[],[0,1,2],[0,1,2,3],[0,1,2,3,4],[0,1,2,3,4,5],[0,1,2,3,4,5],[0,1,2,3,4,5],[0,1,2,3,4,5,6],[0,1,2,3,4,5,6,7,9],[0,1,2,3,4,5,6,7,8,9,10]],[(0,[]),(2,[]),(1,[2]),(3,[]),(4,[]),(5,[]),(6,[]),(7,[]),(8,[]),(9,[]),(10,[]),(11,[])]) else if i=16 then ([[],[],[1],[0,1,2],[0,1,2,3]],[(0,[]),(1,[]),(2,[0]),(3,[]),(4,[])]) else if i=35 then ([[],[0],[],[0,1,2],[0,1,2,3],[0,1,2,3,4],[0,1,2,3,4,5],[0,1,2,3,4,5],[0,1,2,3,4,5],[0,1,2,3,4,5,6],[0,1,2,3,4,5,6,7,9],[0,1,2,3,4,5,6,7,8,9,10]],[(0,[]),(2,[]),(1,[2]),(3,[]),(4,[]),(5,[]),(6,[]),(7,[]),(8,[]),(9,[]),(10,[]),(11,[])]) else ([],[]),fun i=>([],[])⟩
def W3 (v0:AV) (v1:AV) (H:Heap) (K:AV→Heap→Prop):Prop:=
 boxV v1 H fun v3 H1=>
 CallT Try.prog 8 [v0,(AV.p (.int .i64 1048576))] H1 fun v22 H2=>
 binV tab .lss 3 v22 (AV.p (.int .i64 0)) fun v24=>
 condV v24 (K (AV.p (.bool true)) H2)
 (loadV tab 25 v3 H2 fun v25=>
 CallT Try.prog 9 [v25,v22] H2 fun v27 H3=>
 binV tab .lss 3 v27 (AV.p (.int .i64 0)) fun v29=>
 condV v29 (K (AV.p (.bool true)) H3)
 (loadV tab 25 v3 H3 fun v33=>
 CallT Try.prog 11 [v0] H3 fun v32 H4=>
 (loadV tab 25 v3 H4 fun v9033=>
 v33=v9033)∧
 CallT Try.prog 12 [v33] H4 fun v34 H5=>
 CallT Try.prog 10 [v32,v34] H5 fun v35 H6=>
 extractV v35 0 fun v36=>
 extractV v35 1 fun v37=>
 extractV v35 2 fun v38=>
 CallT Try.prog 11 [v0] H6 fun v40 H7=>
 loadV tab 25 v3 H7 fun v41=>
 CallT Try.prog 12 [v41] H7 fun v42 H8=>
 allocV tab 32 H8 fun v10 H9=>
 storeV tab 32 v10 v42 H9 fun H10=>
 loadV tab 32 v10 H10 fun v45=>
 CallT Try.prog 13 [v40,v45] H10 fun v46 H11=>
 extractV v46 0 fun v47=>
 extractV v46 1 fun v48=>
 extractV v46 2 fun v49=>
 CallT Try.prog 14 [v47,v36] H11 fun v52 H12=>
 unV .not v52 fun v53=>
 grdV v53 false (CallT Try.prog 14 [v48,v37] H12 fun v57 H13=>
 unV .not v57 fun v58=>
 grdV v58 false (binV tab .neq 4 v49 v38 fun v63=>
 condV v63 (K (AV.p (.bool false)) H13)
 (CallT Try.prog 11 [v0] H13 fun v67 H14=>
 CallT Try.prog 15 [v40,v67] H14 fun v68 H15=>
 unV .not v68 fun v69=>
 condV v69 (K (AV.p (.bool false)) H15)
 (loadV tab 32 v10 H15 fun v70=>
 loadV tab 25 v3 H15 fun v71=>
 CallT Try.prog 12 [v71] H15 fun v72 H16=>
 (loadV tab 32 v10 H16 fun v9070=>
 v70=v9070)∧
 CallT Try.prog 16 [v70,v72] H16 fun v73 H17=>
 unV .not v73 fun v74=>
 condV v74 (K (AV.p (.bool false)) H17)
 (CallT Try.prog 17 [v40,(AV.p (.int .i64 1))] H17 fun v77 H18=>
 loadV tab 32 v10 H18 fun v78=>
 CallT Try.prog 18 [v78,v77] H18 fun v80 H19=>
 binV tab .lss 3 v80 (AV.p (.int .i64 0)) fun v82=>
 grdV v82 false (CallT Try.prog 14 [v47,v36] H19 fun v86 H20=>
 unV .not v86 fun v87=>
 grdV v87 false (CallT Try.prog 14 [v48,v37] H20 fun v92 H21=>
 unV .not v92 fun v93=>
 grdV v93 false (binV tab .neq 4 v49 v38 fun v98=>
 condV v98 (K (AV.p (.bool false)) H21)
 (CallT Try.prog 19 [v47,(AV.p (.int .i64 1))] H21 fun v102 H22=>
 CallT Try.prog 19 [v48,v102] H22 fun v105 H23=>
 CallT Try.prog 20 [v47,(AV.p (.int .i64 1))] H23 fun v108 H24=>
 binV tab .lss 3 v108 (AV.p (.int .i64 0)) fun v110=>
 condV v110 (K (AV.p (.bool false)) H24)
 (CallT Try.prog 20 [v48,v108] H24 fun v113 H25=>
 binV tab .lss 3 v113 (AV.p (.int .i64 0)) fun v115=>
 condV v115 (K (AV.p (.bool false)) H25)
 (binV tab .neq 3 v113 v105 fun v118=>
 condV v118 (K (AV.p (.bool false)) H25)
 (loadV tab 25 v3 H25 fun v122=>
 CallT Try.prog 11 [v0] H25 fun v121 H26=>
 (loadV tab 25 v3 H26 fun v9122=>
 v122=v9122)∧
 CallT Try.prog 12 [v122] H26 fun v123 H27=>
 CallT Try.prog 13 [v121,v123] H27 fun v124 H28=>
 extractV v124 0 fun v125=>
 extractV v124 1 fun v126=>
 extractV v124 2 fun v127=>
 CallT Try.prog 14 [v125,v36] H28 fun v130 H29=>
 unV .not v130 fun v131=>
 grdV v131 false (CallT Try.prog 14 [v126,v37] H29 fun v135 H30=>
 unV .not v135 fun v136=>
 grdV v136 false (binV tab .neq 4 v127 v38 fun v141=>
 condV v141 (K (AV.p (.bool false)) H30)
 (CallT Try.prog 20 [v47,(AV.p (.int .i64 1))] H30 fun v145 H31=>
 binV tab .lss 3 v145 (AV.p (.int .i64 0)) fun v147=>
 condV v147 (K (AV.p (.bool false)) H31)
 (CallT Try.prog 20 [v48,v145] H31 fun v150 H32=>
 binV tab .lss 3 v150 (AV.p (.int .i64 0)) fun v152=>
 condV v152 (K (AV.p (.bool false)) H32)
 (binV tab .neq 3 v150 v105 fun v155=>
 condV v155 (K (AV.p (.bool false)) H32)
 (K (AV.p (.bool true)) H32)))))
 (K (AV.p (.bool false)) H30))
 (K (AV.p (.bool false)) H29))))))
 (K (AV.p (.bool false)) H21))
 (K (AV.p (.bool false)) H20))
 (K (AV.p (.bool false)) H19)))))
 (K (AV.p (.bool false)) H13))
 (K (AV.p (.bool false)) H12)))
def D6:Info:=⟨221,fun i=>([],[]),fun i=>([],[])⟩
def J6_0 (K:AV→Heap→Prop) (v1:AV) (H:Heap):Prop:=
 CallT Try.prog 44 [v1] H fun v202 H22=>
 CallT Try.prog 41 [v202] H22 fun v205 H23=>
 extractV v205 0 fun v206=>
 extractV v205 1 fun v207=>
 CallT Try.prog 45 [v202] H23 fun v210 H24=>
 extractV v210 0 fun v211=>
 extractV v210 1 fun v212=>
 binV tab .eql 4 v207 v212 fun v215=>
 grdV v215 true (binV tab .eql 4 v206 v211 fun v219=>
 K v219 H24)
 (K (AV.p (.bool false)) H24)
def J6_1 (K:AV→Heap→Prop) (v1:AV) (v5:AV) (v6:AV) (v7:AV) (v8:AV) (v9:AV) (v14:AV) (v15:AV) (H:Heap):Prop:=
 grdV v9 true (condV v15 (loadV tab 32 v6 H fun v152=>
 CallT Try.prog 28 [v14,v152,v7] H fun v154 H17=>
 extractV v154 0 fun v155=>
 extractV v154 1 fun v156=>
 CallT Try.prog 41 [v14] H17 fun v159 H18=>
 extractV v159 0 fun v160=>
 extractV v159 1 fun v161=>
 CallT Try.prog 42 [v5] H18 fun v164 H19=>
 extractV v164 0 fun v165=>
 extractV v164 1 fun v166=>
 CallT Try.prog 42 [v14] H19 fun v169 H20=>
 extractV v169 0 fun v170=>
 extractV v169 1 fun v171=>
 unV .not v156 fun v173=>
 grdV v173 false (binV tab .neq 4 v155 v8 fun v177=>
 grdV v177 false (unV .not v161 fun v181=>
 grdV v181 false (unV .not v160 fun v185=>
 grdV v185 false (unV .not v166 fun v189=>
 grdV v189 false (unV .not v171 fun v193=>
 grdV v193 false (CallT Try.prog 43 [v165,v170] H20 fun v198 H21=>
 unV .not v198 fun v199=>
 condV v199 (K (AV.p (.bool false)) H21)
 (J6_0 K v1 H21))
 (K (AV.p (.bool false)) H20))
 (K (AV.p (.bool false)) H20))
 (K (AV.p (.bool false)) H20))
 (K (AV.p (.bool false)) H20))
 (K (AV.p (.bool false)) H20))
 (K (AV.p (.bool false)) H20))
 (J6_0 K v1 H))
 (J6_0 K v1 H)
def W6 (v0:AV) (v1:AV) (H:Heap) (K:AV→Heap→Prop):Prop:=
 CallT Try.prog 21 [v0,v1] H fun v39 H1=>
 condV v39 (K (AV.p (.bool true)) H1)
 (CallT Try.prog 26 [v0] H1 fun v42 H2=>
 extractV v42 0 fun v43=>
 extractV v42 1 fun v44=>
 extractV v42 2 fun v45=>
 allocV tab 32 H2 fun v6 H3=>
 storeV tab 32 v6 v44 H3 fun H4=>
 loadV tab 32 v6 H4 fun v48=>
 CallT Try.prog 28 [v43,v48,v45] H4 fun v50 H5=>
 extractV v50 0 fun v51=>
 extractV v50 1 fun v52=>
 loadV tab 32 v6 H5 fun v55=>
 CallT Try.prog 32 [v43,v55,v45] H5 fun v57 H6=>
 extractV v57 0 fun v58=>
 extractV v57 1 fun v59=>
 binV tab .neq 4 v52 v59 fun v62=>
 grdV v62 false (binV tab .neq 4 v51 v58 fun v66=>
 grdV v66 false (CallT Try.prog 37 [v43] H6 fun v70 H7=>
 CallT Try.prog 38 [v43] H7 fun v72 H8=>
 binV tab .neq 4 v70 v72 fun v73=>
 condV v73 (K (AV.p (.bool false)) H8)
 (CallT Try.prog 39 [v43,(AV.p (.bool true))] H8 fun v77 H9=>
 extractV v77 0 fun v78=>
 extractV v77 1 fun v79=>
 CallT Try.prog 39 [v43,(AV.p (.bool false))] H9 fun v82 H10=>
 extractV v82 0 fun v83=>
 extractV v82 1 fun v84=>
 CallT Try.prog 40 [v43,(AV.p (.bool true))] H10 fun v87 H11=>
 extractV v87 0 fun v88=>
 extractV v87 1 fun v89=>
 CallT Try.prog 40 [v43,(AV.p (.bool false))] H11 fun v92 H12=>
 extractV v92 0 fun v93=>
 extractV v92 1 fun v94=>
 binV tab .neq 4 v79 v89 fun v97=>
 grdV v97 false (CallT Try.prog 25 [v78,v88] H12 fun v101 H13=>
 unV .not v101 fun v102=>
 grdV v102 false (binV tab .neq 4 v84 v94 fun v107=>
 grdV v107 false (CallT Try.prog 25 [v83,v93] H13 fun v112 H14=>
 unV .not v112 fun v113=>
 condV v113 (K (AV.p (.bool false)) H14)
 (grdV v52 true (condV v79 (loadV tab 32 v6 H14 fun v121=>
 CallT Try.prog 28 [v78,v121,v45] H14 fun v123 H15=>
 extractV v123 0 fun v124=>
 extractV v123 1 fun v125=>
 CallT Try.prog 41 [v78] H15 fun v128 H16=>
 extractV v128 0 fun v129=>
 extractV v128 1 fun v130=>
 unV .not v125 fun v132=>
 grdV v132 false (binV tab .eql 4 v124 v51 fun v136=>
 grdV v136 false (unV .not v130 fun v140=>
 grdV v140 false (unV .not v129 fun v144=>
 condV v144 (K (AV.p (.bool false)) H16)
 (J6_1 K v1 v43 v6 v45 v51 v52 v83 v84 H16))
 (K (AV.p (.bool false)) H16))
 (K (AV.p (.bool false)) H16))
 (K (AV.p (.bool false)) H16))
 (J6_1 K v1 v43 v6 v45 v51 v52 v83 v84 H14))
 (J6_1 K v1 v43 v6 v45 v51 v52 v83 v84 H14)))
 (K (AV.p (.bool false)) H13))
 (K (AV.p (.bool false)) H13))
 (K (AV.p (.bool false)) H12)))
 (K (AV.p (.bool false)) H6))
 (K (AV.p (.bool false)) H6))
theorem W6_wp (v0:AV) (v1:AV) (H:Heap) (K:AV→Heap→Prop):wpC Try.prog tab D6 (bodyOf Try.f6) (retF tab [.tmp 4] K) (nthA [v0,v1]) H=W6 v0 v1 H K:=by kernel_rfl
theorem W6_ok {v0 v1:AV} {H:Heap} {K:AV→Heap→Prop} (h:W6 v0 v1 H K):CallT Try.prog 6 [v0,v1] H K:=
  CallT.of_wp (D:=D6) tab_ok mixed Try.func6 (c:=bodyOf Try.f6) (by kernel_rfl) rfl (by kernel_rfl) (rs:=#[.tmp 4]) rfl (by decide +kernel) (by kernel_rfl) (W6_wp v0 v1 H K) h
end Go.Proofs.Ytjdhigcefkihiaa
namespace Go.Proofs.Ytjdhigcefkihiaa
open Go Go.Sep
attribute [local irreducible] wpC headF
def D18:Info:=⟨14,fun i=>([],[]),fun i=>([],[])⟩
def W18 (v0:AV) (v1:AV) (H:Heap) (K:AV→Heap→Prop):Prop:=
 boxV v0 H fun v2 H1=>
 fieldAddrV tab 32 v2 0 fun v5=>
 loadV tab 23 v5 H1 fun v6=>
 CallT Try.prog 19 [v6,v1] H1 fun v8 H2=>
 fieldAddrV tab 32 v2 1 fun v9=>
 loadV tab 23 v9 H2 fun v10=>
 CallT Try.prog 19 [v10,v8] H2 fun v12 H3=>
 K v12 H3
theorem W18_wp (v0:AV) (v1:AV) (H:Heap) (K:AV→Heap→Prop):wpC Try.prog tab D18 (bodyOf Try.f18) (retF tab [.tmp 4] K) (nthA [v0,v1]) H=W18 v0 v1 H K:=by kernel_rfl
theorem W18_ok {v0 v1:AV} {H:Heap} {K:AV→Heap→Prop} (h:W18 v0 v1 H K):CallT Try.prog 18 [v0,v1] H K:=
  CallT.of_wp (D:=D18) tab_ok mixed Try.func18 (c:=bodyOf Try.f18) (by kernel_rfl) rfl (by kernel_rfl) (rs:=#[.tmp 4]) rfl (by decide +kernel) (by kernel_rfl) (W18_wp v0 v1 H K) h
def D19:Info:=⟨19,fun i=>([],[]),fun i=>if i=2 then ([0],[1,5]) else ([],[])⟩
def L19_0 (K:AV→Heap→Prop) (v0:AV) (v1:AV) (v5:AV) (H:Heap):Prop:=LoopV (wpC Try.prog tab D19 (cAt [1,0,1,0,0] (bodyOf Try.f19))) [0] (PostF.block 0 (PostF.thenA (wpC Try.prog tab D19 (cAt [1,1] (bodyOf Try.f19))) (retF tab [.tmp 4] K))) [1,5] [v0,v1,AV.any,AV.any,AV.any,v5,AV.any,AV.any,AV.any,AV.any,AV.any,AV.any,AV.any,AV.any,AV.any,AV.any,AV.any,AV.any,AV.any] H
def B19_0 (K:AV→Heap→Prop) (N1:AV→AV→Heap→Prop) (v0:AV) (v1:AV) (v5:AV) (H:Heap):Prop:=
 lenV tab 23 v0 fun v8=>
 binV tab .lss 3 v5 v8 fun v9=>
 condV v9 (indexAddrV tab 23 v0 v5 fun v15=>
 storeV tab 3 v15 v1 H fun H1=>
 binV tab .add 3 v1 (AV.p (.int .i64 1)) fun v17=>
 binV tab .add 3 v5 (AV.p (.int .i64 1)) fun v11=>
 N1 v17 v11 H1)
 (K v1 H)
def W19 (v0:AV) (v1:AV) (H:Heap) (K:AV→Heap→Prop):Prop:=
 L19_0 K v0 v1 (AV.p (.int .i64 0)) H
theorem W19_wp (v0:AV) (v1:AV) (H:Heap) (K:AV→Heap→Prop):wpC Try.prog tab D19 (bodyOf Try.f19) (retF tab [.tmp 4] K) (nthA [v0,v1]) H=W19 v0 v1 H K:=by kernel_rfl
theorem W19_ok {v0 v1:AV} {H:Heap} {K:AV→Heap→Prop} (h:W19 v0 v1 H K):CallT Try.prog 19 [v0,v1] H K:=
  CallT.of_wp (D:=D19) tab_ok mixed Try.func19 (c:=bodyOf Try.f19) (by kernel_rfl) rfl (by kernel_rfl) (rs:=#[.tmp 4]) rfl (by decide +kernel) (by kernel_rfl) (W19_wp v0 v1 H K) h
theorem L19_0_rule {K:AV→Heap→Prop} {v0 v1 v5:AV} {H:Heap} {σ:Type} (s0:σ) (f1:σ→AV) (f5:σ→AV) (TH:σ→Heap) (pre:σ→Prop) (μ:σ→Nat)
    (h0:pre s0∧AV.wk v1 (f1 s0)∧AV.wk v5 (f5 s0)∧Heap.le (TH s0) H)
    (round:∀s,pre s→B19_0 K (fun w1 w5 H'=>∃s',pre s'∧μ s' < μ s∧AV.wk w1 (f1 s')∧AV.wk w5 (f5 s')∧Heap.le (TH s') H') v0 (f1 s) (f5 s) (TH s)) :
    L19_0 K v0 v1 v5 H:=by
  unfold L19_0
  exact LoopV.mk s0 (fun s=>[f1 s,f5 s]) TH pre μ (fun _=>rfl) (Eq.mp (by kernel_rfl) h0) (fun s hs=>Eq.mp (by kernel_rfl) (round s hs))
def D21:Info:=⟨16,fun i=>([],[]),fun i=>([],[])⟩
def W21 (v0:AV) (v1:AV) (H:Heap) (K:AV→Heap→Prop):Prop:=
 lenV tab 41 v0 fun v6=>
 binV tab .gtr 3 v6 (AV.p (.int .i64 1048576)) fun v7=>
 grdV v7 false (lenV tab 41 v1 fun v10=>
 lenV tab 41 v0 fun v12=>
 binV tab .sub 3 (AV.p (.int .i64 1048576)) v12 fun v13=>
 binV tab .gtr 3 v10 v13 fun v14=>
 K v14 H)
 (K (AV.p (.bool true)) H)
theorem W21_wp (v0:AV) (v1:AV) (H:Heap) (K:AV→Heap→Prop):wpC Try.prog tab D21 (bodyOf Try.f21) (retF tab [.tmp 4] K) (nthA [v0,v1]) H=W21 v0 v1 H K:=by kernel_rfl
theorem W21_ok {v0 v1:AV} {H:Heap} {K:AV→Heap→Prop} (h:W21 v0 v1 H K):CallT Try.prog 21 [v0,v1] H K:=
  CallT.of_wp (D:=D21) tab_ok mixed Try.func21 (c:=bodyOf Try.f21) (by kernel_rfl) rfl (by kernel_rfl) (rs:=#[.tmp 4]) rfl (by decide +kernel) (by kernel_rfl) (W21_wp v0 v1 H K) h
def D25:Info:=⟨26,fun i=>if i=6 then ([[],[],[0,1],[0,1,2],[],[],[4,5],[4,5,6],[0,1,2,3,4,5,6,7]],[(0,[]),(1,[]),(2,[]),(3,[]),(4,[]),(5,[]),(6,[]),(7,[]),(8,[])]) else ([],[]),fun i=>if i=4 then ([0,1,12],[13]) else ([],[])⟩
def L25_0 (K:AV→Heap→Prop) (v0:AV) (v1:AV) (v12:AV) (v13:AV) (H:Heap):Prop:=LoopV (wpC Try.prog tab D25 (cAt [1,1,0,1,0,0] (bodyOf Try.f25))) [0,1,12] (PostF.block 0 (PostF.thenA (wpC Try.prog tab D25 (cAt [1,1,1] (bodyOf Try.f25))) (retF tab [.tmp 4] K))) [13] [v0,v1,AV.any,AV.any,AV.any,AV.any,AV.any,AV.any,AV.any,AV.any,AV.any,AV.any,v12,v13,AV.any,AV.any,AV.any,AV.any,AV.any,AV.any,AV.any,AV.any,AV.any,AV.any,AV.any,AV.any] H
def B25_0 (K:AV→Heap→Prop) (N1:AV→Heap→Prop) (v0:AV) (v1:AV) (v12:AV) (v13:AV) (H:Heap):Prop:=
 binV tab .lss 3 v13 v12 fun v14=>
 condV v14 (indexAddrV tab 30 v0 v13 fun v18=>
 loadV tab 80 v18 H fun v19=>
 indexAddrV tab 30 v1 v13 fun v22=>
 loadV tab 80 v22 H fun v23=>
 binV tab .neq 80 v19 v23 fun v24=>
 condV v24 (K (AV.p (.bool false)) H)
 (binV tab .add 3 v13 (AV.p (.int .i64 1)) fun v25=>
 N1 v25 H))
 (K (AV.p (.bool true)) H)
def W25 (v0:AV) (v1:AV) (H:Heap) (K:AV→Heap→Prop):Prop:=
 lenV tab 30 v0 fun v7=>
 lenV tab 30 v1 fun v9=>
 binV tab .neq 3 v7 v9 fun v10=>
 condV v10 (K (AV.p (.bool false)) H)
 (lenV tab 30 v0 fun v12=>
 L25_0 K v0 v1 v12 (AV.p (.int .i64 0)) H)
theorem W25_wp (v0:AV) (v1:AV) (H:Heap) (K:AV→Heap→Prop):wpC Try.prog tab D25 (bodyOf Try.f25) (retF tab [.tmp 4] K) (nthA [v0,v1]) H=W25 v0 v1 H K:=by kernel_rfl
theorem W25_ok {v0 v1:AV} {H:Heap} {K:AV→Heap→Prop} (h:W25 v0 v1 H K):CallT Try.prog 25 [v0,v1] H K:=
  CallT.of_wp (D:=D25) tab_ok mixed Try.func25 (c:=bodyOf Try.f25) (by kernel_rfl) rfl (by kernel_rfl) (rs:=#[.tmp 4]) rfl (by decide +kernel) (by kernel_rfl) (W25_wp v0 v1 H K) h
theorem L25_0_rule {K:AV→Heap→Prop} {v0 v1 v12 v13:AV} {H:Heap} {σ:Type} (s0:σ) (f13:σ→AV) (TH:σ→Heap) (pre:σ→Prop) (μ:σ→Nat)
    (h0:pre s0∧AV.wk v13 (f13 s0)∧Heap.le (TH s0) H)
    (round:∀s,pre s→B25_0 K (fun w13 H'=>∃s',pre s'∧μ s' < μ s∧AV.wk w13 (f13 s')∧Heap.le (TH s') H') v0 v1 v12 (f13 s) (TH s)) :
    L25_0 K v0 v1 v12 v13 H:=by
  unfold L25_0
  exact LoopV.mk s0 (fun s=>[f13 s]) TH pre μ (fun _=>rfl) (Eq.mp (by kernel_rfl) h0) (fun s hs=>Eq.mp (by kernel_rfl) (round s hs))
def D26:Info:=⟨19,fun i=>if i=4 then ([[],[],[],[2],[0,2,3],[0,1,2,3,4],[0,1,2,3,4,5]],[(0,[]),(1,[]),(2,[]),(3,[1]),(4,[]),(5,[]),(6,[])]) else ([],[]),fun i=>([],[])⟩
def W26 (v0:AV) (H:Heap) (K:AV→Heap→Prop):Prop:=
 allocV tab 32 H fun v3 H1=>
 buildV tab 88 [(0,v0)] fun v9=>
 boxV v9 H1 fun v10 H2=>
 CallT Try.prog 74 [v10] H2 fun v12 H3=>
 CallT Try.prog 75 [v10] H3 fun v14 H4=>
 allocV tab 32 H4 fun v7 H5=>
 storeV tab 32 v7 v14 H5 fun H6=>
 loadV tab 32 v7 H6 fun v16=>
 CallT Try.prog 76 [v10] H6 fun v18 H7=>
 (loadV tab 32 v7 H7 fun v9016=>
 v16=v9016)∧
 storeV tab 32 v3 v16 H7 fun H8=>
 loadV tab 32 v3 H8 fun r1=>
 K (.tup [v12,r1,v18]) H8
theorem W26_wp (v0:AV) (H:Heap) (K:AV→Heap→Prop):wpC Try.prog tab D26 (bodyOf Try.f26) (retF tab [.tmp 2,.cell 3 32,.tmp 4] K) (nthA [v0]) H=W26 v0 H K:=by kernel_rfl
theorem W26_ok {v0:AV} {H:Heap} {K:AV→Heap→Prop} (h:W26 v0 H K):CallT Try.prog 26 [v0] H K:=
  CallT.of_wp (D:=D26) tab_ok mixed Try.func26 (c:=bodyOf Try.f26) (by kernel_rfl) rfl (by kernel_rfl) (rs:=#[.tmp 2,.cell 3 32,.tmp 4]) rfl (by decide +kernel) (by kernel_rfl) (W26_wp v0 H K) h
def D27:Info:=⟨23,fun i=>([],[]),fun i=>([],[])⟩
def W27 (v0:AV) (H:Heap) (K:AV→Heap→Prop):Prop:=
 boxV v0 H fun v1 H1=>
 fieldAddrV tab 32 v1 0 fun v3=>
 loadV tab 23 v3 H1 fun v4=>
 lenV tab 23 v4 fun v5=>
 binV tab .leq 3 v5 (AV.p (.int .i64 24)) fun v6=>
 grdV v6 true (fieldAddrV tab 32 v1 1 fun v8=>
 loadV tab 23 v8 H1 fun v9=>
 lenV tab 23 v9 fun v10=>
 CallT Try.prog 77 [v10,(AV.p (.int .i64 1)),(AV.p (.int .i64 24))] H1 fun v11 H2=>
 grdV v11 true (fieldAddrV tab 32 v1 0 fun v14=>
 loadV tab 23 v14 H2 fun v15=>
 CallT Try.prog 78 [v15,(AV.p (.int .i64 0)),(AV.p (.int .i64 7))] H2 fun v16 H3=>
 grdV v16 true (fieldAddrV tab 32 v1 1 fun v19=>
 loadV tab 23 v19 H3 fun v20=>
 CallT Try.prog 78 [v20,(AV.p (.int .i64 0)),(AV.p (.int .i64 7))] H3 fun v21 H4=>
 K v21 H4)
 (K (AV.p (.bool false)) H3))
 (K (AV.p (.bool false)) H2))
 (K (AV.p (.bool false)) H1)
theorem W27_wp (v0:AV) (H:Heap) (K:AV→Heap→Prop):wpC Try.prog tab D27 (bodyOf Try.f27) (retF tab [.tmp 2] K) (nthA [v0]) H=W27 v0 H K:=by kernel_rfl
theorem W27_ok {v0:AV} {H:Heap} {K:AV→Heap→Prop} (h:W27 v0 H K):CallT Try.prog 27 [v0] H K:=
  CallT.of_wp (D:=D27) tab_ok mixed Try.func27 (c:=bodyOf Try.f27) (by kernel_rfl) rfl (by kernel_rfl) (rs:=#[.tmp 2]) rfl (by decide +kernel) (by kernel_rfl) (W27_wp v0 H K) h
def D28:Info:=⟨45,fun i=>if i=4 then ([[],[0],[0,1],[],[],[4],[4,5],[3,4,5,6],[],[8],[8,9],[3,4,5,6,7,8,9,10],[0,1,2,3,4,5,6,7,8,9,10,11],[0,1,2,3,4,5,6,7,8,9,10,11,12]],[(0,[]),(1,[]),(2,[]),(3,[]),(4,[]),(5,[]),(6,[]),(7,[]),(8,[]),(9,[]),(10,[]),(11,[]),(12,[]),(13,[])]) else ([],[]),fun i=>([],[])⟩
def J28_0 (K:AV→Heap→Prop) (v0:AV) (v2:AV) (v4:AV) (H:Heap):Prop:=
 loadV tab 32 v4 H fun v39=>
 CallT Try.prog 63 [v39,v0] H fun v41 H5=>
 indexAddrV tab 76 v41 v2 fun v43=>
 loadV tab 4 v43 H5 fun v44=>
 K (.tup [v44,(AV.p (.bool true))]) H5
def W28 (v0:AV) (v1:AV) (v2:AV) (H:Heap) (K:AV→Heap→Prop):Prop:=
 boxV v1 H fun v4 H1=>
 CallT Try.prog 37 [v0] H1 fun v9 H2=>
 unV .not v9 fun v10=>
 grdV v10 false (loadV tab 32 v4 H2 fun v12=>
 CallT Try.prog 61 [v12] H2 fun v13 H3=>
 unV .not v13 fun v14=>
 grdV v14 false (CallT Try.prog 79 [v2] H3 fun v18 H4=>
 unV .not v18 fun v19=>
 condV v19 (K (.tup [(AV.p (.bool false)),(AV.p (.bool false))]) H4)
 (fieldAddrV tab 32 v4 0 fun v22=>
 loadV tab 23 v22 H4 fun v23=>
 lenV tab 23 v23 fun v24=>
 binV tab .geq 3 v2 v24 fun v25=>
 condV v25 (fieldAddrV tab 32 v4 0 fun v26=>
 loadV tab 23 v26 H4 fun v27=>
 lenV tab 23 v27 fun v28=>
 fieldAddrV tab 32 v4 0 fun v30=>
 loadV tab 23 v30 H4 fun v31=>
 lenV tab 23 v31 fun v32=>
 binV tab .sub 3 v2 v32 fun v33=>
 fieldAddrV tab 32 v4 1 fun v34=>
 loadV tab 23 v34 H4 fun v35=>
 lenV tab 23 v35 fun v36=>
 binV tab .rem 3 v33 v36 fun v37=>
 binV tab .add 3 v28 v37 fun v38=>
 J28_0 K v0 v38 v4 H4)
 (J28_0 K v0 v2 v4 H4)))
 (K (.tup [(AV.p (.bool false)),(AV.p (.bool false))]) H3))
 (K (.tup [(AV.p (.bool false)),(AV.p (.bool false))]) H2)
theorem W28_wp (v0:AV) (v1:AV) (v2:AV) (H:Heap) (K:AV→Heap→Prop):wpC Try.prog tab D28 (bodyOf Try.f28) (retF tab [.tmp 6,.tmp 7] K) (nthA [v0,v1,v2]) H=W28 v0 v1 v2 H K:=by kernel_rfl
theorem W28_ok {v0 v1 v2:AV} {H:Heap} {K:AV→Heap→Prop} (h:W28 v0 v1 v2 H K):CallT Try.prog 28 [v0,v1,v2] H K:=
  CallT.of_wp (D:=D28) tab_ok mixed Try.func28 (c:=bodyOf Try.f28) (by kernel_rfl) rfl (by kernel_rfl) (rs:=#[.tmp 6,.tmp 7]) rfl (by decide +kernel) (by kernel_rfl) (W28_wp v0 v1 v2 H K) h
def D32:Info:=⟨25,fun i=>([],[]),fun i=>([],[])⟩
def W32 (v0:AV) (v1:AV) (v2:AV) (H:Heap) (K:AV→Heap→Prop):Prop:=
 boxV v1 H fun v4 H1=>
 CallT Try.prog 38 [v0] H1 fun v9 H2=>
 unV .not v9 fun v10=>
 grdV v10 false (loadV tab 32 v4 H2 fun v12=>
 CallT Try.prog 27 [v12] H2 fun v13 H3=>
 unV .not v13 fun v14=>
 grdV v14 false (CallT Try.prog 77 [v2,(AV.p (.int .i64 0)),(AV.p (.int .i64 1000))] H3 fun v18 H4=>
 unV .not v18 fun v19=>
 condV v19 (K (.tup [(AV.p (.bool false)),(AV.p (.bool false))]) H4)
 (loadV tab 32 v4 H4 fun v22=>
 CallT Try.prog 82 [v0,v22,v2] H4 fun v24 H5=>
 K (.tup [v24,(AV.p (.bool true))]) H5))
 (K (.tup [(AV.p (.bool false)),(AV.p (.bool false))]) H3))
 (K (.tup [(AV.p (.bool false)),(AV.p (.bool false))]) H2)
theorem W32_wp (v0:AV) (v1:AV) (v2:AV) (H:Heap) (K:AV→Heap→Prop):wpC Try.prog tab D32 (bodyOf Try.f32) (retF tab [.tmp 6,.tmp 7] K) (nthA [v0,v1,v2]) H=W32 v0 v1 v2 H K:=by kernel_rfl
theorem W32_ok {v0 v1 v2:AV} {H:Heap} {K:AV→Heap→Prop} (h:W32 v0 v1 v2 H K):CallT Try.prog 32 [v0,v1,v2] H K:=
  CallT.of_wp (D:=D32) tab_ok mixed Try.func32 (c:=bodyOf Try.f32) (by kernel_rfl) rfl (by kernel_rfl) (rs:=#[.tmp 6,.tmp 7]) rfl (by decide +kernel) (by kernel_rfl) (W32_wp v0 v1 v2 H K) h
def D37:Info:=⟨39,fun i=>([],[]),fun i=>if i=5 then ([15,16],[3,17]) else ([],[])⟩
def L37_0 (K:AV→Heap→Prop) (v3:AV) (v15:AV) (v16:AV) (v17:AV) (H:Heap):Prop:=LoopV (wpC Try.prog tab D37 (cAt [1,1,1,0,1,0,0] (bodyOf Try.f37))) [15,16] (PostF.block 0 (PostF.thenA (wpC Try.prog tab D37 (cAt [1,1,1,1] (bodyOf Try.f37))) (retF tab [.tmp 2] K))) [3,17] [AV.any,AV.any,AV.any,v3,AV.any,AV.any,AV.any,AV.any,AV.any,AV.any,AV.any,AV.any,AV.any,AV.any,AV.any,v15,v16,v17,AV.any,AV.any,AV.any,AV.any,AV.any,AV.any,AV.any,AV.any,AV.any,AV.any,AV.any,AV.any,AV.any,AV.any,AV.any,AV.any,AV.any,AV.any,AV.any,AV.any,AV.any] H
def B37_0 (K:AV→Heap→Prop) (N1:AV→AV→Heap→Prop) (v3:AV) (v15:AV) (v16:AV) (v17:AV) (H:Heap):Prop:=
 binV tab .lss 3 v17 v16 fun v18=>
 condV v18 (indexAddrV tab 30 v15 v17 fun v19=>
 loadV tab 80 v19 H fun v20=>
 allocV tab 80 H fun v5 H1=>
 storeV tab 80 v5 v20 H1 fun H2=>
 fieldAddrV tab 80 v5 0 fun v21=>
 loadV tab 3 v21 H2 fun v22=>
 CallT Try.prog 69 [v22] H2 fun v23 H3=>
 loadV tab 80 v5 H3 fun v24=>
 CallT Try.prog 88 [v24] H3 fun v25 H4=>
 unV .not v25 fun v26=>
 grdV v26 false (binV tab .lss 3 v3 v23 fun v30=>
 condV v30 (K (AV.p (.bool false)) H4)
 (binV tab .sub 3 (AV.p (.int .i64 1)) v23 fun v34=>
 binV tab .add 3 v3 v34 fun v35=>
 binV tab .add 3 v17 (AV.p (.int .i64 1)) fun v36=>
 N1 v35 v36 H4))
 (K (AV.p (.bool false)) H4))
 (binV tab .eql 3 v3 (AV.p (.int .i64 1)) fun v38=>
 K v38 H)
def W37 (v0:AV) (H:Heap) (K:AV→Heap→Prop):Prop:=
 lenV tab 30 v0 fun v8=>
 binV tab .lss 3 v8 (AV.p (.int .i64 1)) fun v9=>
 grdV v9 false (lenV tab 30 v0 fun v12=>
 binV tab .gtr 3 v12 (AV.p (.int .i64 16)) fun v13=>
 condV v13 (K (AV.p (.bool false)) H)
 (lenV tab 30 v0 fun v16=>
 L37_0 K (AV.p (.int .i64 0)) v0 v16 (AV.p (.int .i64 0)) H))
 (K (AV.p (.bool false)) H)
theorem W37_wp (v0:AV) (H:Heap) (K:AV→Heap→Prop):wpC Try.prog tab D37 (bodyOf Try.f37) (retF tab [.tmp 2] K) (nthA [v0]) H=W37 v0 H K:=by kernel_rfl
theorem W37_ok {v0:AV} {H:Heap} {K:AV→Heap→Prop} (h:W37 v0 H K):CallT Try.prog 37 [v0] H K:=
  CallT.of_wp (D:=D37) tab_ok mixed Try.func37 (c:=bodyOf Try.f37) (by kernel_rfl) rfl (by kernel_rfl) (rs:=#[.tmp 2]) rfl (by decide +kernel) (by kernel_rfl) (W37_wp v0 H K) h
theorem L37_0_rule {K:AV→Heap→Prop} {v3 v15 v16 v17:AV} {H:Heap} {σ:Type} (s0:σ) (f3:σ→AV) (f17:σ→AV) (TH:σ→Heap) (pre:σ→Prop) (μ:σ→Nat)
    (h0:pre s0∧AV.wk v3 (f3 s0)∧AV.wk v17 (f17 s0)∧Heap.le (TH s0) H)
    (round:∀s,pre s→B37_0 K (fun w3 w17 H'=>∃s',pre s'∧μ s' < μ s∧AV.wk w3 (f3 s')∧AV.wk w17 (f17 s')∧Heap.le (TH s') H') (f3 s) v15 v16 (f17 s) (TH s)) :
    L37_0 K v3 v15 v16 v17 H:=by
  unfold L37_0
  exact LoopV.mk s0 (fun s=>[f3 s,f17 s]) TH pre μ (fun _=>rfl) (Eq.mp (by kernel_rfl) h0) (fun s hs=>Eq.mp (by kernel_rfl) (round s hs))
def D38:Info:=⟨39,fun i=>([],[]),fun i=>if i=5 then ([11,12],[3,13]) else ([],[])⟩
def L38_0 (K:AV→Heap→Prop) (v3:AV) (v11:AV) (v12:AV) (v13:AV) (H:Heap):Prop:=LoopV (wpC Try.prog tab D38 (cAt [1,1,1,0,1,0,0] (bodyOf Try.f38))) [11,12] (PostF.block 0 (PostF.thenA (wpC Try.prog tab D38 (cAt [1,1,1,1] (bodyOf Try.f38))) (retF tab [.tmp 2] K))) [3,13] [AV.any,AV.any,AV.any,v3,AV.any,AV.any,AV.any,AV.any,AV.any,AV.any,AV.any,v11,v12,v13,AV.any,AV.any,AV.any,AV.any,AV.any,AV.any,AV.any,AV.any,AV.any,AV.any,AV.any,AV.any,AV.any,AV.any,AV.any,AV.any,AV.any,AV.any,AV.any,AV.any,AV.any,AV.any,AV.any,AV.any,AV.any] H
def B38_0 (K:AV→Heap→Prop) (N1:AV→AV→Heap→Prop) (v3:AV) (v11:AV) (v12:AV) (v13:AV) (H:Heap):Prop:=
 binV tab .lss 3 v13 v12 fun v14=>
 condV v14 (indexAddrV tab 30 v11 v13 fun v15=>
 loadV tab 80 v15 H fun v16=>
 allocV tab 80 H fun v5 H2=>
 storeV tab 80 v5 v16 H2 fun H3=>
 fieldAddrV tab 80 v5 0 fun v17=>
 loadV tab 3 v17 H3 fun v18=>
 CallT Try.prog 72 [v18] H3 fun v19 H4=>
 binV tab .lss 3 v19 (AV.p (.int .i64 0)) fun v21=>
 grdV v21 false (loadV tab 80 v5 H4 fun v23=>
 CallT Try.prog 89 [v23] H4 fun v24 H5=>
 unV .not v24 fun v25=>
 grdV v25 false (binV tab .lss 3 v3 v19 fun v30=>
 condV v30 (K (AV.p (.bool false)) H5)
 (binV tab .sub 3 (AV.p (.int .i64 1)) v19 fun v34=>
 binV tab .add 3 v3 v34 fun v35=>
 binV tab .add 3 v13 (AV.p (.int .i64 1)) fun v36=>
 N1 v35 v36 H5))
 (K (AV.p (.bool false)) H5))
 (K (AV.p (.bool false)) H4))
 (binV tab .eql 3 v3 (AV.p (.int .i64 1)) fun v38=>
 K v38 H)
def W38 (v0:AV) (H:Heap) (K:AV→Heap→Prop):Prop:=
 lenV tab 30 v0 fun v8=>
 CallT Try.prog 77 [v8,(AV.p (.int .i64 1)),(AV.p (.int .i64 16))] H fun v9 H1=>
 unV .not v9 fun v10=>
 condV v10 (K (AV.p (.bool false)) H1)
 (lenV tab 30 v0 fun v12=>
 L38_0 K (AV.p (.int .i64 0)) v0 v12 (AV.p (.int .i64 0)) H1)
theorem W38_wp (v0:AV) (H:Heap) (K:AV→Heap→Prop):wpC Try.prog tab D38 (bodyOf Try.f38) (retF tab [.tmp 2] K) (nthA [v0]) H=W38 v0 H K:=by kernel_rfl
theorem W38_ok {v0:AV} {H:Heap} {K:AV→Heap→Prop} (h:W38 v0 H K):CallT Try.prog 38 [v0] H K:=
  CallT.of_wp (D:=D38) tab_ok mixed Try.func38 (c:=bodyOf Try.f38) (by kernel_rfl) rfl (by kernel_rfl) (rs:=#[.tmp 2]) rfl (by decide +kernel) (by kernel_rfl) (W38_wp v0 H K) h
theorem L38_0_rule {K:AV→Heap→Prop} {v3 v11 v12 v13:AV} {H:Heap} {σ:Type} (s0:σ) (f3:σ→AV) (f13:σ→AV) (TH:σ→Heap) (pre:σ→Prop) (μ:σ→Nat)
    (h0:pre s0∧AV.wk v3 (f3 s0)∧AV.wk v13 (f13 s0)∧Heap.le (TH s0) H)
    (round:∀s,pre s→B38_0 K (fun w3 w13 H'=>∃s',pre s'∧μ s' < μ s∧AV.wk w3 (f3 s')∧AV.wk w13 (f13 s')∧Heap.le (TH s') H') (f3 s) v11 v12 (f13 s) (TH s)) :
    L38_0 K v3 v11 v12 v13 H:=by
  unfold L38_0
  exact LoopV.mk s0 (fun s=>[f3 s,f13 s]) TH pre μ (fun _=>rfl) (Eq.mp (by kernel_rfl) h0) (fun s hs=>Eq.mp (by kernel_rfl) (round s hs))
def D39:Info:=⟨15,fun i=>([],[]),fun i=>([],[])⟩
def W39 (v0:AV) (v1:AV) (H:Heap) (K:AV→Heap→Prop):Prop:=
 CallT Try.prog 37 [v0] H fun v7 H1=>
 unV .not v7 fun v8=>
 condV v8 (K (.tup [(AV.p .nil),(AV.p (.bool false))]) H1)
 (CallT Try.prog 90 [v0,v1] H1 fun v11 H2=>
 CallT Try.prog 70 [v11] H2 fun v12 H3=>
 extractV v12 0 fun v13=>
 extractV v12 1 fun v14=>
 K (.tup [v13,v14]) H3)
theorem W39_wp (v0:AV) (v1:AV) (H:Heap) (K:AV→Heap→Prop):wpC Try.prog tab D39 (bodyOf Try.f39) (retF tab [.tmp 4,.tmp 5] K) (nthA [v0,v1]) H=W39 v0 v1 H K:=by kernel_rfl
theorem W39_ok {v0 v1:AV} {H:Heap} {K:AV→Heap→Prop} (h:W39 v0 v1 H K):CallT Try.prog 39 [v0,v1] H K:=
  CallT.of_wp (D:=D39) tab_ok mixed Try.func39 (c:=bodyOf Try.f39) (by kernel_rfl) rfl (by kernel_rfl) (rs:=#[.tmp 4,.tmp 5]) rfl (by decide +kernel) (by kernel_rfl) (W39_wp v0 v1 H K) h
def D40:Info:=⟨18,fun i=>([],[]),fun i=>([],[])⟩
def W40 (v0:AV) (v1:AV) (H:Heap) (K:AV→Heap→Prop):Prop:=
 CallT Try.prog 38 [v0] H fun v7 H1=>
 unV .not v7 fun v8=>
 condV v8 (K (.tup [(AV.p .nil),(AV.p (.bool false))]) H1)
 (lenV tab 30 v0 fun v11=>
 binV tab .sub 3 v11 (AV.p (.int .i64 1)) fun v12=>
 CallT Try.prog 91 [v0,v12,v1] H1 fun v14 H2=>
 CallT Try.prog 73 [v14] H2 fun v15 H3=>
 extractV v15 0 fun v16=>
 extractV v15 1 fun v17=>
 K (.tup [v16,v17]) H3)
theorem W40_wp (v0:AV) (v1:AV) (H:Heap) (K:AV→Heap→Prop):wpC Try.prog tab D40 (bodyOf Try.f40) (retF tab [.tmp 4,.tmp 5] K) (nthA [v0,v1]) H=W40 v0 v1 H K:=by kernel_rfl
theorem W40_ok {v0 v1:AV} {H:Heap} {K:AV→Heap→Prop} (h:W40 v0 v1 H K):CallT Try.prog 40 [v0,v1] H K:=
  CallT.of_wp (D:=D40) tab_ok mixed Try.func40 (c:=bodyOf Try.f40) (by kernel_rfl) rfl (by kernel_rfl) (rs:=#[.tmp 4,.tmp 5]) rfl (by decide +kernel) (by kernel_rfl) (W40_wp v0 v1 H K) h
def D41:Info:=⟨9,fun i=>([],[]),fun i=>([],[])⟩
def W41 (v0:AV) (H:Heap) (K:AV→Heap→Prop):Prop:=
 CallT Try.prog 37 [v0] H fun v5 H1=>
 unV .not v5 fun v6=>
 condV v6 (K (.tup [(AV.p (.bool false)),(AV.p (.bool false))]) H1)
 (CallT Try.prog 92 [v0] H1 fun v8 H2=>
 K (.tup [v8,(AV.p (.bool true))]) H2)
theorem W41_wp (v0:AV) (H:Heap) (K:AV→Heap→Prop):wpC Try.prog tab D41 (bodyOf Try.f41) (retF tab [.tmp 2,.tmp 3] K) (nthA [v0]) H=W41 v0 H K:=by kernel_rfl
theorem W41_ok {v0:AV} {H:Heap} {K:AV→Heap→Prop} (h:W41 v0 H K):CallT Try.prog 41 [v0] H K:=
  CallT.of_wp (D:=D41) tab_ok mixed Try.func41 (c:=bodyOf Try.f41) (by kernel_rfl) rfl (by kernel_rfl) (rs:=#[.tmp 2,.tmp 3]) rfl (by decide +kernel) (by kernel_rfl) (W41_wp v0 H K) h
def D42:Info:=⟨9,fun i=>([],[]),fun i=>([],[])⟩
def W42 (v0:AV) (H:Heap) (K:AV→Heap→Prop):Prop:=
 CallT Try.prog 37 [v0] H fun v5 H1=>
 unV .not v5 fun v6=>
 condV v6 (K (.tup [(AV.p .nil),(AV.p (.bool false))]) H1)
 (CallT Try.prog 93 [v0] H1 fun v8 H2=>
 K (.tup [v8,(AV.p (.bool true))]) H2)
theorem W42_wp (v0:AV) (H:Heap) (K:AV→Heap→Prop):wpC Try.prog tab D42 (bodyOf Try.f42) (retF tab [.tmp 2,.tmp 3] K) (nthA [v0]) H=W42 v0 H K:=by kernel_rfl
theorem W42_ok {v0:AV} {H:Heap} {K:AV→Heap→Prop} (h:W42 v0 H K):CallT Try.prog 42 [v0] H K:=
  CallT.of_wp (D:=D42) tab_ok mixed Try.func42 (c:=bodyOf Try.f42) (by kernel_rfl) rfl (by kernel_rfl) (rs:=#[.tmp 2,.tmp 3]) rfl (by decide +kernel) (by kernel_rfl) (W42_wp v0 H K) h
def D43:Info:=⟨26,fun i=>if i=6 then ([[],[],[0,1],[0,1,2],[],[],[4,5],[4,5,6],[0,1,2,3,4,5,6,7]],[(0,[]),(1,[]),(2,[]),(3,[]),(4,[]),(5,[]),(6,[]),(7,[]),(8,[])]) else ([],[]),fun i=>if i=4 then ([0,1,12],[13]) else ([],[])⟩
def L43_0 (K:AV→Heap→Prop) (v0:AV) (v1:AV) (v12:AV) (v13:AV) (H:Heap):Prop:=LoopV (wpC Try.prog tab D43 (cAt [1,1,0,1,0,0] (bodyOf Try.f43))) [0,1,12] (PostF.block 0 (PostF.thenA (wpC Try.prog tab D43 (cAt [1,1,1] (bodyOf Try.f43))) (retF tab [.tmp 4] K))) [13] [v0,v1,AV.any,AV.any,AV.any,AV.any,AV.any,AV.any,AV.any,AV.any,AV.any,AV.any,v12,v13,AV.any,AV.any,AV.any,AV.any,AV.any,AV.any,AV.any,AV.any,AV.any,AV.any,AV.any,AV.any] H
def B43_0 (K:AV→Heap→Prop) (N1:AV→Heap→Prop) (v0:AV) (v1:AV) (v12:AV) (v13:AV) (H:Heap):Prop:=
 binV tab .lss 3 v13 v12 fun v14=>
 condV v14 (indexAddrV tab 23 v0 v13 fun v18=>
 loadV tab 3 v18 H fun v19=>
 indexAddrV tab 23 v1 v13 fun v22=>
 loadV tab 3 v22 H fun v23=>
 binV tab .neq 3 v19 v23 fun v24=>
 condV v24 (K (AV.p (.bool false)) H)
 (binV tab .add 3 v13 (AV.p (.int .i64 1)) fun v25=>
 N1 v25 H))
 (K (AV.p (.bool true)) H)
def W43 (v0:AV) (v1:AV) (H:Heap) (K:AV→Heap→Prop):Prop:=
 lenV tab 23 v0 fun v7=>
 lenV tab 23 v1 fun v9=>
 binV tab .neq 3 v7 v9 fun v10=>
 condV v10 (K (AV.p (.bool false)) H)
 (lenV tab 23 v0 fun v12=>
 L43_0 K v0 v1 v12 (AV.p (.int .i64 0)) H)
theorem W43_wp (v0:AV) (v1:AV) (H:Heap) (K:AV→Heap→Prop):wpC Try.prog tab D43 (bodyOf Try.f43) (retF tab [.tmp 4] K) (nthA [v0,v1]) H=W43 v0 v1 H K:=by kernel_rfl
theorem W43_ok {v0 v1:AV} {H:Heap} {K:AV→Heap→Prop} (h:W43 v0 v1 H K):CallT Try.prog 43 [v0,v1] H K:=
  CallT.of_wp (D:=D43) tab_ok mixed Try.func43 (c:=bodyOf Try.f43) (by kernel_rfl) rfl (by kernel_rfl) (rs:=#[.tmp 4]) rfl (by decide +kernel) (by kernel_rfl) (W43_wp v0 v1 H K) h
theorem L43_0_rule {K:AV→Heap→Prop} {v0 v1 v12 v13:AV} {H:Heap} {σ:Type} (s0:σ) (f13:σ→AV) (TH:σ→Heap) (pre:σ→Prop) (μ:σ→Nat)
    (h0:pre s0∧AV.wk v13 (f13 s0)∧Heap.le (TH s0) H)
    (round:∀s,pre s→B43_0 K (fun w13 H'=>∃s',pre s'∧μ s' < μ s∧AV.wk w13 (f13 s')∧Heap.le (TH s') H') v0 v1 v12 (f13 s) (TH s)) :
    L43_0 K v0 v1 v12 v13 H:=by
  unfold L43_0
  exact LoopV.mk s0 (fun s=>[f13 s]) TH pre μ (fun _=>rfl) (Eq.mp (by kernel_rfl) h0) (fun s hs=>Eq.mp (by kernel_rfl) (round s hs))
def D44:Info:=⟨26,fun i=>([],[]),fun i=>([],[])⟩
def W44 (v0:AV) (H:Heap) (K:AV→Heap→Prop):Prop:=
 buildV tab 88 [(0,v0)] fun v8=>
 boxV v8 H fun v9 H1=>
 CallT Try.prog 74 [v9] H1 fun v11 H2=>
 CallT Try.prog 94 [v9,(AV.p (.int .i64 2))] H2 fun v15 H3=>
 CallT Try.prog 40 [v11,v15] H3 fun v16 H4=>
 extractV v16 0 fun v17=>
 extractV v16 1 fun v18=>
 grdV v18 true (CallT Try.prog 94 [v9,(AV.p (.int .i64 2))] H4 fun v22 H5=>
 condV v22 (K v17 H5)
 (K v11 H5))
 (K v11 H4)
theorem W44_wp (v0:AV) (H:Heap) (K:AV→Heap→Prop):wpC Try.prog tab D44 (bodyOf Try.f44) (retF tab [.tmp 2] K) (nthA [v0]) H=W44 v0 H K:=by kernel_rfl
theorem W44_ok {v0:AV} {H:Heap} {K:AV→Heap→Prop} (h:W44 v0 H K):CallT Try.prog 44 [v0] H K:=
  CallT.of_wp (D:=D44) tab_ok mixed Try.func44 (c:=bodyOf Try.f44) (by kernel_rfl) rfl (by kernel_rfl) (rs:=#[.tmp 2]) rfl (by decide +kernel) (by kernel_rfl) (W44_wp v0 H K) h
end Go.Proofs.Ytjdhigcefkihiaa
namespace Go.Proofs.Ytjdhigcefkihiaa
open Go Go.Sep
attribute [local irreducible] wpC headF
def D45:Info:=⟨29,fun i=>([],[]),fun i=>if i=4 then ([0,9,10],[11]) else ([],[])⟩
def L45_0 (K:AV→Heap→Prop) (v0:AV) (v9:AV) (v10:AV) (v11:AV) (H:Heap):Prop:=LoopV (wpC Try.prog tab D45 (cAt [1,1,0,1,0,0] (bodyOf Try.f45))) [0,9,10] (PostF.block 0 (PostF.thenA (wpC Try.prog tab D45 (cAt [1,1,1] (bodyOf Try.f45))) (retF tab [.tmp 2,.tmp 3] K))) [11] [v0,AV.any,AV.any,AV.any,AV.any,AV.any,AV.any,AV.any,AV.any,v9,v10,v11,AV.any,AV.any,AV.any,AV.any,AV.any,AV.any,AV.any,AV.any,AV.any,AV.any,AV.any,AV.any,AV.any,AV.any,AV.any,AV.any,AV.any] H
def B45_0 (K:AV→Heap→Prop) (N1:AV→Heap→Prop) (v0:AV) (v9:AV) (v10:AV) (v11:AV) (H:Heap):Prop:=
 binV tab .lss 3 v11 v10 fun v12=>
 condV v12 (indexAddrV tab 30 v9 v11 fun v14=>
 loadV tab 80 v14 H fun v15=>
 allocV tab 80 H fun v5 H2=>
 storeV tab 80 v5 v15 H2 fun H3=>
 fieldAddrV tab 80 v5 0 fun v16=>
 loadV tab 3 v16 H3 fun v17=>
 binV tab .eql 3 v17 (AV.p (.int .i64 3)) fun v18=>
 grdV v18 true (binV tab .sub 3 v11 (AV.p (.int .i64 1)) fun v22=>
 indexAddrV tab 30 v0 v22 fun v23=>
 fieldAddrV tab 80 v23 0 fun v24=>
 loadV tab 3 v24 H3 fun v25=>
 binV tab .neq 3 v25 (AV.p (.int .i64 1)) fun v26=>
 condV v26 (K (.tup [(AV.p (.bool false)),(AV.p (.bool true))]) H3)
 (binV tab .add 3 v11 (AV.p (.int .i64 1)) fun v28=>
 N1 v28 H3))
 (binV tab .add 3 v11 (AV.p (.int .i64 1)) fun v28=>
 N1 v28 H3))
 (K (.tup [(AV.p (.bool true)),(AV.p (.bool true))]) H)
def W45 (v0:AV) (H:Heap) (K:AV→Heap→Prop):Prop:=
 CallT Try.prog 38 [v0] H fun v7 H1=>
 unV .not v7 fun v8=>
 condV v8 (K (.tup [(AV.p (.bool false)),(AV.p (.bool false))]) H1)
 (lenV tab 30 v0 fun v10=>
 L45_0 K v0 v0 v10 (AV.p (.int .i64 0)) H1)
theorem W45_wp (v0:AV) (H:Heap) (K:AV→Heap→Prop):wpC Try.prog tab D45 (bodyOf Try.f45) (retF tab [.tmp 2,.tmp 3] K) (nthA [v0]) H=W45 v0 H K:=by kernel_rfl
theorem W45_ok {v0:AV} {H:Heap} {K:AV→Heap→Prop} (h:W45 v0 H K):CallT Try.prog 45 [v0] H K:=
  CallT.of_wp (D:=D45) tab_ok mixed Try.func45 (c:=bodyOf Try.f45) (by kernel_rfl) rfl (by kernel_rfl) (rs:=#[.tmp 2,.tmp 3]) rfl (by decide +kernel) (by kernel_rfl) (W45_wp v0 H K) h
theorem L45_0_rule {K:AV→Heap→Prop} {v0 v9 v10 v11:AV} {H:Heap} {σ:Type} (s0:σ) (f11:σ→AV) (TH:σ→Heap) (pre:σ→Prop) (μ:σ→Nat)
    (h0:pre s0∧AV.wk v11 (f11 s0)∧Heap.le (TH s0) H)
    (round:∀s,pre s→B45_0 K (fun w11 H'=>∃s',pre s'∧μ s' < μ s∧AV.wk w11 (f11 s')∧Heap.le (TH s') H') v0 v9 v10 (f11 s) (TH s)) :
    L45_0 K v0 v9 v10 v11 H:=by
  unfold L45_0
  exact LoopV.mk s0 (fun s=>[f11 s]) TH pre μ (fun _=>rfl) (Eq.mp (by kernel_rfl) h0) (fun s hs=>Eq.mp (by kernel_rfl) (round s hs))
def D54:Info:=⟨82,fun i=>if i=21 then ([[],[],[],[],[],[],[],[5,6],[],[],[],[],[10,11],[10,11,12],[2,3,4,5,6,7,8,9,10,11,12,13],[0,1,2,3,4,5,6,7,8,9,10,11,12,13,14],[0,1,2,3,4,5,6,7,8,9,10,11,12,13,14,15]],[(0,[]),(1,[]),(2,[]),(3,[]),(4,[]),(5,[]),(6,[]),(8,[]),(9,[]),(10,[]),(11,[]),(12,[]),(13,[]),(7,[13]),(14,[]),(15,[]),(16,[])]) else ([],[]),fun i=>if i=4 then ([0,3,5,21,22],[6,23]) else if i=8 then ([0,3,5,6,7,8,9,21,22,23,31],[32]) else if i=13 then ([0,3,5,6,7,9,21,22,23],[11]) else if i=16 then ([0,3,5,6,7,9,11,21,22,23],[12]) else ([],[])⟩
def L54_0 (K:AV→Heap→Prop) (v0:AV) (v3:AV) (v5:AV) (v6:AV) (v21:AV) (v22:AV) (v23:AV) (H:Heap):Prop:=LoopV (wpC Try.prog tab D54 (cAt [1,1,1,0,1,0,0] (bodyOf Try.f54))) [0,3,5,21,22] (PostF.block 0 (PostF.thenA (wpC Try.prog tab D54 (cAt [1,1,1,1] (bodyOf Try.f54))) (retF tab [.tmp 4] K))) [6,23] [v0,AV.any,AV.any,v3,AV.any,v5,v6,AV.any,AV.any,AV.any,AV.any,AV.any,AV.any,AV.any,AV.any,AV.any,AV.any,AV.any,AV.any,AV.any,AV.any,v21,v22,v23,AV.any,AV.any,AV.any,AV.any,AV.any,AV.any,AV.any,AV.any,AV.any,AV.any,AV.any,AV.any,AV.any,AV.any,AV.any,AV.any,AV.any,AV.any,AV.any,AV.any,AV.any,AV.any,AV.any,AV.any,AV.any,AV.any,AV.any,AV.any,AV.any,AV.any,AV.any,AV.any,AV.any,AV.any,AV.any,AV.any,AV.any,AV.any,AV.any,AV.any,AV.any,AV.any,AV.any,AV.any,AV.any,AV.any,AV.any,AV.any,AV.any,AV.any,AV.any,AV.any,AV.any,AV.any,AV.any,AV.any,AV.any,AV.any] H
def L54_1 (K:AV→Heap→Prop) (N1:AV→AV→Heap→Prop) (v0:AV) (v3:AV) (v5:AV) (v6:AV) (v7:AV) (v8:AV) (v9:AV) (v21:AV) (v22:AV) (v23:AV) (v31:AV) (v32:AV) (H:Heap):Prop:=LoopV (wpC Try.prog tab D54 (cAt [1,1,1,0,1,0,0,1,1,0,0,1,1,0,1,0,0] (bodyOf Try.f54))) [0,3,5,6,7,8,9,21,22,23,31] (PostF.block 2 (PostF.thenA (wpC Try.prog tab D54 (cAt [1,1,1,0,1,0,0,1,1,0,0,1,1,1] (bodyOf Try.f54))) (PostF.block 1 (PostF.thenA (wpC Try.prog tab D54 (cAt [1,1,1,0,1,0,0,1,1,1] (bodyOf Try.f54))) (loopF (PostF.block 0 (PostF.thenA (wpC Try.prog tab D54 (cAt [1,1,1,1] (bodyOf Try.f54))) (retF tab [.tmp 4] K))) (fun e h=>N1 (e 6) (e 23) h)))))) [32] [v0,AV.any,AV.any,v3,AV.any,v5,v6,v7,v8,v9,AV.any,AV.any,AV.any,AV.any,AV.any,AV.any,AV.any,AV.any,AV.any,AV.any,AV.any,v21,v22,v23,AV.any,AV.any,AV.any,AV.any,AV.any,AV.any,AV.any,v31,v32,AV.any,AV.any,AV.any,AV.any,AV.any,AV.any,AV.any,AV.any,AV.any,AV.any,AV.any,AV.any,AV.any,AV.any,AV.any,AV.any,AV.any,AV.any,AV.any,AV.any,AV.any,AV.any,AV.any,AV.any,AV.any,AV.any,AV.any,AV.any,AV.any,AV.any,AV.any,AV.any,AV.any,AV.any,AV.any,AV.any,AV.any,AV.any,AV.any,AV.any,AV.any,AV.any,AV.any,AV.any,AV.any,AV.any,AV.any,AV.any,AV.any] H
def L54_2 (K:AV→Heap→Prop) (N1:AV→AV→Heap→Prop) (v0:AV) (v3:AV) (v5:AV) (v6:AV) (v7:AV) (v9:AV) (v11:AV) (v21:AV) (v22:AV) (v23:AV) (H:Heap):Prop:=LoopV (wpC Try.prog tab D54 (cAt [1,1,1,0,1,0,0,1,1,0,0,1,1,1,0,1,0,0] (bodyOf Try.f54))) [0,3,5,6,7,9,21,22,23] (PostF.block 4 (PostF.thenA (wpC Try.prog tab D54 (cAt [1,1,1,0,1,0,0,1,1,0,0,1,1,1,1] (bodyOf Try.f54))) (PostF.block 1 (PostF.thenA (wpC Try.prog tab D54 (cAt [1,1,1,0,1,0,0,1,1,1] (bodyOf Try.f54))) (loopF (PostF.block 0 (PostF.thenA (wpC Try.prog tab D54 (cAt [1,1,1,1] (bodyOf Try.f54))) (retF tab [.tmp 4] K))) (fun e h=>N1 (e 6) (e 23) h)))))) [11] [v0,AV.any,AV.any,v3,AV.any,v5,v6,v7,AV.any,v9,AV.any,v11,AV.any,AV.any,AV.any,AV.any,AV.any,AV.any,AV.any,AV.any,AV.any,v21,v22,v23,AV.any,AV.any,AV.any,AV.any,AV.any,AV.any,AV.any,AV.any,AV.any,AV.any,AV.any,AV.any,AV.any,AV.any,AV.any,AV.any,AV.any,AV.any,AV.any,AV.any,AV.any,AV.any,AV.any,AV.any,AV.any,AV.any,AV.any,AV.any,AV.any,AV.any,AV.any,AV.any,AV.any,AV.any,AV.any,AV.any,AV.any,AV.any,AV.any,AV.any,AV.any,AV.any,AV.any,AV.any,AV.any,AV.any,AV.any,AV.any,AV.any,AV.any,AV.any,AV.any,AV.any,AV.any,AV.any,AV.any,AV.any,AV.any] H
def L54_3 (K:AV→Heap→Prop) (N1:AV→AV→Heap→Prop) (N2:AV→Heap→Prop) (v0:AV) (v3:AV) (v5:AV) (v6:AV) (v7:AV) (v9:AV) (v11:AV) (v12:AV) (v21:AV) (v22:AV) (v23:AV) (H:Heap):Prop:=LoopV (wpC Try.prog tab D54 (cAt [1,1,1,0,1,0,0,1,1,0,0,1,1,1,0,1,0,0,1,0,0,1,0,0] (bodyOf Try.f54))) [0,3,5,6,7,9,11,21,22,23] (PostF.block 6 (PostF.block 5 (PostF.thenA (wpC Try.prog tab D54 (cAt [1,1,1,0,1,0,0,1,1,0,0,1,1,1,0,1,0,0,1,1] (bodyOf Try.f54))) (loopF (PostF.block 4 (PostF.thenA (wpC Try.prog tab D54 (cAt [1,1,1,0,1,0,0,1,1,0,0,1,1,1,1] (bodyOf Try.f54))) (PostF.block 1 (PostF.thenA (wpC Try.prog tab D54 (cAt [1,1,1,0,1,0,0,1,1,1] (bodyOf Try.f54))) (loopF (PostF.block 0 (PostF.thenA (wpC Try.prog tab D54 (cAt [1,1,1,1] (bodyOf Try.f54))) (retF tab [.tmp 4] K))) (fun e h=>N1 (e 6) (e 23) h)))))) (fun e h=>N2 (e 11) h))))) [12] [v0,AV.any,AV.any,v3,AV.any,v5,v6,v7,AV.any,v9,AV.any,v11,v12,AV.any,AV.any,AV.any,AV.any,AV.any,AV.any,AV.any,AV.any,v21,v22,v23,AV.any,AV.any,AV.any,AV.any,AV.any,AV.any,AV.any,AV.any,AV.any,AV.any,AV.any,AV.any,AV.any,AV.any,AV.any,AV.any,AV.any,AV.any,AV.any,AV.any,AV.any,AV.any,AV.any,AV.any,AV.any,AV.any,AV.any,AV.any,AV.any,AV.any,AV.any,AV.any,AV.any,AV.any,AV.any,AV.any,AV.any,AV.any,AV.any,AV.any,AV.any,AV.any,AV.any,AV.any,AV.any,AV.any,AV.any,AV.any,AV.any,AV.any,AV.any,AV.any,AV.any,AV.any,AV.any,AV.any,AV.any,AV.any] H
def J54_4 (K:AV→Heap→Prop) (N1:AV→AV→Heap→Prop) (N2:AV→Heap→Prop) (N3:AV→Heap→Prop) (v0:AV) (v3:AV) (v5:AV) (v6:AV) (v7:AV) (v9:AV) (v11:AV) (v12:AV) (v13:AV) (v21:AV) (v22:AV) (v23:AV) (H:Heap):Prop:=
 loadV tab 32 v3 H fun v65=>
 indexAddrV tab 76 v9 v13 fun v72=>
 loadV tab 4 v72 H fun v73=>
 CallT Try.prog 102 [v65,v12] H fun v67 H6=>
 (loadV tab 4 v72 H6 fun v9073=>
 v73=v9073)∧
 CallT Try.prog 101 [v0,v6,v7,v67,v12,v13,v73] H6 fun v74 H7=>
 indexAddrV tab 76 v9 v12 fun v75=>
 storeV tab 4 v75 v74 H7 fun H8=>
 binV tab .sub 3 v12 (AV.p (.int .i64 1)) fun v51=>
 N3 v51 H8
def B54_3 (K:AV→Heap→Prop) (N1:AV→AV→Heap→Prop) (N2:AV→Heap→Prop) (N3:AV→Heap→Prop) (v0:AV) (v3:AV) (v5:AV) (v6:AV) (v7:AV) (v9:AV) (v11:AV) (v12:AV) (v21:AV) (v22:AV) (v23:AV) (H:Heap):Prop:=
 binV tab .geq 3 v12 (AV.p (.int .i64 0)) fun v49=>
 condV v49 (binV tab .add 3 v12 (AV.p (.int .i64 1)) fun v53=>
 binV tab .eql 3 v53 v5 fun v56=>
 condV v56 (fieldAddrV tab 32 v3 0 fun v57=>
 loadV tab 23 v57 H fun v58=>
 lenV tab 23 v58 fun v59=>
 J54_4 K N1 N2 N3 v0 v3 v5 v6 v7 v9 v11 v12 v59 v21 v22 v23 H)
 (J54_4 K N1 N2 N3 v0 v3 v5 v6 v7 v9 v11 v12 v53 v21 v22 v23 H))
 (binV tab .add 3 v11 (AV.p (.int .i64 1)) fun v45=>
 N2 v45 H)
def B54_2 (K:AV→Heap→Prop) (N1:AV→AV→Heap→Prop) (N2:AV→Heap→Prop) (v0:AV) (v3:AV) (v5:AV) (v6:AV) (v7:AV) (v9:AV) (v11:AV) (v21:AV) (v22:AV) (v23:AV) (H:Heap):Prop:=
 binV tab .lss 3 v11 (AV.p (.int .i64 2)) fun v43=>
 condV v43 (binV tab .sub 3 v5 (AV.p (.int .i64 1)) fun v47=>
 L54_3 K N1 N2 v0 v3 v5 v6 v7 v9 v11 v47 v21 v22 v23 H)
 (buildSliceV tab 71 1 [(0,v9)] H (wkK fun v78 H9=>
 appendV tab 71 71 v6 v78 H9 (wkK fun v79 H10=>
 binV tab .add 3 v23 (AV.p (.int .i64 1)) fun v80=>
 N1 v79 v80 H10)))
def B54_1 (K:AV→Heap→Prop) (N1:AV→AV→Heap→Prop) (N2:AV→Heap→Prop) (v0:AV) (v3:AV) (v5:AV) (v6:AV) (v7:AV) (v8:AV) (v9:AV) (v21:AV) (v22:AV) (v23:AV) (v31:AV) (v32:AV) (H:Heap):Prop:=
 binV tab .lss 3 v32 v31 fun v33=>
 condV v33 (fieldAddrV tab 80 v8 0 fun v37=>
 loadV tab 3 v37 H fun v38=>
 binV tab .eql 3 v38 (AV.p (.int .i64 8)) fun v39=>
 indexAddrV tab 76 v9 v32 fun v40=>
 storeV tab 4 v40 v39 H fun H5=>
 binV tab .add 3 v32 (AV.p (.int .i64 1)) fun v41=>
 N2 v41 H5)
 (L54_2 K N1 v0 v3 v5 v6 v7 v9 (AV.p (.int .i64 0)) v21 v22 v23 H)
def B54_0 (K:AV→Heap→Prop) (N1:AV→AV→Heap→Prop) (v0:AV) (v3:AV) (v5:AV) (v6:AV) (v21:AV) (v22:AV) (v23:AV) (H:Heap):Prop:=
 binV tab .lss 3 v23 v22 fun v24=>
 condV v24 (indexAddrV tab 30 v21 v23 fun v26=>
 loadV tab 80 v26 H fun v27=>
 allocV tab 80 H fun v8 H2=>
 storeV tab 80 v8 v27 H2 fun H3=>
 makeSliceV tab 76 v5 v5 H3 fun v29 H4=>
 lenV tab 76 v29 fun v31=>
 L54_1 K N1 v0 v3 v5 v6 v23 v8 v29 v21 v22 v23 v31 (AV.p (.int .i64 0)) H4)
 (K v6 H)
def W54 (v0:AV) (v1:AV) (H:Heap) (K:AV→Heap→Prop):Prop:=
 boxV v1 H fun v3 H1=>
 fieldAddrV tab 32 v3 0 fun v14=>
 loadV tab 23 v14 H1 fun v15=>
 lenV tab 23 v15 fun v16=>
 fieldAddrV tab 32 v3 1 fun v17=>
 loadV tab 23 v17 H1 fun v18=>
 lenV tab 23 v18 fun v19=>
 binV tab .add 3 v16 v19 fun v20=>
 lenV tab 30 v0 fun v22=>
 L54_0 K v0 v3 v20 (AV.p .nil) v0 v22 (AV.p (.int .i64 0)) H1
theorem W54_wp (v0:AV) (v1:AV) (H:Heap) (K:AV→Heap→Prop):wpC Try.prog tab D54 (bodyOf Try.f54) (retF tab [.tmp 4] K) (nthA [v0,v1]) H=W54 v0 v1 H K:=by kernel_rfl
theorem W54_ok {v0 v1:AV} {H:Heap} {K:AV→Heap→Prop} (h:W54 v0 v1 H K):CallT Try.prog 54 [v0,v1] H K:=
  CallT.of_wp (D:=D54) tab_ok mixed Try.func54 (c:=bodyOf Try.f54) (by kernel_rfl) rfl (by kernel_rfl) (rs:=#[.tmp 4]) rfl (by decide +kernel) (by kernel_rfl) (W54_wp v0 v1 H K) h
theorem L54_3_rule {K:AV→Heap→Prop} {N1:AV→AV→Heap→Prop} {N2:AV→Heap→Prop} {v0 v3 v5 v6 v7 v9 v11 v12 v21 v22 v23:AV} {H:Heap} {σ:Type} (s0:σ) (f12:σ→AV) (TH:σ→Heap) (pre:σ→Prop) (μ:σ→Nat)
    (h0:pre s0∧AV.wk v12 (f12 s0)∧Heap.le (TH s0) H)
    (round:∀s,pre s→B54_3 K N1 N2 (fun w12 H'=>∃s',pre s'∧μ s' < μ s∧AV.wk w12 (f12 s')∧Heap.le (TH s') H') v0 v3 v5 v6 v7 v9 v11 (f12 s) v21 v22 v23 (TH s)) :
    L54_3 K N1 N2 v0 v3 v5 v6 v7 v9 v11 v12 v21 v22 v23 H:=by
  unfold L54_3
  exact LoopV.mk s0 (fun s=>[f12 s]) TH pre μ (fun _=>rfl) (Eq.mp (by kernel_rfl) h0) (fun s hs=>Eq.mp (by kernel_rfl) (round s hs))
theorem L54_2_rule {K:AV→Heap→Prop} {N1:AV→AV→Heap→Prop} {v0 v3 v5 v6 v7 v9 v11 v21 v22 v23:AV} {H:Heap} {σ:Type} (s0:σ) (f11:σ→AV) (TH:σ→Heap) (pre:σ→Prop) (μ:σ→Nat)
    (h0:pre s0∧AV.wk v11 (f11 s0)∧Heap.le (TH s0) H)
    (round:∀s,pre s→B54_2 K N1 (fun w11 H'=>∃s',pre s'∧μ s' < μ s∧AV.wk w11 (f11 s')∧Heap.le (TH s') H') v0 v3 v5 v6 v7 v9 (f11 s) v21 v22 v23 (TH s)) :
    L54_2 K N1 v0 v3 v5 v6 v7 v9 v11 v21 v22 v23 H:=by
  unfold L54_2
  exact LoopV.mk s0 (fun s=>[f11 s]) TH pre μ (fun _=>rfl) (Eq.mp (by kernel_rfl) h0) (fun s hs=>Eq.mp (by kernel_rfl) (round s hs))
theorem L54_1_rule {K:AV→Heap→Prop} {N1:AV→AV→Heap→Prop} {v0 v3 v5 v6 v7 v8 v9 v21 v22 v23 v31 v32:AV} {H:Heap} {σ:Type} (s0:σ) (f32:σ→AV) (TH:σ→Heap) (pre:σ→Prop) (μ:σ→Nat)
    (h0:pre s0∧AV.wk v32 (f32 s0)∧Heap.le (TH s0) H)
    (round:∀s,pre s→B54_1 K N1 (fun w32 H'=>∃s',pre s'∧μ s' < μ s∧AV.wk w32 (f32 s')∧Heap.le (TH s') H') v0 v3 v5 v6 v7 v8 v9 v21 v22 v23 v31 (f32 s) (TH s)) :
    L54_1 K N1 v0 v3 v5 v6 v7 v8 v9 v21 v22 v23 v31 v32 H:=by
  unfold L54_1
  exact LoopV.mk s0 (fun s=>[f32 s]) TH pre μ (fun _=>rfl) (Eq.mp (by kernel_rfl) h0) (fun s hs=>Eq.mp (by kernel_rfl) (round s hs))
theorem L54_0_rule {K:AV→Heap→Prop} {v0 v3 v5 v6 v21 v22 v23:AV} {H:Heap} {σ:Type} (s0:σ) (f6:σ→AV) (f23:σ→AV) (TH:σ→Heap) (pre:σ→Prop) (μ:σ→Nat)
    (h0:pre s0∧AV.wk v6 (f6 s0)∧AV.wk v23 (f23 s0)∧Heap.le (TH s0) H)
    (round:∀s,pre s→B54_0 K (fun w6 w23 H'=>∃s',pre s'∧μ s' < μ s∧AV.wk w6 (f6 s')∧AV.wk w23 (f23 s')∧Heap.le (TH s') H') v0 v3 v5 (f6 s) v21 v22 (f23 s) (TH s)) :
    L54_0 K v0 v3 v5 v6 v21 v22 v23 H:=by
  unfold L54_0
  exact LoopV.mk s0 (fun s=>[f6 s,f23 s]) TH pre μ (fun _=>rfl) (Eq.mp (by kernel_rfl) h0) (fun s hs=>Eq.mp (by kernel_rfl) (round s hs))
def D61:Info:=⟨29,fun i=>([],[]),fun i=>([],[])⟩
def W61 (v0:AV) (H:Heap) (K:AV→Heap→Prop):Prop:=
 boxV v0 H fun v1 H1=>
 fieldAddrV tab 32 v1 0 fun v3=>
 loadV tab 23 v3 H1 fun v4=>
 lenV tab 23 v4 fun v5=>
 binV tab .leq 3 v5 (AV.p (.int .i64 24)) fun v6=>
 grdV v6 true (fieldAddrV tab 32 v1 1 fun v8=>
 loadV tab 23 v8 H1 fun v9=>
 lenV tab 23 v9 fun v10=>
 binV tab .geq 3 v10 (AV.p (.int .i64 1)) fun v11=>
 grdV v11 true (fieldAddrV tab 32 v1 1 fun v14=>
 loadV tab 23 v14 H1 fun v15=>
 lenV tab 23 v15 fun v16=>
 binV tab .leq 3 v16 (AV.p (.int .i64 24)) fun v17=>
 grdV v17 true (fieldAddrV tab 32 v1 0 fun v20=>
 loadV tab 23 v20 H1 fun v21=>
 CallT Try.prog 103 [v21] H1 fun v22 H2=>
 grdV v22 true (fieldAddrV tab 32 v1 1 fun v25=>
 loadV tab 23 v25 H2 fun v26=>
 CallT Try.prog 103 [v26] H2 fun v27 H3=>
 K v27 H3)
 (K (AV.p (.bool false)) H2))
 (K (AV.p (.bool false)) H1))
 (K (AV.p (.bool false)) H1))
 (K (AV.p (.bool false)) H1)
theorem W61_wp (v0:AV) (H:Heap) (K:AV→Heap→Prop):wpC Try.prog tab D61 (bodyOf Try.f61) (retF tab [.tmp 2] K) (nthA [v0]) H=W61 v0 H K:=by kernel_rfl
theorem W61_ok {v0:AV} {H:Heap} {K:AV→Heap→Prop} (h:W61 v0 H K):CallT Try.prog 61 [v0] H K:=
  CallT.of_wp (D:=D61) tab_ok mixed Try.func61 (c:=bodyOf Try.f61) (by kernel_rfl) rfl (by kernel_rfl) (rs:=#[.tmp 2]) rfl (by decide +kernel) (by kernel_rfl) (W61_wp v0 H K) h
end Go.Proofs.Ytjdhigcefkihiaa
