/- Texts laid together: Lr0 Tab W0 W1. -/
import Derived.Test.YtohkciilfkhomaaPE2
import Derived.Test.YtohkciilfkhomaaProg
import Derived.KernelRfl
set_option linter.unusedVariables false
set_option linter.unusedSimpArgs false
open Nat renaming reduceAdd→ν1,reduceLeDiff→ν2,reduceLT→ν3,reduceMul→ν4,reduceSub→ν5
open Int renaming reduceToNat→ι1,reduceSub→ι2,reduceAdd→ι3,reduceNeg→ι4
open Array renaming toList→ι5
open Ne renaming symm→ν6
open List renaming forall_mem_cons→ν7
namespace Go.Sep
open Go Go.RowKit
theorem args_cons {P:Program} {t:TypeId} {ts:List TypeId} {avs:List AV} (h:ArgsT P (t::ts) avs):∃v vs,avs=v::vs∧ArgT P t v∧ArgsT P ts vs:=by
  cases h with
  | cons h r=>exact ⟨_,_,rfl,h,r⟩
theorem args_nil {P:Program} {avs:List AV} (h:ArgsT P [] avs):avs=[]:=by cases h;rfl
end Go.Sep
namespace Go.Proofs.Ytohkciilfkhomaa
open Go Go.Sep
def td1:TD:=⟨.func,1,8,[.nilfn]⟩
def td2:TD:=⟨.int .i64,1,8,[(.p (.int .i64 0))]⟩
def td3:TD:=⟨.int .i64,1,8,[(.p (.int .i64 0))]⟩
def td4:TD:=⟨.bool,1,1,[(.p (.bool false))]⟩
def td5:TD:=⟨.int .u8,1,1,[(.p (.int .u8 0))]⟩
def td6:TD:=⟨.int .u8,1,1,[(.p (.int .u8 0))]⟩
def td9:TD:=⟨.str,1,16,[(.p (.str ⟨#[]⟩))]⟩
def td10:TD:=⟨.str,1,16,[(.p (.str ⟨#[]⟩))]⟩
def td11:TD:=⟨.str,1,16,[(.p (.str ⟨#[]⟩))]⟩
def td12:TD:=⟨.int .u64,1,8,[(.p (.int .u64 0))]⟩
def td15:TD:=⟨.ptr 138,1,8,[.nilp]⟩
def td16:TD:=⟨.ptr 141,1,8,[.nilp]⟩
def td17:TD:=⟨.ptr 149,1,8,[.nilp]⟩
def td21:TD:=⟨.int .i32,1,4,[(.p (.int .i32 0))]⟩
def td22:TD:=⟨.slice 5,1,24,[(.p .nil)]⟩
def td23:TD:=⟨.func,1,8,[.nilfn]⟩
def td24:TD:=⟨.slice 3,1,24,[(.p .nil)]⟩
def td25:TD:=⟨.slice 46,1,24,[(.p .nil)]⟩
def td26:TD:=⟨.slice 24,1,24,[(.p .nil)]⟩
def td27:TD:=⟨.struct [(0,3),(1,24),(2,25),(3,26)],4,80,[(.p (.int .i64 0)),(.p .nil),(.p .nil),(.p .nil)]⟩
def td28:TD:=⟨.struct [(0,3),(1,24),(2,25),(3,26)],4,80,[(.p (.int .i64 0)),(.p .nil),(.p .nil),(.p .nil)]⟩
def td30:TD:=⟨.func,1,8,[.nilfn]⟩
def td32:TD:=⟨.func,1,8,[.nilfn]⟩
def td33:TD:=⟨.func,1,8,[.nilfn]⟩
def td34:TD:=⟨.struct [(0,24),(1,24)],2,48,[(.p .nil),(.p .nil)]⟩
def td35:TD:=⟨.struct [(0,24),(1,24)],2,48,[(.p .nil),(.p .nil)]⟩
def td37:TD:=⟨.func,1,8,[.nilfn]⟩
def td38:TD:=⟨.func,1,8,[.nilfn]⟩
def td40:TD:=⟨.func,1,8,[.nilfn]⟩
def td41:TD:=⟨.func,1,8,[.nilfn]⟩
def td42:TD:=⟨.func,1,8,[.nilfn]⟩
def td43:TD:=⟨.func,1,8,[.nilfn]⟩
def td44:TD:=⟨.func,1,8,[.nilfn]⟩
def td45:TD:=⟨.struct [(0,3),(1,3),(2,3)],3,24,[(.p (.int .i64 0)),(.p (.int .i64 0)),(.p (.int .i64 0))]⟩
def td46:TD:=⟨.struct [(0,3),(1,3),(2,3)],3,24,[(.p (.int .i64 0)),(.p (.int .i64 0)),(.p (.int .i64 0))]⟩
def td47:TD:=⟨.func,1,8,[.nilfn]⟩
def td48:TD:=⟨.func,1,8,[.nilfn]⟩
def td49:TD:=⟨.func,1,8,[.nilfn]⟩
def td50:TD:=⟨.func,1,8,[.nilfn]⟩
def td51:TD:=⟨.func,1,8,[.nilfn]⟩
def td52:TD:=⟨.func,1,8,[.nilfn]⟩
def td53:TD:=⟨.ptr 56,1,8,[.nilp]⟩
def td54:TD:=⟨.int .u64,1,8,[(.p (.int .u64 0))]⟩
def td55:TD:=⟨.struct [(0,22),(1,3),(2,54)],3,40,[(.p .nil),(.p (.int .i64 0)),(.p (.int .u64 0))]⟩
def td56:TD:=⟨.struct [(0,22),(1,3),(2,54)],3,40,[(.p .nil),(.p (.int .i64 0)),(.p (.int .u64 0))]⟩
def td57:TD:=⟨.func,1,8,[.nilfn]⟩
def td58:TD:=⟨.func,1,8,[.nilfn]⟩
def td60:TD:=⟨.func,1,8,[.nilfn]⟩
def td61:TD:=⟨.func,1,8,[.nilfn]⟩
def td62:TD:=⟨.func,1,8,[.nilfn]⟩
def td63:TD:=⟨.func,1,8,[.nilfn]⟩
def td64:TD:=⟨.func,1,8,[.nilfn]⟩
def td65:TD:=⟨.func,1,8,[.nilfn]⟩
def td66:TD:=⟨.func,1,8,[.nilfn]⟩
def td67:TD:=⟨.func,1,8,[.nilfn]⟩
def td68:TD:=⟨.func,1,8,[.nilfn]⟩
def td69:TD:=⟨.func,1,8,[.nilfn]⟩
def td70:TD:=⟨.func,1,8,[.nilfn]⟩
def td71:TD:=⟨.func,1,8,[.nilfn]⟩
def td72:TD:=⟨.func,1,8,[.nilfn]⟩
def td73:TD:=⟨.func,1,8,[.nilfn]⟩
def td75:TD:=⟨.func,1,8,[.nilfn]⟩
def td76:TD:=⟨.func,1,8,[.nilfn]⟩
def td77:TD:=⟨.func,1,8,[.nilfn]⟩
def td78:TD:=⟨.func,1,8,[.nilfn]⟩
def td79:TD:=⟨.func,1,8,[.nilfn]⟩
def td80:TD:=⟨.func,1,8,[.nilfn]⟩
def td81:TD:=⟨.slice 4,1,24,[(.p .nil)]⟩
def td82:TD:=⟨.func,1,8,[.nilfn]⟩
def td83:TD:=⟨.func,1,8,[.nilfn]⟩
def td84:TD:=⟨.func,1,8,[.nilfn]⟩
def td85:TD:=⟨.func,1,8,[.nilfn]⟩
def td86:TD:=⟨.func,1,8,[.nilfn]⟩
def td87:TD:=⟨.func,1,8,[.nilfn]⟩
def td88:TD:=⟨.func,1,8,[.nilfn]⟩
def td89:TD:=⟨.func,1,8,[.nilfn]⟩
def td90:TD:=⟨.func,1,8,[.nilfn]⟩
def td92:TD:=⟨.func,1,8,[.nilfn]⟩
def td93:TD:=⟨.func,1,8,[.nilfn]⟩
def td94:TD:=⟨.func,1,8,[.nilfn]⟩
def td95:TD:=⟨.func,1,8,[.nilfn]⟩
def td96:TD:=⟨.func,1,8,[.nilfn]⟩
def td97:TD:=⟨.func,1,8,[.nilfn]⟩
def td98:TD:=⟨.int .u64,1,8,[(.p (.int .u64 0))]⟩
def td99:TD:=⟨.func,1,8,[.nilfn]⟩
def td100:TD:=⟨.func,1,8,[.nilfn]⟩
def td101:TD:=⟨.ptr 103,1,8,[.nilp]⟩
def td102:TD:=⟨.struct [(0,26),(1,81),(2,24)],3,72,[(.p .nil),(.p .nil),(.p .nil)]⟩
def td103:TD:=⟨.struct [(0,26),(1,81),(2,24)],3,72,[(.p .nil),(.p .nil),(.p .nil)]⟩
def td104:TD:=⟨.func,1,8,[.nilfn]⟩
def td105:TD:=⟨.func,1,8,[.nilfn]⟩
def td107:TD:=⟨.func,1,8,[.nilfn]⟩
def td108:TD:=⟨.ptr 110,1,8,[.nilp]⟩
def td109:TD:=⟨.struct [(0,26),(1,24),(2,24),(3,24),(4,24),(5,3)],6,128,[(.p .nil),(.p .nil),(.p .nil),(.p .nil),(.p .nil),(.p (.int .i64 0))]⟩
def td110:TD:=⟨.struct [(0,26),(1,24),(2,24),(3,24),(4,24),(5,3)],6,128,[(.p .nil),(.p .nil),(.p .nil),(.p .nil),(.p .nil),(.p (.int .i64 0))]⟩
def td111:TD:=⟨.func,1,8,[.nilfn]⟩
def td112:TD:=⟨.int .i64,1,8,[(.p (.int .i64 0))]⟩
def td114:TD:=⟨.func,1,8,[.nilfn]⟩
def td115:TD:=⟨.func,1,8,[.nilfn]⟩
def td116:TD:=⟨.func,1,8,[.nilfn]⟩
def td118:TD:=⟨.func,1,8,[.nilfn]⟩
def td119:TD:=⟨.func,1,8,[.nilfn]⟩
def td120:TD:=⟨.int .u32,1,4,[(.p (.int .u32 0))]⟩
def td121:TD:=⟨.func,1,8,[.nilfn]⟩
def td123:TD:=⟨.func,1,8,[.nilfn]⟩
def td125:TD:=⟨.func,1,8,[.nilfn]⟩
def td126:TD:=⟨.func,1,8,[.nilfn]⟩
def td127:TD:=⟨.int .u64,1,8,[(.p (.int .u64 0))]⟩
def td128:TD:=⟨.func,1,8,[.nilfn]⟩
def td129:TD:=⟨.func,1,8,[.nilfn]⟩
def td130:TD:=⟨.func,1,8,[.nilfn]⟩
def td131:TD:=⟨.ptr 3,1,8,[.nilp]⟩
def td132:TD:=⟨.func,1,8,[.nilfn]⟩
def td133:TD:=⟨.ptr 127,1,8,[.nilp]⟩
def td135:TD:=⟨.func,1,8,[.nilfn]⟩
def td136:TD:=⟨.func,1,8,[.nilfn]⟩
def td142:TD:=⟨.int .u8,1,1,[(.p (.int .u8 0))]⟩
def td143:TD:=⟨.int .u8,1,1,[(.p (.int .u8 0))]⟩
def td144:TD:=⟨.func,1,8,[.nilfn]⟩
def td145:TD:=⟨.ptr 5,1,8,[.nilp]⟩
def td146:TD:=⟨.int .i32,1,4,[(.p (.int .i32 0))]⟩
def td147:TD:=⟨.int .i32,1,4,[(.p (.int .i32 0))]⟩
def tabL:List (Nat×TD):=[(1,td1),(2,td2),(3,td3),(4,td4),(5,td5),(6,td6),(9,td9),(10,td10),(11,td11),(12,td12),(15,td15),(16,td16),(17,td17),(21,td21),(22,td22),(23,td23),(24,td24),(25,td25),(26,td26),(27,td27),(28,td28),(30,td30),(32,td32),(33,td33),(34,td34),(35,td35),(37,td37),(38,td38),(40,td40),(41,td41),(42,td42),(43,td43),(44,td44),(45,td45),(46,td46),(47,td47),(48,td48),(49,td49),(50,td50),(51,td51),(52,td52),(53,td53),(54,td54),(55,td55),(56,td56),(57,td57),(58,td58),(60,td60),(61,td61),(62,td62),(63,td63),(64,td64),(65,td65),(66,td66),(67,td67),(68,td68),(69,td69),(70,td70),(71,td71),(72,td72),(73,td73),(75,td75),(76,td76),(77,td77),(78,td78),(79,td79),(80,td80),(81,td81),(82,td82),(83,td83),(84,td84),(85,td85),(86,td86),(87,td87),(88,td88),(89,td89),(90,td90),(92,td92),(93,td93),(94,td94),(95,td95),(96,td96),(97,td97),(98,td98),(99,td99),(100,td100),(101,td101),(102,td102),(103,td103),(104,td104),(105,td105),(107,td107),(108,td108),(109,td109),(110,td110),(111,td111),(112,td112),(114,td114),(115,td115),(116,td116),(118,td118),(119,td119),(120,td120),(121,td121),(123,td123),(125,td125),(126,td126),(127,td127),(128,td128),(129,td129),(130,td130),(131,td131),(132,td132),(133,td133),(135,td135),(136,td136),(142,td142),(143,td143),(144,td144),(145,td145),(146,td146),(147,td147)]
def tab:Tab:=fun t=>(tabL.find? (fun p=>p.1==t)).map (·.2)
theorem tab_1:tab 1=some ⟨.func,1,8,[.nilfn]⟩:=rfl
theorem tab_2:tab 2=some ⟨.int .i64,1,8,[(.p (.int .i64 0))]⟩:=rfl
theorem tab_3:tab 3=some ⟨.int .i64,1,8,[(.p (.int .i64 0))]⟩:=rfl
theorem tab_4:tab 4=some ⟨.bool,1,1,[(.p (.bool false))]⟩:=rfl
theorem tab_5:tab 5=some ⟨.int .u8,1,1,[(.p (.int .u8 0))]⟩:=rfl
theorem tab_6:tab 6=some ⟨.int .u8,1,1,[(.p (.int .u8 0))]⟩:=rfl
theorem tab_9:tab 9=some ⟨.str,1,16,[(.p (.str ⟨#[]⟩))]⟩:=rfl
theorem tab_10:tab 10=some ⟨.str,1,16,[(.p (.str ⟨#[]⟩))]⟩:=rfl
theorem tab_11:tab 11=some ⟨.str,1,16,[(.p (.str ⟨#[]⟩))]⟩:=rfl
theorem tab_12:tab 12=some ⟨.int .u64,1,8,[(.p (.int .u64 0))]⟩:=rfl
theorem tab_15:tab 15=some ⟨.ptr 138,1,8,[.nilp]⟩:=rfl
theorem tab_16:tab 16=some ⟨.ptr 141,1,8,[.nilp]⟩:=rfl
theorem tab_17:tab 17=some ⟨.ptr 149,1,8,[.nilp]⟩:=rfl
theorem tab_21:tab 21=some ⟨.int .i32,1,4,[(.p (.int .i32 0))]⟩:=rfl
theorem tab_22:tab 22=some ⟨.slice 5,1,24,[(.p .nil)]⟩:=rfl
theorem tab_23:tab 23=some ⟨.func,1,8,[.nilfn]⟩:=rfl
theorem tab_24:tab 24=some ⟨.slice 3,1,24,[(.p .nil)]⟩:=rfl
theorem tab_25:tab 25=some ⟨.slice 46,1,24,[(.p .nil)]⟩:=rfl
theorem tab_26:tab 26=some ⟨.slice 24,1,24,[(.p .nil)]⟩:=rfl
theorem tab_27:tab 27=some ⟨.struct [(0,3),(1,24),(2,25),(3,26)],4,80,[(.p (.int .i64 0)),(.p .nil),(.p .nil),(.p .nil)]⟩:=rfl
theorem tab_28:tab 28=some ⟨.struct [(0,3),(1,24),(2,25),(3,26)],4,80,[(.p (.int .i64 0)),(.p .nil),(.p .nil),(.p .nil)]⟩:=rfl
theorem tab_30:tab 30=some ⟨.func,1,8,[.nilfn]⟩:=rfl
theorem tab_32:tab 32=some ⟨.func,1,8,[.nilfn]⟩:=rfl
theorem tab_33:tab 33=some ⟨.func,1,8,[.nilfn]⟩:=rfl
theorem tab_34:tab 34=some ⟨.struct [(0,24),(1,24)],2,48,[(.p .nil),(.p .nil)]⟩:=rfl
theorem tab_35:tab 35=some ⟨.struct [(0,24),(1,24)],2,48,[(.p .nil),(.p .nil)]⟩:=rfl
theorem tab_37:tab 37=some ⟨.func,1,8,[.nilfn]⟩:=rfl
theorem tab_38:tab 38=some ⟨.func,1,8,[.nilfn]⟩:=rfl
theorem tab_40:tab 40=some ⟨.func,1,8,[.nilfn]⟩:=rfl
theorem tab_41:tab 41=some ⟨.func,1,8,[.nilfn]⟩:=rfl
theorem tab_42:tab 42=some ⟨.func,1,8,[.nilfn]⟩:=rfl
theorem tab_43:tab 43=some ⟨.func,1,8,[.nilfn]⟩:=rfl
theorem tab_44:tab 44=some ⟨.func,1,8,[.nilfn]⟩:=rfl
theorem tab_45:tab 45=some ⟨.struct [(0,3),(1,3),(2,3)],3,24,[(.p (.int .i64 0)),(.p (.int .i64 0)),(.p (.int .i64 0))]⟩:=rfl
theorem tab_46:tab 46=some ⟨.struct [(0,3),(1,3),(2,3)],3,24,[(.p (.int .i64 0)),(.p (.int .i64 0)),(.p (.int .i64 0))]⟩:=rfl
theorem tab_47:tab 47=some ⟨.func,1,8,[.nilfn]⟩:=rfl
theorem tab_48:tab 48=some ⟨.func,1,8,[.nilfn]⟩:=rfl
theorem tab_49:tab 49=some ⟨.func,1,8,[.nilfn]⟩:=rfl
theorem tab_50:tab 50=some ⟨.func,1,8,[.nilfn]⟩:=rfl
theorem tab_51:tab 51=some ⟨.func,1,8,[.nilfn]⟩:=rfl
theorem tab_52:tab 52=some ⟨.func,1,8,[.nilfn]⟩:=rfl
theorem tab_53:tab 53=some ⟨.ptr 56,1,8,[.nilp]⟩:=rfl
theorem tab_54:tab 54=some ⟨.int .u64,1,8,[(.p (.int .u64 0))]⟩:=rfl
theorem tab_55:tab 55=some ⟨.struct [(0,22),(1,3),(2,54)],3,40,[(.p .nil),(.p (.int .i64 0)),(.p (.int .u64 0))]⟩:=rfl
theorem tab_56:tab 56=some ⟨.struct [(0,22),(1,3),(2,54)],3,40,[(.p .nil),(.p (.int .i64 0)),(.p (.int .u64 0))]⟩:=rfl
theorem tab_57:tab 57=some ⟨.func,1,8,[.nilfn]⟩:=rfl
theorem tab_58:tab 58=some ⟨.func,1,8,[.nilfn]⟩:=rfl
theorem tab_60:tab 60=some ⟨.func,1,8,[.nilfn]⟩:=rfl
theorem tab_61:tab 61=some ⟨.func,1,8,[.nilfn]⟩:=rfl
theorem tab_62:tab 62=some ⟨.func,1,8,[.nilfn]⟩:=rfl
theorem tab_63:tab 63=some ⟨.func,1,8,[.nilfn]⟩:=rfl
theorem tab_64:tab 64=some ⟨.func,1,8,[.nilfn]⟩:=rfl
theorem tab_65:tab 65=some ⟨.func,1,8,[.nilfn]⟩:=rfl
theorem tab_66:tab 66=some ⟨.func,1,8,[.nilfn]⟩:=rfl
theorem tab_67:tab 67=some ⟨.func,1,8,[.nilfn]⟩:=rfl
theorem tab_68:tab 68=some ⟨.func,1,8,[.nilfn]⟩:=rfl
theorem tab_69:tab 69=some ⟨.func,1,8,[.nilfn]⟩:=rfl
theorem tab_70:tab 70=some ⟨.func,1,8,[.nilfn]⟩:=rfl
theorem tab_71:tab 71=some ⟨.func,1,8,[.nilfn]⟩:=rfl
theorem tab_72:tab 72=some ⟨.func,1,8,[.nilfn]⟩:=rfl
theorem tab_73:tab 73=some ⟨.func,1,8,[.nilfn]⟩:=rfl
theorem tab_75:tab 75=some ⟨.func,1,8,[.nilfn]⟩:=rfl
theorem tab_76:tab 76=some ⟨.func,1,8,[.nilfn]⟩:=rfl
theorem tab_77:tab 77=some ⟨.func,1,8,[.nilfn]⟩:=rfl
theorem tab_78:tab 78=some ⟨.func,1,8,[.nilfn]⟩:=rfl
theorem tab_79:tab 79=some ⟨.func,1,8,[.nilfn]⟩:=rfl
theorem tab_80:tab 80=some ⟨.func,1,8,[.nilfn]⟩:=rfl
theorem tab_81:tab 81=some ⟨.slice 4,1,24,[(.p .nil)]⟩:=rfl
theorem tab_82:tab 82=some ⟨.func,1,8,[.nilfn]⟩:=rfl
theorem tab_83:tab 83=some ⟨.func,1,8,[.nilfn]⟩:=rfl
theorem tab_84:tab 84=some ⟨.func,1,8,[.nilfn]⟩:=rfl
theorem tab_85:tab 85=some ⟨.func,1,8,[.nilfn]⟩:=rfl
theorem tab_86:tab 86=some ⟨.func,1,8,[.nilfn]⟩:=rfl
theorem tab_87:tab 87=some ⟨.func,1,8,[.nilfn]⟩:=rfl
theorem tab_88:tab 88=some ⟨.func,1,8,[.nilfn]⟩:=rfl
theorem tab_89:tab 89=some ⟨.func,1,8,[.nilfn]⟩:=rfl
theorem tab_90:tab 90=some ⟨.func,1,8,[.nilfn]⟩:=rfl
theorem tab_92:tab 92=some ⟨.func,1,8,[.nilfn]⟩:=rfl
theorem tab_93:tab 93=some ⟨.func,1,8,[.nilfn]⟩:=rfl
theorem tab_94:tab 94=some ⟨.func,1,8,[.nilfn]⟩:=rfl
theorem tab_95:tab 95=some ⟨.func,1,8,[.nilfn]⟩:=rfl
theorem tab_96:tab 96=some ⟨.func,1,8,[.nilfn]⟩:=rfl
theorem tab_97:tab 97=some ⟨.func,1,8,[.nilfn]⟩:=rfl
theorem tab_98:tab 98=some ⟨.int .u64,1,8,[(.p (.int .u64 0))]⟩:=rfl
theorem tab_99:tab 99=some ⟨.func,1,8,[.nilfn]⟩:=rfl
theorem tab_100:tab 100=some ⟨.func,1,8,[.nilfn]⟩:=rfl
theorem tab_101:tab 101=some ⟨.ptr 103,1,8,[.nilp]⟩:=rfl
theorem tab_102:tab 102=some ⟨.struct [(0,26),(1,81),(2,24)],3,72,[(.p .nil),(.p .nil),(.p .nil)]⟩:=rfl
theorem tab_103:tab 103=some ⟨.struct [(0,26),(1,81),(2,24)],3,72,[(.p .nil),(.p .nil),(.p .nil)]⟩:=rfl
theorem tab_104:tab 104=some ⟨.func,1,8,[.nilfn]⟩:=rfl
theorem tab_105:tab 105=some ⟨.func,1,8,[.nilfn]⟩:=rfl
theorem tab_107:tab 107=some ⟨.func,1,8,[.nilfn]⟩:=rfl
theorem tab_108:tab 108=some ⟨.ptr 110,1,8,[.nilp]⟩:=rfl
theorem tab_109:tab 109=some ⟨.struct [(0,26),(1,24),(2,24),(3,24),(4,24),(5,3)],6,128,[(.p .nil),(.p .nil),(.p .nil),(.p .nil),(.p .nil),(.p (.int .i64 0))]⟩:=rfl
theorem tab_110:tab 110=some ⟨.struct [(0,26),(1,24),(2,24),(3,24),(4,24),(5,3)],6,128,[(.p .nil),(.p .nil),(.p .nil),(.p .nil),(.p .nil),(.p (.int .i64 0))]⟩:=rfl
theorem tab_111:tab 111=some ⟨.func,1,8,[.nilfn]⟩:=rfl
theorem tab_112:tab 112=some ⟨.int .i64,1,8,[(.p (.int .i64 0))]⟩:=rfl
theorem tab_114:tab 114=some ⟨.func,1,8,[.nilfn]⟩:=rfl
theorem tab_115:tab 115=some ⟨.func,1,8,[.nilfn]⟩:=rfl
theorem tab_116:tab 116=some ⟨.func,1,8,[.nilfn]⟩:=rfl
theorem tab_118:tab 118=some ⟨.func,1,8,[.nilfn]⟩:=rfl
theorem tab_119:tab 119=some ⟨.func,1,8,[.nilfn]⟩:=rfl
theorem tab_120:tab 120=some ⟨.int .u32,1,4,[(.p (.int .u32 0))]⟩:=rfl
theorem tab_121:tab 121=some ⟨.func,1,8,[.nilfn]⟩:=rfl
theorem tab_123:tab 123=some ⟨.func,1,8,[.nilfn]⟩:=rfl
theorem tab_125:tab 125=some ⟨.func,1,8,[.nilfn]⟩:=rfl
theorem tab_126:tab 126=some ⟨.func,1,8,[.nilfn]⟩:=rfl
theorem tab_127:tab 127=some ⟨.int .u64,1,8,[(.p (.int .u64 0))]⟩:=rfl
theorem tab_128:tab 128=some ⟨.func,1,8,[.nilfn]⟩:=rfl
theorem tab_129:tab 129=some ⟨.func,1,8,[.nilfn]⟩:=rfl
theorem tab_130:tab 130=some ⟨.func,1,8,[.nilfn]⟩:=rfl
theorem tab_131:tab 131=some ⟨.ptr 3,1,8,[.nilp]⟩:=rfl
theorem tab_132:tab 132=some ⟨.func,1,8,[.nilfn]⟩:=rfl
theorem tab_133:tab 133=some ⟨.ptr 127,1,8,[.nilp]⟩:=rfl
theorem tab_135:tab 135=some ⟨.func,1,8,[.nilfn]⟩:=rfl
theorem tab_136:tab 136=some ⟨.func,1,8,[.nilfn]⟩:=rfl
theorem tab_142:tab 142=some ⟨.int .u8,1,1,[(.p (.int .u8 0))]⟩:=rfl
theorem tab_143:tab 143=some ⟨.int .u8,1,1,[(.p (.int .u8 0))]⟩:=rfl
theorem tab_144:tab 144=some ⟨.func,1,8,[.nilfn]⟩:=rfl
theorem tab_145:tab 145=some ⟨.ptr 5,1,8,[.nilp]⟩:=rfl
theorem tab_146:tab 146=some ⟨.int .i32,1,4,[(.p (.int .i32 0))]⟩:=rfl
theorem tab_147:tab 147=some ⟨.int .i32,1,4,[(.p (.int .i32 0))]⟩:=rfl
set_option maxRecDepth 100000 in
theorem tabs:tab 1=some ⟨.func,1,8,[.nilfn]⟩∧tab 2=some ⟨.int .i64,1,8,[(.p (.int .i64 0))]⟩∧tab 3=some ⟨.int .i64,1,8,[(.p (.int .i64 0))]⟩∧tab 4=some ⟨.bool,1,1,[(.p (.bool false))]⟩∧tab 5=some ⟨.int .u8,1,1,[(.p (.int .u8 0))]⟩∧tab 6=some ⟨.int .u8,1,1,[(.p (.int .u8 0))]⟩∧tab 9=some ⟨.str,1,16,[(.p (.str ⟨#[]⟩))]⟩∧tab 10=some ⟨.str,1,16,[(.p (.str ⟨#[]⟩))]⟩∧tab 11=some ⟨.str,1,16,[(.p (.str ⟨#[]⟩))]⟩∧tab 12=some ⟨.int .u64,1,8,[(.p (.int .u64 0))]⟩∧tab 15=some ⟨.ptr 138,1,8,[.nilp]⟩∧tab 16=some ⟨.ptr 141,1,8,[.nilp]⟩∧tab 17=some ⟨.ptr 149,1,8,[.nilp]⟩∧tab 21=some ⟨.int .i32,1,4,[(.p (.int .i32 0))]⟩∧tab 22=some ⟨.slice 5,1,24,[(.p .nil)]⟩∧tab 23=some ⟨.func,1,8,[.nilfn]⟩∧tab 24=some ⟨.slice 3,1,24,[(.p .nil)]⟩∧tab 25=some ⟨.slice 46,1,24,[(.p .nil)]⟩∧tab 26=some ⟨.slice 24,1,24,[(.p .nil)]⟩∧tab 27=some ⟨.struct [(0,3),(1,24),(2,25),(3,26)],4,80,[(.p (.int .i64 0)),(.p .nil),(.p .nil),(.p .nil)]⟩∧tab 28=some ⟨.struct [(0,3),(1,24),(2,25),(3,26)],4,80,[(.p (.int .i64 0)),(.p .nil),(.p .nil),(.p .nil)]⟩∧tab 30=some ⟨.func,1,8,[.nilfn]⟩∧tab 32=some ⟨.func,1,8,[.nilfn]⟩∧tab 33=some ⟨.func,1,8,[.nilfn]⟩∧tab 34=some ⟨.struct [(0,24),(1,24)],2,48,[(.p .nil),(.p .nil)]⟩∧tab 35=some ⟨.struct [(0,24),(1,24)],2,48,[(.p .nil),(.p .nil)]⟩∧tab 37=some ⟨.func,1,8,[.nilfn]⟩∧tab 38=some ⟨.func,1,8,[.nilfn]⟩∧tab 40=some ⟨.func,1,8,[.nilfn]⟩∧tab 41=some ⟨.func,1,8,[.nilfn]⟩∧tab 42=some ⟨.func,1,8,[.nilfn]⟩∧tab 43=some ⟨.func,1,8,[.nilfn]⟩∧tab 44=some ⟨.func,1,8,[.nilfn]⟩∧tab 45=some ⟨.struct [(0,3),(1,3),(2,3)],3,24,[(.p (.int .i64 0)),(.p (.int .i64 0)),(.p (.int .i64 0))]⟩∧tab 46=some ⟨.struct [(0,3),(1,3),(2,3)],3,24,[(.p (.int .i64 0)),(.p (.int .i64 0)),(.p (.int .i64 0))]⟩∧tab 47=some ⟨.func,1,8,[.nilfn]⟩∧tab 48=some ⟨.func,1,8,[.nilfn]⟩∧tab 49=some ⟨.func,1,8,[.nilfn]⟩∧tab 50=some ⟨.func,1,8,[.nilfn]⟩∧tab 51=some ⟨.func,1,8,[.nilfn]⟩∧tab 52=some ⟨.func,1,8,[.nilfn]⟩∧tab 53=some ⟨.ptr 56,1,8,[.nilp]⟩∧tab 54=some ⟨.int .u64,1,8,[(.p (.int .u64 0))]⟩∧tab 55=some ⟨.struct [(0,22),(1,3),(2,54)],3,40,[(.p .nil),(.p (.int .i64 0)),(.p (.int .u64 0))]⟩∧tab 56=some ⟨.struct [(0,22),(1,3),(2,54)],3,40,[(.p .nil),(.p (.int .i64 0)),(.p (.int .u64 0))]⟩∧tab 57=some ⟨.func,1,8,[.nilfn]⟩∧tab 58=some ⟨.func,1,8,[.nilfn]⟩∧tab 60=some ⟨.func,1,8,[.nilfn]⟩∧tab 61=some ⟨.func,1,8,[.nilfn]⟩∧tab 62=some ⟨.func,1,8,[.nilfn]⟩∧tab 63=some ⟨.func,1,8,[.nilfn]⟩∧tab 64=some ⟨.func,1,8,[.nilfn]⟩∧tab 65=some ⟨.func,1,8,[.nilfn]⟩∧tab 66=some ⟨.func,1,8,[.nilfn]⟩∧tab 67=some ⟨.func,1,8,[.nilfn]⟩∧tab 68=some ⟨.func,1,8,[.nilfn]⟩∧tab 69=some ⟨.func,1,8,[.nilfn]⟩∧tab 70=some ⟨.func,1,8,[.nilfn]⟩∧tab 71=some ⟨.func,1,8,[.nilfn]⟩∧tab 72=some ⟨.func,1,8,[.nilfn]⟩∧tab 73=some ⟨.func,1,8,[.nilfn]⟩∧tab 75=some ⟨.func,1,8,[.nilfn]⟩∧tab 76=some ⟨.func,1,8,[.nilfn]⟩∧tab 77=some ⟨.func,1,8,[.nilfn]⟩∧tab 78=some ⟨.func,1,8,[.nilfn]⟩∧tab 79=some ⟨.func,1,8,[.nilfn]⟩∧tab 80=some ⟨.func,1,8,[.nilfn]⟩∧tab 81=some ⟨.slice 4,1,24,[(.p .nil)]⟩∧tab 82=some ⟨.func,1,8,[.nilfn]⟩∧tab 83=some ⟨.func,1,8,[.nilfn]⟩∧tab 84=some ⟨.func,1,8,[.nilfn]⟩∧tab 85=some ⟨.func,1,8,[.nilfn]⟩∧tab 86=some ⟨.func,1,8,[.nilfn]⟩∧tab 87=some ⟨.func,1,8,[.nilfn]⟩∧tab 88=some ⟨.func,1,8,[.nilfn]⟩∧tab 89=some ⟨.func,1,8,[.nilfn]⟩∧tab 90=some ⟨.func,1,8,[.nilfn]⟩∧tab 92=some ⟨.func,1,8,[.nilfn]⟩∧tab 93=some ⟨.func,1,8,[.nilfn]⟩∧tab 94=some ⟨.func,1,8,[.nilfn]⟩∧tab 95=some ⟨.func,1,8,[.nilfn]⟩∧tab 96=some ⟨.func,1,8,[.nilfn]⟩∧tab 97=some ⟨.func,1,8,[.nilfn]⟩∧tab 98=some ⟨.int .u64,1,8,[(.p (.int .u64 0))]⟩∧tab 99=some ⟨.func,1,8,[.nilfn]⟩∧tab 100=some ⟨.func,1,8,[.nilfn]⟩∧tab 101=some ⟨.ptr 103,1,8,[.nilp]⟩∧tab 102=some ⟨.struct [(0,26),(1,81),(2,24)],3,72,[(.p .nil),(.p .nil),(.p .nil)]⟩∧tab 103=some ⟨.struct [(0,26),(1,81),(2,24)],3,72,[(.p .nil),(.p .nil),(.p .nil)]⟩∧tab 104=some ⟨.func,1,8,[.nilfn]⟩∧tab 105=some ⟨.func,1,8,[.nilfn]⟩∧tab 107=some ⟨.func,1,8,[.nilfn]⟩∧tab 108=some ⟨.ptr 110,1,8,[.nilp]⟩∧tab 109=some ⟨.struct [(0,26),(1,24),(2,24),(3,24),(4,24),(5,3)],6,128,[(.p .nil),(.p .nil),(.p .nil),(.p .nil),(.p .nil),(.p (.int .i64 0))]⟩∧tab 110=some ⟨.struct [(0,26),(1,24),(2,24),(3,24),(4,24),(5,3)],6,128,[(.p .nil),(.p .nil),(.p .nil),(.p .nil),(.p .nil),(.p (.int .i64 0))]⟩∧tab 111=some ⟨.func,1,8,[.nilfn]⟩∧tab 112=some ⟨.int .i64,1,8,[(.p (.int .i64 0))]⟩∧tab 114=some ⟨.func,1,8,[.nilfn]⟩∧tab 115=some ⟨.func,1,8,[.nilfn]⟩∧tab 116=some ⟨.func,1,8,[.nilfn]⟩∧tab 118=some ⟨.func,1,8,[.nilfn]⟩∧tab 119=some ⟨.func,1,8,[.nilfn]⟩∧tab 120=some ⟨.int .u32,1,4,[(.p (.int .u32 0))]⟩∧tab 121=some ⟨.func,1,8,[.nilfn]⟩∧tab 123=some ⟨.func,1,8,[.nilfn]⟩∧tab 125=some ⟨.func,1,8,[.nilfn]⟩∧tab 126=some ⟨.func,1,8,[.nilfn]⟩∧tab 127=some ⟨.int .u64,1,8,[(.p (.int .u64 0))]⟩∧tab 128=some ⟨.func,1,8,[.nilfn]⟩∧tab 129=some ⟨.func,1,8,[.nilfn]⟩∧tab 130=some ⟨.func,1,8,[.nilfn]⟩∧tab 131=some ⟨.ptr 3,1,8,[.nilp]⟩∧tab 132=some ⟨.func,1,8,[.nilfn]⟩∧tab 133=some ⟨.ptr 127,1,8,[.nilp]⟩∧tab 135=some ⟨.func,1,8,[.nilfn]⟩∧tab 136=some ⟨.func,1,8,[.nilfn]⟩∧tab 142=some ⟨.int .u8,1,1,[(.p (.int .u8 0))]⟩∧tab 143=some ⟨.int .u8,1,1,[(.p (.int .u8 0))]⟩∧tab 144=some ⟨.func,1,8,[.nilfn]⟩∧tab 145=some ⟨.ptr 5,1,8,[.nilp]⟩∧tab 146=some ⟨.int .i32,1,4,[(.p (.int .i32 0))]⟩∧tab 147=some ⟨.int .i32,1,4,[(.p (.int .i32 0))]⟩:=⟨tab_1,tab_2,tab_3,tab_4,tab_5,tab_6,tab_9,tab_10,tab_11,tab_12,tab_15,tab_16,tab_17,tab_21,tab_22,tab_23,tab_24,tab_25,tab_26,tab_27,tab_28,tab_30,tab_32,tab_33,tab_34,tab_35,tab_37,tab_38,tab_40,tab_41,tab_42,tab_43,tab_44,tab_45,tab_46,tab_47,tab_48,tab_49,tab_50,tab_51,tab_52,tab_53,tab_54,tab_55,tab_56,tab_57,tab_58,tab_60,tab_61,tab_62,tab_63,tab_64,tab_65,tab_66,tab_67,tab_68,tab_69,tab_70,tab_71,tab_72,tab_73,tab_75,tab_76,tab_77,tab_78,tab_79,tab_80,tab_81,tab_82,tab_83,tab_84,tab_85,tab_86,tab_87,tab_88,tab_89,tab_90,tab_92,tab_93,tab_94,tab_95,tab_96,tab_97,tab_98,tab_99,tab_100,tab_101,tab_102,tab_103,tab_104,tab_105,tab_107,tab_108,tab_109,tab_110,tab_111,tab_112,tab_114,tab_115,tab_116,tab_118,tab_119,tab_120,tab_121,tab_123,tab_125,tab_126,tab_127,tab_128,tab_129,tab_130,tab_131,tab_132,tab_133,tab_135,tab_136,tab_142,tab_143,tab_144,tab_145,tab_146,tab_147⟩
theorem info1:(Try.prog.info? 1).map (fun i=>(i.zero,i.size,i.bytes))=some (some .nilFunc,1,8):=by kernel_rfl
theorem td1_ok:TD.Ok Try.prog 1 td1:=TD.Ok.of ⟨_,_,_,Try.underlying1⟩ info1 rfl rfl (by decide) (fun _=>rfl)
theorem info2:(Try.prog.info? 2).map (fun i=>(i.zero,i.size,i.bytes))=some (some (.int .i64 0),1,8):=by kernel_rfl
theorem td2_ok:TD.Ok Try.prog 2 td2:=TD.Ok.of Try.underlying2 info2 rfl rfl (by decide) (fun _=>rfl)
theorem info3:(Try.prog.info? 3).map (fun i=>(i.zero,i.size,i.bytes))=some (some (.int .i64 0),1,8):=by kernel_rfl
theorem td3_ok:TD.Ok Try.prog 3 td3:=TD.Ok.of Try.underlying3 info3 rfl rfl (by decide) (fun _=>rfl)
theorem info4:(Try.prog.info? 4).map (fun i=>(i.zero,i.size,i.bytes))=some (some (.bool false),1,1):=by kernel_rfl
theorem td4_ok:TD.Ok Try.prog 4 td4:=TD.Ok.of Try.underlying4 info4 rfl rfl (by decide) (fun _=>rfl)
theorem info5:(Try.prog.info? 5).map (fun i=>(i.zero,i.size,i.bytes))=some (some (.int .u8 0),1,1):=by kernel_rfl
theorem td5_ok:TD.Ok Try.prog 5 td5:=TD.Ok.of Try.underlying5 info5 rfl rfl (by decide) (fun _=>rfl)
theorem info6:(Try.prog.info? 6).map (fun i=>(i.zero,i.size,i.bytes))=some (some (.int .u8 0),1,1):=by kernel_rfl
theorem td6_ok:TD.Ok Try.prog 6 td6:=TD.Ok.of Try.underlying6 info6 rfl rfl (by decide) (fun _=>rfl)
theorem info9:(Try.prog.info? 9).map (fun i=>(i.zero,i.size,i.bytes))=some (some (.string ⟨#[]⟩),1,16):=by kernel_rfl
theorem td9_ok:TD.Ok Try.prog 9 td9:=TD.Ok.of Try.underlying9 info9 rfl rfl (by decide) (fun _=>rfl)
theorem info10:(Try.prog.info? 10).map (fun i=>(i.zero,i.size,i.bytes))=some (some (.string ⟨#[]⟩),1,16):=by kernel_rfl
theorem td10_ok:TD.Ok Try.prog 10 td10:=TD.Ok.of Try.underlying10 info10 rfl rfl (by decide) (fun _=>rfl)
theorem info11:(Try.prog.info? 11).map (fun i=>(i.zero,i.size,i.bytes))=some (some (.string ⟨#[]⟩),1,16):=by kernel_rfl
theorem td11_ok:TD.Ok Try.prog 11 td11:=TD.Ok.of Try.underlying11 info11 rfl rfl (by decide) (fun _=>rfl)
theorem info12:(Try.prog.info? 12).map (fun i=>(i.zero,i.size,i.bytes))=some (some (.int .u64 0),1,8):=by kernel_rfl
theorem td12_ok:TD.Ok Try.prog 12 td12:=TD.Ok.of Try.underlying12 info12 rfl rfl (by decide) (fun _=>rfl)
theorem info15:(Try.prog.info? 15).map (fun i=>(i.zero,i.size,i.bytes))=some (some (.pointer none),1,8):=by kernel_rfl
theorem td15_ok:TD.Ok Try.prog 15 td15:=TD.Ok.of Try.underlying15 info15 rfl rfl (by decide) (fun _=>rfl)
theorem info16:(Try.prog.info? 16).map (fun i=>(i.zero,i.size,i.bytes))=some (some (.pointer none),1,8):=by kernel_rfl
theorem td16_ok:TD.Ok Try.prog 16 td16:=TD.Ok.of Try.underlying16 info16 rfl rfl (by decide) (fun _=>rfl)
theorem info17:(Try.prog.info? 17).map (fun i=>(i.zero,i.size,i.bytes))=some (some (.pointer none),1,8):=by kernel_rfl
theorem td17_ok:TD.Ok Try.prog 17 td17:=TD.Ok.of Try.underlying17 info17 rfl rfl (by decide) (fun _=>rfl)
theorem info21:(Try.prog.info? 21).map (fun i=>(i.zero,i.size,i.bytes))=some (some (.int .i32 0),1,4):=by kernel_rfl
theorem td21_ok:TD.Ok Try.prog 21 td21:=TD.Ok.of Try.underlying21 info21 rfl rfl (by decide) (fun _=>rfl)
theorem info22:(Try.prog.info? 22).map (fun i=>(i.zero,i.size,i.bytes))=some (some (.slice none 0 0),1,24):=by kernel_rfl
theorem td22_ok:TD.Ok Try.prog 22 td22:=TD.Ok.of Try.underlying22 info22 rfl rfl (by decide) (fun _=>rfl)
theorem info23:(Try.prog.info? 23).map (fun i=>(i.zero,i.size,i.bytes))=some (some .nilFunc,1,8):=by kernel_rfl
theorem td23_ok:TD.Ok Try.prog 23 td23:=TD.Ok.of ⟨_,_,_,Try.underlying23⟩ info23 rfl rfl (by decide) (fun _=>rfl)
theorem info24:(Try.prog.info? 24).map (fun i=>(i.zero,i.size,i.bytes))=some (some (.slice none 0 0),1,24):=by kernel_rfl
theorem td24_ok:TD.Ok Try.prog 24 td24:=TD.Ok.of Try.underlying24 info24 rfl rfl (by decide) (fun _=>rfl)
theorem info25:(Try.prog.info? 25).map (fun i=>(i.zero,i.size,i.bytes))=some (some (.slice none 0 0),1,24):=by kernel_rfl
theorem td25_ok:TD.Ok Try.prog 25 td25:=TD.Ok.of Try.underlying25 info25 rfl rfl (by decide) (fun _=>rfl)
theorem info26:(Try.prog.info? 26).map (fun i=>(i.zero,i.size,i.bytes))=some (some (.slice none 0 0),1,24):=by kernel_rfl
theorem td26_ok:TD.Ok Try.prog 26 td26:=TD.Ok.of Try.underlying26 info26 rfl rfl (by decide) (fun _=>rfl)
theorem info27:(Try.prog.info? 27).map (fun i=>(i.zero,i.size,i.bytes))=some (some (.agg #[(.int .i64 0),(.slice none 0 0),(.slice none 0 0),(.slice none 0 0)]),4,80):=by kernel_rfl
theorem td27_ok:TD.Ok Try.prog 27 td27:=TD.Ok.of ⟨_,Try.underlying27,rfl,Try.stoodInHeld27,Try.eqGuardType27,by decide⟩ info27 rfl rfl (by decide) (fun h=>by cases h)
theorem info28:(Try.prog.info? 28).map (fun i=>(i.zero,i.size,i.bytes))=some (some (.agg #[(.int .i64 0),(.slice none 0 0),(.slice none 0 0),(.slice none 0 0)]),4,80):=by kernel_rfl
theorem td28_ok:TD.Ok Try.prog 28 td28:=TD.Ok.of ⟨_,Try.underlying28,rfl,Try.stoodInHeld28,Try.eqGuardType28,by decide⟩ info28 rfl rfl (by decide) (fun h=>by cases h)
theorem info30:(Try.prog.info? 30).map (fun i=>(i.zero,i.size,i.bytes))=some (some .nilFunc,1,8):=by kernel_rfl
theorem td30_ok:TD.Ok Try.prog 30 td30:=TD.Ok.of ⟨_,_,_,Try.underlying30⟩ info30 rfl rfl (by decide) (fun _=>rfl)
theorem info32:(Try.prog.info? 32).map (fun i=>(i.zero,i.size,i.bytes))=some (some .nilFunc,1,8):=by kernel_rfl
theorem td32_ok:TD.Ok Try.prog 32 td32:=TD.Ok.of ⟨_,_,_,Try.underlying32⟩ info32 rfl rfl (by decide) (fun _=>rfl)
theorem info33:(Try.prog.info? 33).map (fun i=>(i.zero,i.size,i.bytes))=some (some .nilFunc,1,8):=by kernel_rfl
theorem td33_ok:TD.Ok Try.prog 33 td33:=TD.Ok.of ⟨_,_,_,Try.underlying33⟩ info33 rfl rfl (by decide) (fun _=>rfl)
theorem info34:(Try.prog.info? 34).map (fun i=>(i.zero,i.size,i.bytes))=some (some (.agg #[(.slice none 0 0),(.slice none 0 0)]),2,48):=by kernel_rfl
theorem td34_ok:TD.Ok Try.prog 34 td34:=TD.Ok.of ⟨_,Try.underlying34,rfl,Try.stoodInHeld34,Try.eqGuardType34,by decide⟩ info34 rfl rfl (by decide) (fun h=>by cases h)
theorem info35:(Try.prog.info? 35).map (fun i=>(i.zero,i.size,i.bytes))=some (some (.agg #[(.slice none 0 0),(.slice none 0 0)]),2,48):=by kernel_rfl
theorem td35_ok:TD.Ok Try.prog 35 td35:=TD.Ok.of ⟨_,Try.underlying35,rfl,Try.stoodInHeld35,Try.eqGuardType35,by decide⟩ info35 rfl rfl (by decide) (fun h=>by cases h)
theorem info37:(Try.prog.info? 37).map (fun i=>(i.zero,i.size,i.bytes))=some (some .nilFunc,1,8):=by kernel_rfl
theorem td37_ok:TD.Ok Try.prog 37 td37:=TD.Ok.of ⟨_,_,_,Try.underlying37⟩ info37 rfl rfl (by decide) (fun _=>rfl)
theorem info38:(Try.prog.info? 38).map (fun i=>(i.zero,i.size,i.bytes))=some (some .nilFunc,1,8):=by kernel_rfl
theorem td38_ok:TD.Ok Try.prog 38 td38:=TD.Ok.of ⟨_,_,_,Try.underlying38⟩ info38 rfl rfl (by decide) (fun _=>rfl)
theorem info40:(Try.prog.info? 40).map (fun i=>(i.zero,i.size,i.bytes))=some (some .nilFunc,1,8):=by kernel_rfl
theorem td40_ok:TD.Ok Try.prog 40 td40:=TD.Ok.of ⟨_,_,_,Try.underlying40⟩ info40 rfl rfl (by decide) (fun _=>rfl)
theorem info41:(Try.prog.info? 41).map (fun i=>(i.zero,i.size,i.bytes))=some (some .nilFunc,1,8):=by kernel_rfl
theorem td41_ok:TD.Ok Try.prog 41 td41:=TD.Ok.of ⟨_,_,_,Try.underlying41⟩ info41 rfl rfl (by decide) (fun _=>rfl)
theorem info42:(Try.prog.info? 42).map (fun i=>(i.zero,i.size,i.bytes))=some (some .nilFunc,1,8):=by kernel_rfl
theorem td42_ok:TD.Ok Try.prog 42 td42:=TD.Ok.of ⟨_,_,_,Try.underlying42⟩ info42 rfl rfl (by decide) (fun _=>rfl)
theorem info43:(Try.prog.info? 43).map (fun i=>(i.zero,i.size,i.bytes))=some (some .nilFunc,1,8):=by kernel_rfl
theorem td43_ok:TD.Ok Try.prog 43 td43:=TD.Ok.of ⟨_,_,_,Try.underlying43⟩ info43 rfl rfl (by decide) (fun _=>rfl)
theorem info44:(Try.prog.info? 44).map (fun i=>(i.zero,i.size,i.bytes))=some (some .nilFunc,1,8):=by kernel_rfl
theorem td44_ok:TD.Ok Try.prog 44 td44:=TD.Ok.of ⟨_,_,_,Try.underlying44⟩ info44 rfl rfl (by decide) (fun _=>rfl)
theorem info45:(Try.prog.info? 45).map (fun i=>(i.zero,i.size,i.bytes))=some (some (.agg #[(.int .i64 0),(.int .i64 0),(.int .i64 0)]),3,24):=by kernel_rfl
theorem td45_ok:TD.Ok Try.prog 45 td45:=TD.Ok.of ⟨_,Try.underlying45,rfl,Try.stoodInHeld45,Try.eqGuardType45,by decide⟩ info45 rfl rfl (by decide) (fun h=>by cases h)
theorem info46:(Try.prog.info? 46).map (fun i=>(i.zero,i.size,i.bytes))=some (some (.agg #[(.int .i64 0),(.int .i64 0),(.int .i64 0)]),3,24):=by kernel_rfl
theorem td46_ok:TD.Ok Try.prog 46 td46:=TD.Ok.of ⟨_,Try.underlying46,rfl,Try.stoodInHeld46,Try.eqGuardType46,by decide⟩ info46 rfl rfl (by decide) (fun h=>by cases h)
theorem info47:(Try.prog.info? 47).map (fun i=>(i.zero,i.size,i.bytes))=some (some .nilFunc,1,8):=by kernel_rfl
theorem td47_ok:TD.Ok Try.prog 47 td47:=TD.Ok.of ⟨_,_,_,Try.underlying47⟩ info47 rfl rfl (by decide) (fun _=>rfl)
theorem info48:(Try.prog.info? 48).map (fun i=>(i.zero,i.size,i.bytes))=some (some .nilFunc,1,8):=by kernel_rfl
theorem td48_ok:TD.Ok Try.prog 48 td48:=TD.Ok.of ⟨_,_,_,Try.underlying48⟩ info48 rfl rfl (by decide) (fun _=>rfl)
theorem info49:(Try.prog.info? 49).map (fun i=>(i.zero,i.size,i.bytes))=some (some .nilFunc,1,8):=by kernel_rfl
theorem td49_ok:TD.Ok Try.prog 49 td49:=TD.Ok.of ⟨_,_,_,Try.underlying49⟩ info49 rfl rfl (by decide) (fun _=>rfl)
theorem info50:(Try.prog.info? 50).map (fun i=>(i.zero,i.size,i.bytes))=some (some .nilFunc,1,8):=by kernel_rfl
theorem td50_ok:TD.Ok Try.prog 50 td50:=TD.Ok.of ⟨_,_,_,Try.underlying50⟩ info50 rfl rfl (by decide) (fun _=>rfl)
theorem info51:(Try.prog.info? 51).map (fun i=>(i.zero,i.size,i.bytes))=some (some .nilFunc,1,8):=by kernel_rfl
theorem td51_ok:TD.Ok Try.prog 51 td51:=TD.Ok.of ⟨_,_,_,Try.underlying51⟩ info51 rfl rfl (by decide) (fun _=>rfl)
theorem info52:(Try.prog.info? 52).map (fun i=>(i.zero,i.size,i.bytes))=some (some .nilFunc,1,8):=by kernel_rfl
theorem td52_ok:TD.Ok Try.prog 52 td52:=TD.Ok.of ⟨_,_,_,Try.underlying52⟩ info52 rfl rfl (by decide) (fun _=>rfl)
theorem info53:(Try.prog.info? 53).map (fun i=>(i.zero,i.size,i.bytes))=some (some (.pointer none),1,8):=by kernel_rfl
theorem td53_ok:TD.Ok Try.prog 53 td53:=TD.Ok.of Try.underlying53 info53 rfl rfl (by decide) (fun _=>rfl)
theorem info54:(Try.prog.info? 54).map (fun i=>(i.zero,i.size,i.bytes))=some (some (.int .u64 0),1,8):=by kernel_rfl
theorem td54_ok:TD.Ok Try.prog 54 td54:=TD.Ok.of Try.underlying54 info54 rfl rfl (by decide) (fun _=>rfl)
theorem info55:(Try.prog.info? 55).map (fun i=>(i.zero,i.size,i.bytes))=some (some (.agg #[(.slice none 0 0),(.int .i64 0),(.int .u64 0)]),3,40):=by kernel_rfl
theorem td55_ok:TD.Ok Try.prog 55 td55:=TD.Ok.of ⟨_,Try.underlying55,rfl,Try.stoodInHeld55,Try.eqGuardType55,by decide⟩ info55 rfl rfl (by decide) (fun h=>by cases h)
theorem info56:(Try.prog.info? 56).map (fun i=>(i.zero,i.size,i.bytes))=some (some (.agg #[(.slice none 0 0),(.int .i64 0),(.int .u64 0)]),3,40):=by kernel_rfl
theorem td56_ok:TD.Ok Try.prog 56 td56:=TD.Ok.of ⟨_,Try.underlying56,rfl,Try.stoodInHeld56,Try.eqGuardType56,by decide⟩ info56 rfl rfl (by decide) (fun h=>by cases h)
theorem info57:(Try.prog.info? 57).map (fun i=>(i.zero,i.size,i.bytes))=some (some .nilFunc,1,8):=by kernel_rfl
theorem td57_ok:TD.Ok Try.prog 57 td57:=TD.Ok.of ⟨_,_,_,Try.underlying57⟩ info57 rfl rfl (by decide) (fun _=>rfl)
theorem info58:(Try.prog.info? 58).map (fun i=>(i.zero,i.size,i.bytes))=some (some .nilFunc,1,8):=by kernel_rfl
theorem td58_ok:TD.Ok Try.prog 58 td58:=TD.Ok.of ⟨_,_,_,Try.underlying58⟩ info58 rfl rfl (by decide) (fun _=>rfl)
theorem info60:(Try.prog.info? 60).map (fun i=>(i.zero,i.size,i.bytes))=some (some .nilFunc,1,8):=by kernel_rfl
theorem td60_ok:TD.Ok Try.prog 60 td60:=TD.Ok.of ⟨_,_,_,Try.underlying60⟩ info60 rfl rfl (by decide) (fun _=>rfl)
theorem info61:(Try.prog.info? 61).map (fun i=>(i.zero,i.size,i.bytes))=some (some .nilFunc,1,8):=by kernel_rfl
theorem td61_ok:TD.Ok Try.prog 61 td61:=TD.Ok.of ⟨_,_,_,Try.underlying61⟩ info61 rfl rfl (by decide) (fun _=>rfl)
theorem info62:(Try.prog.info? 62).map (fun i=>(i.zero,i.size,i.bytes))=some (some .nilFunc,1,8):=by kernel_rfl
theorem td62_ok:TD.Ok Try.prog 62 td62:=TD.Ok.of ⟨_,_,_,Try.underlying62⟩ info62 rfl rfl (by decide) (fun _=>rfl)
theorem info63:(Try.prog.info? 63).map (fun i=>(i.zero,i.size,i.bytes))=some (some .nilFunc,1,8):=by kernel_rfl
theorem td63_ok:TD.Ok Try.prog 63 td63:=TD.Ok.of ⟨_,_,_,Try.underlying63⟩ info63 rfl rfl (by decide) (fun _=>rfl)
theorem info64:(Try.prog.info? 64).map (fun i=>(i.zero,i.size,i.bytes))=some (some .nilFunc,1,8):=by kernel_rfl
theorem td64_ok:TD.Ok Try.prog 64 td64:=TD.Ok.of ⟨_,_,_,Try.underlying64⟩ info64 rfl rfl (by decide) (fun _=>rfl)
theorem info65:(Try.prog.info? 65).map (fun i=>(i.zero,i.size,i.bytes))=some (some .nilFunc,1,8):=by kernel_rfl
theorem td65_ok:TD.Ok Try.prog 65 td65:=TD.Ok.of ⟨_,_,_,Try.underlying65⟩ info65 rfl rfl (by decide) (fun _=>rfl)
theorem info66:(Try.prog.info? 66).map (fun i=>(i.zero,i.size,i.bytes))=some (some .nilFunc,1,8):=by kernel_rfl
theorem td66_ok:TD.Ok Try.prog 66 td66:=TD.Ok.of ⟨_,_,_,Try.underlying66⟩ info66 rfl rfl (by decide) (fun _=>rfl)
theorem info67:(Try.prog.info? 67).map (fun i=>(i.zero,i.size,i.bytes))=some (some .nilFunc,1,8):=by kernel_rfl
theorem td67_ok:TD.Ok Try.prog 67 td67:=TD.Ok.of ⟨_,_,_,Try.underlying67⟩ info67 rfl rfl (by decide) (fun _=>rfl)
theorem info68:(Try.prog.info? 68).map (fun i=>(i.zero,i.size,i.bytes))=some (some .nilFunc,1,8):=by kernel_rfl
theorem td68_ok:TD.Ok Try.prog 68 td68:=TD.Ok.of ⟨_,_,_,Try.underlying68⟩ info68 rfl rfl (by decide) (fun _=>rfl)
theorem info69:(Try.prog.info? 69).map (fun i=>(i.zero,i.size,i.bytes))=some (some .nilFunc,1,8):=by kernel_rfl
theorem td69_ok:TD.Ok Try.prog 69 td69:=TD.Ok.of ⟨_,_,_,Try.underlying69⟩ info69 rfl rfl (by decide) (fun _=>rfl)
theorem info70:(Try.prog.info? 70).map (fun i=>(i.zero,i.size,i.bytes))=some (some .nilFunc,1,8):=by kernel_rfl
theorem td70_ok:TD.Ok Try.prog 70 td70:=TD.Ok.of ⟨_,_,_,Try.underlying70⟩ info70 rfl rfl (by decide) (fun _=>rfl)
theorem info71:(Try.prog.info? 71).map (fun i=>(i.zero,i.size,i.bytes))=some (some .nilFunc,1,8):=by kernel_rfl
theorem td71_ok:TD.Ok Try.prog 71 td71:=TD.Ok.of ⟨_,_,_,Try.underlying71⟩ info71 rfl rfl (by decide) (fun _=>rfl)
theorem info72:(Try.prog.info? 72).map (fun i=>(i.zero,i.size,i.bytes))=some (some .nilFunc,1,8):=by kernel_rfl
theorem td72_ok:TD.Ok Try.prog 72 td72:=TD.Ok.of ⟨_,_,_,Try.underlying72⟩ info72 rfl rfl (by decide) (fun _=>rfl)
theorem info73:(Try.prog.info? 73).map (fun i=>(i.zero,i.size,i.bytes))=some (some .nilFunc,1,8):=by kernel_rfl
theorem td73_ok:TD.Ok Try.prog 73 td73:=TD.Ok.of ⟨_,_,_,Try.underlying73⟩ info73 rfl rfl (by decide) (fun _=>rfl)
theorem info75:(Try.prog.info? 75).map (fun i=>(i.zero,i.size,i.bytes))=some (some .nilFunc,1,8):=by kernel_rfl
theorem td75_ok:TD.Ok Try.prog 75 td75:=TD.Ok.of ⟨_,_,_,Try.underlying75⟩ info75 rfl rfl (by decide) (fun _=>rfl)
theorem info76:(Try.prog.info? 76).map (fun i=>(i.zero,i.size,i.bytes))=some (some .nilFunc,1,8):=by kernel_rfl
theorem td76_ok:TD.Ok Try.prog 76 td76:=TD.Ok.of ⟨_,_,_,Try.underlying76⟩ info76 rfl rfl (by decide) (fun _=>rfl)
theorem info77:(Try.prog.info? 77).map (fun i=>(i.zero,i.size,i.bytes))=some (some .nilFunc,1,8):=by kernel_rfl
theorem td77_ok:TD.Ok Try.prog 77 td77:=TD.Ok.of ⟨_,_,_,Try.underlying77⟩ info77 rfl rfl (by decide) (fun _=>rfl)
theorem info78:(Try.prog.info? 78).map (fun i=>(i.zero,i.size,i.bytes))=some (some .nilFunc,1,8):=by kernel_rfl
theorem td78_ok:TD.Ok Try.prog 78 td78:=TD.Ok.of ⟨_,_,_,Try.underlying78⟩ info78 rfl rfl (by decide) (fun _=>rfl)
theorem info79:(Try.prog.info? 79).map (fun i=>(i.zero,i.size,i.bytes))=some (some .nilFunc,1,8):=by kernel_rfl
theorem td79_ok:TD.Ok Try.prog 79 td79:=TD.Ok.of ⟨_,_,_,Try.underlying79⟩ info79 rfl rfl (by decide) (fun _=>rfl)
theorem info80:(Try.prog.info? 80).map (fun i=>(i.zero,i.size,i.bytes))=some (some .nilFunc,1,8):=by kernel_rfl
theorem td80_ok:TD.Ok Try.prog 80 td80:=TD.Ok.of ⟨_,_,_,Try.underlying80⟩ info80 rfl rfl (by decide) (fun _=>rfl)
theorem info81:(Try.prog.info? 81).map (fun i=>(i.zero,i.size,i.bytes))=some (some (.slice none 0 0),1,24):=by kernel_rfl
theorem td81_ok:TD.Ok Try.prog 81 td81:=TD.Ok.of Try.underlying81 info81 rfl rfl (by decide) (fun _=>rfl)
theorem info82:(Try.prog.info? 82).map (fun i=>(i.zero,i.size,i.bytes))=some (some .nilFunc,1,8):=by kernel_rfl
theorem td82_ok:TD.Ok Try.prog 82 td82:=TD.Ok.of ⟨_,_,_,Try.underlying82⟩ info82 rfl rfl (by decide) (fun _=>rfl)
theorem info83:(Try.prog.info? 83).map (fun i=>(i.zero,i.size,i.bytes))=some (some .nilFunc,1,8):=by kernel_rfl
theorem td83_ok:TD.Ok Try.prog 83 td83:=TD.Ok.of ⟨_,_,_,Try.underlying83⟩ info83 rfl rfl (by decide) (fun _=>rfl)
theorem info84:(Try.prog.info? 84).map (fun i=>(i.zero,i.size,i.bytes))=some (some .nilFunc,1,8):=by kernel_rfl
theorem td84_ok:TD.Ok Try.prog 84 td84:=TD.Ok.of ⟨_,_,_,Try.underlying84⟩ info84 rfl rfl (by decide) (fun _=>rfl)
theorem info85:(Try.prog.info? 85).map (fun i=>(i.zero,i.size,i.bytes))=some (some .nilFunc,1,8):=by kernel_rfl
theorem td85_ok:TD.Ok Try.prog 85 td85:=TD.Ok.of ⟨_,_,_,Try.underlying85⟩ info85 rfl rfl (by decide) (fun _=>rfl)
theorem info86:(Try.prog.info? 86).map (fun i=>(i.zero,i.size,i.bytes))=some (some .nilFunc,1,8):=by kernel_rfl
theorem td86_ok:TD.Ok Try.prog 86 td86:=TD.Ok.of ⟨_,_,_,Try.underlying86⟩ info86 rfl rfl (by decide) (fun _=>rfl)
theorem info87:(Try.prog.info? 87).map (fun i=>(i.zero,i.size,i.bytes))=some (some .nilFunc,1,8):=by kernel_rfl
theorem td87_ok:TD.Ok Try.prog 87 td87:=TD.Ok.of ⟨_,_,_,Try.underlying87⟩ info87 rfl rfl (by decide) (fun _=>rfl)
theorem info88:(Try.prog.info? 88).map (fun i=>(i.zero,i.size,i.bytes))=some (some .nilFunc,1,8):=by kernel_rfl
theorem td88_ok:TD.Ok Try.prog 88 td88:=TD.Ok.of ⟨_,_,_,Try.underlying88⟩ info88 rfl rfl (by decide) (fun _=>rfl)
theorem info89:(Try.prog.info? 89).map (fun i=>(i.zero,i.size,i.bytes))=some (some .nilFunc,1,8):=by kernel_rfl
theorem td89_ok:TD.Ok Try.prog 89 td89:=TD.Ok.of ⟨_,_,_,Try.underlying89⟩ info89 rfl rfl (by decide) (fun _=>rfl)
theorem info90:(Try.prog.info? 90).map (fun i=>(i.zero,i.size,i.bytes))=some (some .nilFunc,1,8):=by kernel_rfl
theorem td90_ok:TD.Ok Try.prog 90 td90:=TD.Ok.of ⟨_,_,_,Try.underlying90⟩ info90 rfl rfl (by decide) (fun _=>rfl)
theorem info92:(Try.prog.info? 92).map (fun i=>(i.zero,i.size,i.bytes))=some (some .nilFunc,1,8):=by kernel_rfl
theorem td92_ok:TD.Ok Try.prog 92 td92:=TD.Ok.of ⟨_,_,_,Try.underlying92⟩ info92 rfl rfl (by decide) (fun _=>rfl)
theorem info93:(Try.prog.info? 93).map (fun i=>(i.zero,i.size,i.bytes))=some (some .nilFunc,1,8):=by kernel_rfl
theorem td93_ok:TD.Ok Try.prog 93 td93:=TD.Ok.of ⟨_,_,_,Try.underlying93⟩ info93 rfl rfl (by decide) (fun _=>rfl)
theorem info94:(Try.prog.info? 94).map (fun i=>(i.zero,i.size,i.bytes))=some (some .nilFunc,1,8):=by kernel_rfl
theorem td94_ok:TD.Ok Try.prog 94 td94:=TD.Ok.of ⟨_,_,_,Try.underlying94⟩ info94 rfl rfl (by decide) (fun _=>rfl)
theorem info95:(Try.prog.info? 95).map (fun i=>(i.zero,i.size,i.bytes))=some (some .nilFunc,1,8):=by kernel_rfl
theorem td95_ok:TD.Ok Try.prog 95 td95:=TD.Ok.of ⟨_,_,_,Try.underlying95⟩ info95 rfl rfl (by decide) (fun _=>rfl)
theorem info96:(Try.prog.info? 96).map (fun i=>(i.zero,i.size,i.bytes))=some (some .nilFunc,1,8):=by kernel_rfl
theorem td96_ok:TD.Ok Try.prog 96 td96:=TD.Ok.of ⟨_,_,_,Try.underlying96⟩ info96 rfl rfl (by decide) (fun _=>rfl)
theorem info97:(Try.prog.info? 97).map (fun i=>(i.zero,i.size,i.bytes))=some (some .nilFunc,1,8):=by kernel_rfl
theorem td97_ok:TD.Ok Try.prog 97 td97:=TD.Ok.of ⟨_,_,_,Try.underlying97⟩ info97 rfl rfl (by decide) (fun _=>rfl)
theorem info98:(Try.prog.info? 98).map (fun i=>(i.zero,i.size,i.bytes))=some (some (.int .u64 0),1,8):=by kernel_rfl
theorem td98_ok:TD.Ok Try.prog 98 td98:=TD.Ok.of Try.underlying98 info98 rfl rfl (by decide) (fun _=>rfl)
theorem info99:(Try.prog.info? 99).map (fun i=>(i.zero,i.size,i.bytes))=some (some .nilFunc,1,8):=by kernel_rfl
theorem td99_ok:TD.Ok Try.prog 99 td99:=TD.Ok.of ⟨_,_,_,Try.underlying99⟩ info99 rfl rfl (by decide) (fun _=>rfl)
theorem info100:(Try.prog.info? 100).map (fun i=>(i.zero,i.size,i.bytes))=some (some .nilFunc,1,8):=by kernel_rfl
theorem td100_ok:TD.Ok Try.prog 100 td100:=TD.Ok.of ⟨_,_,_,Try.underlying100⟩ info100 rfl rfl (by decide) (fun _=>rfl)
theorem info101:(Try.prog.info? 101).map (fun i=>(i.zero,i.size,i.bytes))=some (some (.pointer none),1,8):=by kernel_rfl
theorem td101_ok:TD.Ok Try.prog 101 td101:=TD.Ok.of Try.underlying101 info101 rfl rfl (by decide) (fun _=>rfl)
theorem info102:(Try.prog.info? 102).map (fun i=>(i.zero,i.size,i.bytes))=some (some (.agg #[(.slice none 0 0),(.slice none 0 0),(.slice none 0 0)]),3,72):=by kernel_rfl
theorem td102_ok:TD.Ok Try.prog 102 td102:=TD.Ok.of ⟨_,Try.underlying102,rfl,Try.stoodInHeld102,Try.eqGuardType102,by decide⟩ info102 rfl rfl (by decide) (fun h=>by cases h)
theorem info103:(Try.prog.info? 103).map (fun i=>(i.zero,i.size,i.bytes))=some (some (.agg #[(.slice none 0 0),(.slice none 0 0),(.slice none 0 0)]),3,72):=by kernel_rfl
theorem td103_ok:TD.Ok Try.prog 103 td103:=TD.Ok.of ⟨_,Try.underlying103,rfl,Try.stoodInHeld103,Try.eqGuardType103,by decide⟩ info103 rfl rfl (by decide) (fun h=>by cases h)
theorem info104:(Try.prog.info? 104).map (fun i=>(i.zero,i.size,i.bytes))=some (some .nilFunc,1,8):=by kernel_rfl
theorem td104_ok:TD.Ok Try.prog 104 td104:=TD.Ok.of ⟨_,_,_,Try.underlying104⟩ info104 rfl rfl (by decide) (fun _=>rfl)
theorem info105:(Try.prog.info? 105).map (fun i=>(i.zero,i.size,i.bytes))=some (some .nilFunc,1,8):=by kernel_rfl
theorem td105_ok:TD.Ok Try.prog 105 td105:=TD.Ok.of ⟨_,_,_,Try.underlying105⟩ info105 rfl rfl (by decide) (fun _=>rfl)
theorem info107:(Try.prog.info? 107).map (fun i=>(i.zero,i.size,i.bytes))=some (some .nilFunc,1,8):=by kernel_rfl
theorem td107_ok:TD.Ok Try.prog 107 td107:=TD.Ok.of ⟨_,_,_,Try.underlying107⟩ info107 rfl rfl (by decide) (fun _=>rfl)
theorem info108:(Try.prog.info? 108).map (fun i=>(i.zero,i.size,i.bytes))=some (some (.pointer none),1,8):=by kernel_rfl
theorem td108_ok:TD.Ok Try.prog 108 td108:=TD.Ok.of Try.underlying108 info108 rfl rfl (by decide) (fun _=>rfl)
theorem info109:(Try.prog.info? 109).map (fun i=>(i.zero,i.size,i.bytes))=some (some (.agg #[(.slice none 0 0),(.slice none 0 0),(.slice none 0 0),(.slice none 0 0),(.slice none 0 0),(.int .i64 0)]),6,128):=by kernel_rfl
theorem td109_ok:TD.Ok Try.prog 109 td109:=TD.Ok.of ⟨_,Try.underlying109,rfl,Try.stoodInHeld109,Try.eqGuardType109,by decide⟩ info109 rfl rfl (by decide) (fun h=>by cases h)
theorem info110:(Try.prog.info? 110).map (fun i=>(i.zero,i.size,i.bytes))=some (some (.agg #[(.slice none 0 0),(.slice none 0 0),(.slice none 0 0),(.slice none 0 0),(.slice none 0 0),(.int .i64 0)]),6,128):=by kernel_rfl
theorem td110_ok:TD.Ok Try.prog 110 td110:=TD.Ok.of ⟨_,Try.underlying110,rfl,Try.stoodInHeld110,Try.eqGuardType110,by decide⟩ info110 rfl rfl (by decide) (fun h=>by cases h)
theorem info111:(Try.prog.info? 111).map (fun i=>(i.zero,i.size,i.bytes))=some (some .nilFunc,1,8):=by kernel_rfl
theorem td111_ok:TD.Ok Try.prog 111 td111:=TD.Ok.of ⟨_,_,_,Try.underlying111⟩ info111 rfl rfl (by decide) (fun _=>rfl)
theorem info112:(Try.prog.info? 112).map (fun i=>(i.zero,i.size,i.bytes))=some (some (.int .i64 0),1,8):=by kernel_rfl
theorem td112_ok:TD.Ok Try.prog 112 td112:=TD.Ok.of Try.underlying112 info112 rfl rfl (by decide) (fun _=>rfl)
theorem info114:(Try.prog.info? 114).map (fun i=>(i.zero,i.size,i.bytes))=some (some .nilFunc,1,8):=by kernel_rfl
theorem td114_ok:TD.Ok Try.prog 114 td114:=TD.Ok.of ⟨_,_,_,Try.underlying114⟩ info114 rfl rfl (by decide) (fun _=>rfl)
theorem info115:(Try.prog.info? 115).map (fun i=>(i.zero,i.size,i.bytes))=some (some .nilFunc,1,8):=by kernel_rfl
theorem td115_ok:TD.Ok Try.prog 115 td115:=TD.Ok.of ⟨_,_,_,Try.underlying115⟩ info115 rfl rfl (by decide) (fun _=>rfl)
theorem info116:(Try.prog.info? 116).map (fun i=>(i.zero,i.size,i.bytes))=some (some .nilFunc,1,8):=by kernel_rfl
theorem td116_ok:TD.Ok Try.prog 116 td116:=TD.Ok.of ⟨_,_,_,Try.underlying116⟩ info116 rfl rfl (by decide) (fun _=>rfl)
theorem info118:(Try.prog.info? 118).map (fun i=>(i.zero,i.size,i.bytes))=some (some .nilFunc,1,8):=by kernel_rfl
theorem td118_ok:TD.Ok Try.prog 118 td118:=TD.Ok.of ⟨_,_,_,Try.underlying118⟩ info118 rfl rfl (by decide) (fun _=>rfl)
theorem info119:(Try.prog.info? 119).map (fun i=>(i.zero,i.size,i.bytes))=some (some .nilFunc,1,8):=by kernel_rfl
theorem td119_ok:TD.Ok Try.prog 119 td119:=TD.Ok.of ⟨_,_,_,Try.underlying119⟩ info119 rfl rfl (by decide) (fun _=>rfl)
theorem info120:(Try.prog.info? 120).map (fun i=>(i.zero,i.size,i.bytes))=some (some (.int .u32 0),1,4):=by kernel_rfl
theorem td120_ok:TD.Ok Try.prog 120 td120:=TD.Ok.of Try.underlying120 info120 rfl rfl (by decide) (fun _=>rfl)
theorem info121:(Try.prog.info? 121).map (fun i=>(i.zero,i.size,i.bytes))=some (some .nilFunc,1,8):=by kernel_rfl
theorem td121_ok:TD.Ok Try.prog 121 td121:=TD.Ok.of ⟨_,_,_,Try.underlying121⟩ info121 rfl rfl (by decide) (fun _=>rfl)
theorem info123:(Try.prog.info? 123).map (fun i=>(i.zero,i.size,i.bytes))=some (some .nilFunc,1,8):=by kernel_rfl
theorem td123_ok:TD.Ok Try.prog 123 td123:=TD.Ok.of ⟨_,_,_,Try.underlying123⟩ info123 rfl rfl (by decide) (fun _=>rfl)
theorem info125:(Try.prog.info? 125).map (fun i=>(i.zero,i.size,i.bytes))=some (some .nilFunc,1,8):=by kernel_rfl
theorem td125_ok:TD.Ok Try.prog 125 td125:=TD.Ok.of ⟨_,_,_,Try.underlying125⟩ info125 rfl rfl (by decide) (fun _=>rfl)
theorem info126:(Try.prog.info? 126).map (fun i=>(i.zero,i.size,i.bytes))=some (some .nilFunc,1,8):=by kernel_rfl
theorem td126_ok:TD.Ok Try.prog 126 td126:=TD.Ok.of ⟨_,_,_,Try.underlying126⟩ info126 rfl rfl (by decide) (fun _=>rfl)
theorem info127:(Try.prog.info? 127).map (fun i=>(i.zero,i.size,i.bytes))=some (some (.int .u64 0),1,8):=by kernel_rfl
theorem td127_ok:TD.Ok Try.prog 127 td127:=TD.Ok.of Try.underlying127 info127 rfl rfl (by decide) (fun _=>rfl)
theorem info128:(Try.prog.info? 128).map (fun i=>(i.zero,i.size,i.bytes))=some (some .nilFunc,1,8):=by kernel_rfl
theorem td128_ok:TD.Ok Try.prog 128 td128:=TD.Ok.of ⟨_,_,_,Try.underlying128⟩ info128 rfl rfl (by decide) (fun _=>rfl)
theorem info129:(Try.prog.info? 129).map (fun i=>(i.zero,i.size,i.bytes))=some (some .nilFunc,1,8):=by kernel_rfl
theorem td129_ok:TD.Ok Try.prog 129 td129:=TD.Ok.of ⟨_,_,_,Try.underlying129⟩ info129 rfl rfl (by decide) (fun _=>rfl)
theorem info130:(Try.prog.info? 130).map (fun i=>(i.zero,i.size,i.bytes))=some (some .nilFunc,1,8):=by kernel_rfl
theorem td130_ok:TD.Ok Try.prog 130 td130:=TD.Ok.of ⟨_,_,_,Try.underlying130⟩ info130 rfl rfl (by decide) (fun _=>rfl)
theorem info131:(Try.prog.info? 131).map (fun i=>(i.zero,i.size,i.bytes))=some (some (.pointer none),1,8):=by kernel_rfl
theorem td131_ok:TD.Ok Try.prog 131 td131:=TD.Ok.of Try.underlying131 info131 rfl rfl (by decide) (fun _=>rfl)
theorem info132:(Try.prog.info? 132).map (fun i=>(i.zero,i.size,i.bytes))=some (some .nilFunc,1,8):=by kernel_rfl
theorem td132_ok:TD.Ok Try.prog 132 td132:=TD.Ok.of ⟨_,_,_,Try.underlying132⟩ info132 rfl rfl (by decide) (fun _=>rfl)
theorem info133:(Try.prog.info? 133).map (fun i=>(i.zero,i.size,i.bytes))=some (some (.pointer none),1,8):=by kernel_rfl
theorem td133_ok:TD.Ok Try.prog 133 td133:=TD.Ok.of Try.underlying133 info133 rfl rfl (by decide) (fun _=>rfl)
theorem info135:(Try.prog.info? 135).map (fun i=>(i.zero,i.size,i.bytes))=some (some .nilFunc,1,8):=by kernel_rfl
theorem td135_ok:TD.Ok Try.prog 135 td135:=TD.Ok.of ⟨_,_,_,Try.underlying135⟩ info135 rfl rfl (by decide) (fun _=>rfl)
theorem info136:(Try.prog.info? 136).map (fun i=>(i.zero,i.size,i.bytes))=some (some .nilFunc,1,8):=by kernel_rfl
theorem td136_ok:TD.Ok Try.prog 136 td136:=TD.Ok.of ⟨_,_,_,Try.underlying136⟩ info136 rfl rfl (by decide) (fun _=>rfl)
theorem info142:(Try.prog.info? 142).map (fun i=>(i.zero,i.size,i.bytes))=some (some (.int .u8 0),1,1):=by kernel_rfl
theorem td142_ok:TD.Ok Try.prog 142 td142:=TD.Ok.of Try.underlying142 info142 rfl rfl (by decide) (fun _=>rfl)
theorem info143:(Try.prog.info? 143).map (fun i=>(i.zero,i.size,i.bytes))=some (some (.int .u8 0),1,1):=by kernel_rfl
theorem td143_ok:TD.Ok Try.prog 143 td143:=TD.Ok.of Try.underlying143 info143 rfl rfl (by decide) (fun _=>rfl)
theorem info144:(Try.prog.info? 144).map (fun i=>(i.zero,i.size,i.bytes))=some (some .nilFunc,1,8):=by kernel_rfl
theorem td144_ok:TD.Ok Try.prog 144 td144:=TD.Ok.of ⟨_,_,_,Try.underlying144⟩ info144 rfl rfl (by decide) (fun _=>rfl)
theorem info145:(Try.prog.info? 145).map (fun i=>(i.zero,i.size,i.bytes))=some (some (.pointer none),1,8):=by kernel_rfl
theorem td145_ok:TD.Ok Try.prog 145 td145:=TD.Ok.of Try.underlying145 info145 rfl rfl (by decide) (fun _=>rfl)
theorem info146:(Try.prog.info? 146).map (fun i=>(i.zero,i.size,i.bytes))=some (some (.int .i32 0),1,4):=by kernel_rfl
theorem td146_ok:TD.Ok Try.prog 146 td146:=TD.Ok.of Try.underlying146 info146 rfl rfl (by decide) (fun _=>rfl)
theorem info147:(Try.prog.info? 147).map (fun i=>(i.zero,i.size,i.bytes))=some (some (.int .i32 0),1,4):=by kernel_rfl
theorem td147_ok:TD.Ok Try.prog 147 td147:=TD.Ok.of Try.underlying147 info147 rfl rfl (by decide) (fun _=>rfl)
set_option maxRecDepth 100000 in
theorem tabL_ok:∀p∈tabL,TD.Ok Try.prog p.1 p.2:=
  (ν7.2 ⟨td1_ok,(ν7.2 ⟨td2_ok,(ν7.2 ⟨td3_ok,(ν7.2 ⟨td4_ok,(ν7.2 ⟨td5_ok,(ν7.2 ⟨td6_ok,(ν7.2 ⟨td9_ok,(ν7.2 ⟨td10_ok,(ν7.2 ⟨td11_ok,(ν7.2 ⟨td12_ok,(ν7.2 ⟨td15_ok,(ν7.2 ⟨td16_ok,(ν7.2 ⟨td17_ok,(ν7.2 ⟨td21_ok,(ν7.2 ⟨td22_ok,(ν7.2 ⟨td23_ok,(ν7.2 ⟨td24_ok,(ν7.2 ⟨td25_ok,(ν7.2 ⟨td26_ok,(ν7.2 ⟨td27_ok,(ν7.2 ⟨td28_ok,(ν7.2 ⟨td30_ok,(ν7.2 ⟨td32_ok,(ν7.2 ⟨td33_ok,(ν7.2 ⟨td34_ok,(ν7.2 ⟨td35_ok,(ν7.2 ⟨td37_ok,(ν7.2 ⟨td38_ok,(ν7.2 ⟨td40_ok,(ν7.2 ⟨td41_ok,(ν7.2 ⟨td42_ok,(ν7.2 ⟨td43_ok,(ν7.2 ⟨td44_ok,(ν7.2 ⟨td45_ok,(ν7.2 ⟨td46_ok,(ν7.2 ⟨td47_ok,(ν7.2 ⟨td48_ok,(ν7.2 ⟨td49_ok,(ν7.2 ⟨td50_ok,(ν7.2 ⟨td51_ok,(ν7.2 ⟨td52_ok,(ν7.2 ⟨td53_ok,(ν7.2 ⟨td54_ok,(ν7.2 ⟨td55_ok,(ν7.2 ⟨td56_ok,(ν7.2 ⟨td57_ok,(ν7.2 ⟨td58_ok,(ν7.2 ⟨td60_ok,(ν7.2 ⟨td61_ok,(ν7.2 ⟨td62_ok,(ν7.2 ⟨td63_ok,(ν7.2 ⟨td64_ok,(ν7.2 ⟨td65_ok,(ν7.2 ⟨td66_ok,(ν7.2 ⟨td67_ok,(ν7.2 ⟨td68_ok,(ν7.2 ⟨td69_ok,(ν7.2 ⟨td70_ok,(ν7.2 ⟨td71_ok,(ν7.2 ⟨td72_ok,(ν7.2 ⟨td73_ok,(ν7.2 ⟨td75_ok,(ν7.2 ⟨td76_ok,(ν7.2 ⟨td77_ok,(ν7.2 ⟨td78_ok,(ν7.2 ⟨td79_ok,(ν7.2 ⟨td80_ok,(ν7.2 ⟨td81_ok,(ν7.2 ⟨td82_ok,(ν7.2 ⟨td83_ok,(ν7.2 ⟨td84_ok,(ν7.2 ⟨td85_ok,(ν7.2 ⟨td86_ok,(ν7.2 ⟨td87_ok,(ν7.2 ⟨td88_ok,(ν7.2 ⟨td89_ok,(ν7.2 ⟨td90_ok,(ν7.2 ⟨td92_ok,(ν7.2 ⟨td93_ok,(ν7.2 ⟨td94_ok,(ν7.2 ⟨td95_ok,(ν7.2 ⟨td96_ok,(ν7.2 ⟨td97_ok,(ν7.2 ⟨td98_ok,(ν7.2 ⟨td99_ok,(ν7.2 ⟨td100_ok,(ν7.2 ⟨td101_ok,(ν7.2 ⟨td102_ok,(ν7.2 ⟨td103_ok,(ν7.2 ⟨td104_ok,(ν7.2 ⟨td105_ok,(ν7.2 ⟨td107_ok,(ν7.2 ⟨td108_ok,(ν7.2 ⟨td109_ok,(ν7.2 ⟨td110_ok,(ν7.2 ⟨td111_ok,(ν7.2 ⟨td112_ok,(ν7.2 ⟨td114_ok,(ν7.2 ⟨td115_ok,(ν7.2 ⟨td116_ok,(ν7.2 ⟨td118_ok,(ν7.2 ⟨td119_ok,(ν7.2 ⟨td120_ok,(ν7.2 ⟨td121_ok,(ν7.2 ⟨td123_ok,(ν7.2 ⟨td125_ok,(ν7.2 ⟨td126_ok,(ν7.2 ⟨td127_ok,(ν7.2 ⟨td128_ok,(ν7.2 ⟨td129_ok,(ν7.2 ⟨td130_ok,(ν7.2 ⟨td131_ok,(ν7.2 ⟨td132_ok,(ν7.2 ⟨td133_ok,(ν7.2 ⟨td135_ok,(ν7.2 ⟨td136_ok,(ν7.2 ⟨td142_ok,(ν7.2 ⟨td143_ok,(ν7.2 ⟨td144_ok,(ν7.2 ⟨td145_ok,(ν7.2 ⟨td146_ok,(ν7.2 ⟨td147_ok,(fun _ h=>by cases h)⟩)⟩)⟩)⟩)⟩)⟩)⟩)⟩)⟩)⟩)⟩)⟩)⟩)⟩)⟩)⟩)⟩)⟩)⟩)⟩)⟩)⟩)⟩)⟩)⟩)⟩)⟩)⟩)⟩)⟩)⟩)⟩)⟩)⟩)⟩)⟩)⟩)⟩)⟩)⟩)⟩)⟩)⟩)⟩)⟩)⟩)⟩)⟩)⟩)⟩)⟩)⟩)⟩)⟩)⟩)⟩)⟩)⟩)⟩)⟩)⟩)⟩)⟩)⟩)⟩)⟩)⟩)⟩)⟩)⟩)⟩)⟩)⟩)⟩)⟩)⟩)⟩)⟩)⟩)⟩)⟩)⟩)⟩)⟩)⟩)⟩)⟩)⟩)⟩)⟩)⟩)⟩)⟩)⟩)⟩)⟩)⟩)⟩)⟩)⟩)⟩)⟩)⟩)⟩)⟩)⟩)⟩)⟩)⟩)⟩)⟩)⟩)⟩)⟩)⟩)⟩)⟩)⟩)⟩)⟩)⟩)⟩)
theorem mixed:Try.prog.follows .mixedOrders=true:=by kernel_rfl
theorem tab_ok:tab.Ok Try.prog:=Tab.Ok.of_list tabL_ok
end Go.Proofs.Ytohkciilfkhomaa
namespace Go.Proofs.Ytohkciilfkhomaa
open Go Go.Sep
attribute [local irreducible] wpC headF
def D3:Info:=⟨91,fun i=>([],[]),fun i=>([],[])⟩
def W3 (v0:AV) (v1:AV) (H:Heap) (K:AV→Heap→Prop):Prop:=
 CallT Try.prog 5 [v0,v1] H fun v21 H1=>
 condV v21 (K (AV.p (.bool true)) H1)
 (CallT Try.prog 6 [v0] H1 fun v24 H2=>
 extractV v24 0 fun v25=>
 extractV v24 1 fun v26=>
 allocV tab 28 H2 fun v5 H3=>
 allocV tab 28 H3 fun v6 H4=>
 storeV tab 28 v5 v25 H4 fun H5=>
 storeV tab 28 v6 v26 H5 fun H6=>
 loadV tab 28 v5 H6 fun v28=>
 loadV tab 28 v6 H6 fun v29=>
 CallT Try.prog 7 [v28,v29] H6 fun v30 H7=>
 extractV v30 0 fun v31=>
 extractV v30 1 fun v32=>
 allocV tab 28 H7 fun v7 H8=>
 storeV tab 28 v7 v31 H8 fun H9=>
 loadV tab 28 v5 H9 fun v34=>
 loadV tab 28 v6 H9 fun v35=>
 CallT Try.prog 8 [v34,v35] H9 fun v36 H10=>
 extractV v36 0 fun v37=>
 extractV v36 1 fun v38=>
 allocV tab 28 H10 fun v9 H11=>
 storeV tab 28 v9 v37 H11 fun H12=>
 binV tab .neq 4 v32 v38 fun v41=>
 grdV v41 false (loadV tab 28 v7 H12 fun v43=>
 loadV tab 28 v9 H12 fun v44=>
 CallT Try.prog 9 [v43,v44] H12 fun v45 H13=>
 unV .not v45 fun v46=>
 condV v46 (K (AV.p (.bool false)) H13)
 (CallT Try.prog 10 [v1] H13 fun v50 H14=>
 extractV v50 0 fun v51=>
 extractV v50 1 fun v52=>
 allocV tab 28 H14 fun v11 H15=>
 allocV tab 35 H15 fun v12 H16=>
 storeV tab 28 v11 v51 H16 fun H17=>
 storeV tab 35 v12 v52 H17 fun H18=>
 grdV v32 true (loadV tab 35 v12 H18 fun v55=>
 CallT Try.prog 11 [v55] H18 fun v56 H19=>
 condV v56 (loadV tab 28 v5 H19 fun v59=>
 loadV tab 35 v12 H19 fun v60=>
 CallT Try.prog 12 [v59,v60] H19 fun v61 H20=>
 extractV v61 0 fun v62=>
 extractV v61 1 fun v63=>
 loadV tab 28 v6 H20 fun v65=>
 loadV tab 35 v12 H20 fun v66=>
 CallT Try.prog 12 [v65,v66] H20 fun v67 H21=>
 extractV v67 0 fun v68=>
 extractV v67 1 fun v69=>
 loadV tab 28 v7 H21 fun v71=>
 loadV tab 35 v12 H21 fun v72=>
 CallT Try.prog 12 [v71,v72] H21 fun v73 H22=>
 extractV v73 0 fun v74=>
 extractV v73 1 fun v75=>
 grdV v63 true (grdV v69 true (grdV v75 true (grdV v62 false (binV tab .eql 4 v74 v68 fun v89=>
 K v89 H22)
 (binV tab .eql 4 v74 (AV.p (.bool true)) fun v89=>
 K v89 H22))
 (K (AV.p (.bool false)) H22))
 (K (AV.p (.bool false)) H22))
 (K (AV.p (.bool false)) H22))
 (K (AV.p (.bool true)) H19))
 (K (AV.p (.bool true)) H18)))
 (K (AV.p (.bool false)) H12))
theorem W3_wp (v0:AV) (v1:AV) (H:Heap) (K:AV→Heap→Prop):wpC Try.prog tab D3 (bodyOf Try.f3) (retF tab [.tmp 4] K) (nthA [v0,v1]) H=W3 v0 v1 H K:=by kernel_rfl
theorem W3_ok {v0 v1:AV} {H:Heap} {K:AV→Heap→Prop} (h:W3 v0 v1 H K):CallT Try.prog 3 [v0,v1] H K:=
  CallT.of_wp (D:=D3) tab_ok mixed Try.func3 (c:=bodyOf Try.f3) (by kernel_rfl) rfl (by kernel_rfl) (rs:=#[.tmp 4]) rfl (by decide +kernel) (by kernel_rfl) (W3_wp v0 v1 H K) h
def D5:Info:=⟨16,fun i=>([],[]),fun i=>([],[])⟩
def W5 (v0:AV) (v1:AV) (H:Heap) (K:AV→Heap→Prop):Prop:=
 lenV tab 22 v0 fun v6=>
 binV tab .gtr 3 v6 (AV.p (.int .i64 1048576)) fun v7=>
 grdV v7 false (lenV tab 22 v1 fun v10=>
 lenV tab 22 v0 fun v12=>
 binV tab .sub 3 (AV.p (.int .i64 1048576)) v12 fun v13=>
 binV tab .gtr 3 v10 v13 fun v14=>
 K v14 H)
 (K (AV.p (.bool true)) H)
theorem W5_wp (v0:AV) (v1:AV) (H:Heap) (K:AV→Heap→Prop):wpC Try.prog tab D5 (bodyOf Try.f5) (retF tab [.tmp 4] K) (nthA [v0,v1]) H=W5 v0 v1 H K:=by kernel_rfl
theorem W5_ok {v0 v1:AV} {H:Heap} {K:AV→Heap→Prop} (h:W5 v0 v1 H K):CallT Try.prog 5 [v0,v1] H K:=
  CallT.of_wp (D:=D5) tab_ok mixed Try.func5 (c:=bodyOf Try.f5) (by kernel_rfl) rfl (by kernel_rfl) (rs:=#[.tmp 4]) rfl (by decide +kernel) (by kernel_rfl) (W5_wp v0 v1 H K) h
def D6:Info:=⟨8,fun i=>([],[]),fun i=>([],[])⟩
def W6 (v0:AV) (H:Heap) (K:AV→Heap→Prop):Prop:=
 allocV tab 28 H fun v2 H1=>
 allocV tab 28 H1 fun v3 H2=>
 CallT Try.prog 13 [v0] H2 fun v5 H3=>
 extractV v5 0 fun v6=>
 extractV v5 1 fun v7=>
 storeV tab 28 v2 v6 H3 fun H4=>
 storeV tab 28 v3 v7 H4 fun H5=>
 loadV tab 28 v2 H5 fun r0=>
 loadV tab 28 v3 H5 fun r1=>
 K (.tup [r0,r1]) H5
theorem W6_wp (v0:AV) (H:Heap) (K:AV→Heap→Prop):wpC Try.prog tab D6 (bodyOf Try.f6) (retF tab [.cell 2 28,.cell 3 28] K) (nthA [v0]) H=W6 v0 H K:=by kernel_rfl
theorem W6_ok {v0:AV} {H:Heap} {K:AV→Heap→Prop} (h:W6 v0 H K):CallT Try.prog 6 [v0] H K:=
  CallT.of_wp (D:=D6) tab_ok mixed Try.func6 (c:=bodyOf Try.f6) (by kernel_rfl) rfl (by kernel_rfl) (rs:=#[.cell 2 28,.cell 3 28]) rfl (by decide +kernel) (by kernel_rfl) (W6_wp v0 H K) h
def D7:Info:=⟨94,fun i=>if i=3 then ([[],[0],[],[2],[0,1,2,3],[],[5],[],[7],[],[9],[7,8,9,10],[5,6,7,8,9,10,11],[5,6,7,8,9,10,11,12],[],[14],[5,6,7,8,9,10,11,12,13,14,15],[0,1,2,3,4,5,6,7,8,9,10,11,12,13,14,15,16],[],[0,1,2,3,4,5,6,7,8,9,10,11,12,13,14,15,16,17,18]],[(0,[]),(1,[]),(2,[]),(3,[]),(4,[]),(5,[]),(6,[]),(7,[]),(8,[]),(9,[]),(10,[]),(14,[]),(15,[]),(11,[1,3,6,15]),(12,[1,3,15]),(13,[1,3,15]),(16,[1,3]),(17,[]),(18,[]),(19,[])]) else if i=12 then ([[],[0],[],[],[2,3],[],[],[2,3,4,5,6],[],[8],[2,3,4,5,6,7,8,9],[2,3,4,5,6,7,8,9,10],[2,3,4,5,6,7,8,9,10,11],[2,3,4,5,6,7,8,9,10,11,12],[0,1,2,3,4,5,6,7,8,9,10,11,12,13],[0,1,2,3,4,5,6,7,8,9,10,11,12,13,14],[0,1,2,3,4,5,6,7,8,9,10,11,12,13,14,15]],[(0,[]),(1,[]),(2,[]),(3,[]),(5,[]),(6,[]),(8,[]),(9,[]),(4,[1,5,9]),(7,[1,9]),(10,[1]),(11,[1]),(12,[1]),(13,[1]),(14,[]),(15,[]),(16,[])]) else ([],[]),fun i=>if i=5 then ([2,3,4,6,38,39],[40]) else if i=10 then ([2,3,4,6,69],[70]) else ([],[])⟩
def L7_0 (K:AV→Heap→Prop) (v2:AV) (v3:AV) (v4:AV) (v6:AV) (v38:AV) (v39:AV) (v40:AV) (H:Heap):Prop:=LoopV (wpC Try.prog tab D7 (cAt [1,1,1,0,1,0,0] (bodyOf Try.f7))) [2,3,4,6,38,39] (PostF.block 0 (PostF.thenA (wpC Try.prog tab D7 (cAt [1,1,1,1] (bodyOf Try.f7))) (retF tab [.cell 4 28,.tmp 5] K))) [40] [AV.any,AV.any,v2,v3,v4,AV.any,v6,AV.any,AV.any,AV.any,AV.any,AV.any,AV.any,AV.any,AV.any,AV.any,AV.any,AV.any,AV.any,AV.any,AV.any,AV.any,AV.any,AV.any,AV.any,AV.any,AV.any,AV.any,AV.any,AV.any,AV.any,AV.any,AV.any,AV.any,AV.any,AV.any,AV.any,AV.any,v38,v39,v40,AV.any,AV.any,AV.any,AV.any,AV.any,AV.any,AV.any,AV.any,AV.any,AV.any,AV.any,AV.any,AV.any,AV.any,AV.any,AV.any,AV.any,AV.any,AV.any,AV.any,AV.any,AV.any,AV.any,AV.any,AV.any,AV.any,AV.any,AV.any,AV.any,AV.any,AV.any,AV.any,AV.any,AV.any,AV.any,AV.any,AV.any,AV.any,AV.any,AV.any,AV.any,AV.any,AV.any,AV.any,AV.any,AV.any,AV.any,AV.any,AV.any,AV.any,AV.any,AV.any,AV.any] H
def L7_1 (K:AV→Heap→Prop) (v2:AV) (v3:AV) (v4:AV) (v6:AV) (v69:AV) (v70:AV) (H:Heap):Prop:=LoopV (wpC Try.prog tab D7 (cAt [1,1,1,1,0,1,0,0] (bodyOf Try.f7))) [2,3,4,6,69] (PostF.block 2 (PostF.thenA (wpC Try.prog tab D7 (cAt [1,1,1,1,1] (bodyOf Try.f7))) (retF tab [.cell 4 28,.tmp 5] K))) [70] [AV.any,AV.any,v2,v3,v4,AV.any,v6,AV.any,AV.any,AV.any,AV.any,AV.any,AV.any,AV.any,AV.any,AV.any,AV.any,AV.any,AV.any,AV.any,AV.any,AV.any,AV.any,AV.any,AV.any,AV.any,AV.any,AV.any,AV.any,AV.any,AV.any,AV.any,AV.any,AV.any,AV.any,AV.any,AV.any,AV.any,AV.any,AV.any,AV.any,AV.any,AV.any,AV.any,AV.any,AV.any,AV.any,AV.any,AV.any,AV.any,AV.any,AV.any,AV.any,AV.any,AV.any,AV.any,AV.any,AV.any,AV.any,AV.any,AV.any,AV.any,AV.any,AV.any,AV.any,AV.any,AV.any,AV.any,AV.any,v69,v70,AV.any,AV.any,AV.any,AV.any,AV.any,AV.any,AV.any,AV.any,AV.any,AV.any,AV.any,AV.any,AV.any,AV.any,AV.any,AV.any,AV.any,AV.any,AV.any,AV.any,AV.any,AV.any,AV.any] H
def B7_1 (K:AV→Heap→Prop) (N1:AV→Heap→Prop) (v2:AV) (v3:AV) (v4:AV) (v6:AV) (v69:AV) (v70:AV) (H:Heap):Prop:=
 binV tab .lss 3 v70 v69 fun v71=>
 condV v71 (fieldAddrV tab 28 v6 3 fun v73=>
 loadV tab 26 v73 H fun v74=>
 loadV tab 28 v2 H fun v75=>
 loadV tab 28 v3 H fun v78=>
 fieldAddrV tab 28 v2 0 fun v81=>
 loadV tab 3 v81 H fun v82=>
 CallT Try.prog 21 [v75,v70] H fun v77 H18=>
 (loadV tab 26 v73 H18 fun v9074=>
 v74=v9074)∧
 (loadV tab 28 v3 H18 fun v9078=>
 v78=v9078)∧
 (loadV tab 3 v81 H18 fun v9082=>
 v82=v9082)∧
 CallT Try.prog 21 [v78,v70] H18 fun v80 H19=>
 (loadV tab 26 v73 H19 fun v9074=>
 v74=v9074)∧
 (loadV tab 3 v81 H19 fun v9082=>
 v82=v9082)∧
 CallT Try.prog 19 [v80,v82] H19 fun v83 H20=>
 (loadV tab 26 v73 H20 fun v9074=>
 v74=v9074)∧
 buildSliceV tab 26 2 [(0,v77),(1,v83)] H20 (wkK fun v84 H21=>
 (loadV tab 26 v73 H21 fun v9074=>
 v74=v9074)∧
 CallT Try.prog 18 [v84] H21 fun v85 H22=>
 (loadV tab 26 v73 H22 fun v9074=>
 v74=v9074)∧
 buildSliceV tab 26 1 [(0,v85)] H22 (wkK fun v86 H23=>
 (loadV tab 26 v73 H23 fun v9074=>
 v74=v9074)∧
 appendV tab 26 26 v74 v86 H23 (wkK fun v87 H24=>
 fieldAddrV tab 28 v6 3 fun v88=>
 storeV tab 26 v88 v87 H24 fun H25=>
 binV tab .add 3 v70 (AV.p (.int .i64 1)) fun v89=>
 N1 v89 H25))))
 (loadV tab 28 v6 H fun v90=>
 CallT Try.prog 22 [v90] H fun v91 H26=>
 extractV v91 0 fun v92=>
 extractV v91 1 fun v93=>
 storeV tab 28 v4 v92 H26 fun H27=>
 loadV tab 28 v4 H27 fun r0=>
 K (.tup [r0,v93]) H27)
def B7_0 (K:AV→Heap→Prop) (N1:AV→Heap→Prop) (v2:AV) (v3:AV) (v4:AV) (v6:AV) (v38:AV) (v39:AV) (v40:AV) (H:Heap):Prop:=
 binV tab .lss 3 v40 v39 fun v41=>
 condV v41 (indexAddrV tab 25 v38 v40 fun v42=>
 loadV tab 46 v42 H fun v43=>
 allocV tab 46 H fun v8 H13=>
 storeV tab 46 v8 v43 H13 fun H14=>
 fieldAddrV tab 28 v6 2 fun v44=>
 loadV tab 25 v44 H14 fun v45=>
 fieldAddrV tab 46 v8 0 fun v46=>
 loadV tab 3 v46 H14 fun v47=>
 fieldAddrV tab 28 v2 0 fun v48=>
 loadV tab 3 v48 H14 fun v49=>
 binV tab .add 3 v47 v49 fun v50=>
 fieldAddrV tab 46 v8 1 fun v51=>
 loadV tab 3 v51 H14 fun v52=>
 fieldAddrV tab 46 v8 2 fun v53=>
 loadV tab 3 v53 H14 fun v54=>
 fieldAddrV tab 28 v2 0 fun v55=>
 loadV tab 3 v55 H14 fun v56=>
 binV tab .add 3 v54 v56 fun v57=>
 buildV tab 46 [(0,v50),(1,v52),(2,v57)] fun v58=>
 buildSliceV tab 25 1 [(0,v58)] H14 (wkK fun v59 H15=>
 appendV tab 25 25 v45 v59 H15 (wkK fun v60 H16=>
 fieldAddrV tab 28 v6 2 fun v61=>
 storeV tab 25 v61 v60 H16 fun H17=>
 binV tab .add 3 v40 (AV.p (.int .i64 1)) fun v62=>
 N1 v62 H17)))
 (fieldAddrV tab 28 v2 3 fun v63=>
 loadV tab 26 v63 H fun v64=>
 lenV tab 26 v64 fun v65=>
 fieldAddrV tab 28 v3 3 fun v66=>
 loadV tab 26 v66 H fun v67=>
 lenV tab 26 v67 fun v68=>
 mmV .max v65 v68 fun v69=>
 L7_1 K v2 v3 v4 v6 v69 (AV.p (.int .i64 0)) H)
def W7 (v0:AV) (v1:AV) (H:Heap) (K:AV→Heap→Prop):Prop:=
 boxV v0 H fun v2 H1=>
 boxV v1 H1 fun v3 H2=>
 allocV tab 28 H2 fun v4 H3=>
 loadV tab 28 v2 H3 fun v10=>
 CallT Try.prog 16 [v10] H3 fun v11 H4=>
 unV .not v11 fun v12=>
 grdV v12 false (loadV tab 28 v3 H4 fun v14=>
 CallT Try.prog 16 [v14] H4 fun v15 H5=>
 unV .not v15 fun v16=>
 condV v16 (buildV tab 28 [] fun v18=>
 storeV tab 28 v4 v18 H5 fun H6=>
 loadV tab 28 v4 H6 fun r0=>
 K (.tup [r0,(AV.p (.bool false))]) H6)
 (fieldAddrV tab 28 v2 0 fun v19=>
 loadV tab 3 v19 H5 fun v20=>
 fieldAddrV tab 28 v3 0 fun v21=>
 loadV tab 3 v21 H5 fun v22=>
 binV tab .add 3 v20 v22 fun v23=>
 fieldAddrV tab 28 v2 1 fun v24=>
 loadV tab 24 v24 H5 fun v25=>
 fieldAddrV tab 28 v3 1 fun v26=>
 loadV tab 24 v26 H5 fun v27=>
 fieldAddrV tab 28 v2 0 fun v28=>
 loadV tab 3 v28 H5 fun v29=>
 fieldAddrV tab 28 v2 2 fun v33=>
 loadV tab 25 v33 H5 fun v34=>
 CallT Try.prog 19 [v27,v29] H5 fun v30 H7=>
 (loadV tab 3 v19 H7 fun v9020=>
 v20=v9020)∧
 (loadV tab 3 v21 H7 fun v9022=>
 v22=v9022)∧
 (loadV tab 24 v24 H7 fun v9025=>
 v25=v9025)∧
 (loadV tab 25 v33 H7 fun v9034=>
 v34=v9034)∧
 buildSliceV tab 26 2 [(0,v25),(1,v30)] H7 (wkK fun v31 H8=>
 (loadV tab 3 v19 H8 fun v9020=>
 v20=v9020)∧
 (loadV tab 3 v21 H8 fun v9022=>
 v22=v9022)∧
 (loadV tab 25 v33 H8 fun v9034=>
 v34=v9034)∧
 CallT Try.prog 18 [v31] H8 fun v32 H9=>
 (loadV tab 3 v19 H9 fun v9020=>
 v20=v9020)∧
 (loadV tab 3 v21 H9 fun v9022=>
 v22=v9022)∧
 (loadV tab 25 v33 H9 fun v9034=>
 v34=v9034)∧
 CallT Try.prog 20 [v34] H9 fun v35 H10=>
 (loadV tab 3 v19 H10 fun v9020=>
 v20=v9020)∧
 (loadV tab 3 v21 H10 fun v9022=>
 v22=v9022)∧
 buildV tab 28 [(0,v23),(1,v32),(2,v35)] fun v36=>
 allocV tab 28 H10 fun v6 H11=>
 storeV tab 28 v6 v36 H11 fun H12=>
 fieldAddrV tab 28 v3 2 fun v37=>
 loadV tab 25 v37 H12 fun v38=>
 lenV tab 25 v38 fun v39=>
 L7_0 K v2 v3 v4 v6 v38 v39 (AV.p (.int .i64 0)) H12)))
 (buildV tab 28 [] fun v18=>
 storeV tab 28 v4 v18 H4 fun H28=>
 loadV tab 28 v4 H28 fun r0=>
 K (.tup [r0,(AV.p (.bool false))]) H28)
theorem W7_wp (v0:AV) (v1:AV) (H:Heap) (K:AV→Heap→Prop):wpC Try.prog tab D7 (bodyOf Try.f7) (retF tab [.cell 4 28,.tmp 5] K) (nthA [v0,v1]) H=W7 v0 v1 H K:=by kernel_rfl
theorem W7_ok {v0 v1:AV} {H:Heap} {K:AV→Heap→Prop} (h:W7 v0 v1 H K):CallT Try.prog 7 [v0,v1] H K:=
  CallT.of_wp (D:=D7) tab_ok mixed Try.func7 (c:=bodyOf Try.f7) (by kernel_rfl) rfl (by kernel_rfl) (rs:=#[.cell 4 28,.tmp 5]) rfl (by decide +kernel) (by kernel_rfl) (W7_wp v0 v1 H K) h
theorem W7_hb:HasBody Try.prog 7:=⟨_,bodyOf Try.f7,Try.func7,by kernel_rfl,rfl⟩
theorem L7_1_rule {K:AV→Heap→Prop} {v2 v3 v4 v6 v69 v70:AV} {H:Heap} {σ:Type} (s0:σ) (f70:σ→AV) (TH:σ→Heap) (pre:σ→Prop) (μ:σ→Nat)
    (h0:pre s0∧AV.wk v70 (f70 s0)∧Heap.le (TH s0) H)
    (round:∀s,pre s→B7_1 K (fun w70 H'=>∃s',pre s'∧μ s' < μ s∧AV.wk w70 (f70 s')∧Heap.le (TH s') H') v2 v3 v4 v6 v69 (f70 s) (TH s)) :
    L7_1 K v2 v3 v4 v6 v69 v70 H:=by
  unfold L7_1
  exact LoopV.mk s0 (fun s=>[f70 s]) TH pre μ (fun _=>rfl) (Eq.mp (by kernel_rfl) h0) (fun s hs=>Eq.mp (by kernel_rfl) (round s hs))
theorem L7_0_rule {K:AV→Heap→Prop} {v2 v3 v4 v6 v38 v39 v40:AV} {H:Heap} {σ:Type} (s0:σ) (f40:σ→AV) (TH:σ→Heap) (pre:σ→Prop) (μ:σ→Nat)
    (h0:pre s0∧AV.wk v40 (f40 s0)∧Heap.le (TH s0) H)
    (round:∀s,pre s→B7_0 K (fun w40 H'=>∃s',pre s'∧μ s' < μ s∧AV.wk w40 (f40 s')∧Heap.le (TH s') H') v2 v3 v4 v6 v38 v39 (f40 s) (TH s)) :
    L7_0 K v2 v3 v4 v6 v38 v39 v40 H:=by
  unfold L7_0
  exact LoopV.mk s0 (fun s=>[f40 s]) TH pre μ (fun _=>rfl) (Eq.mp (by kernel_rfl) h0) (fun s hs=>Eq.mp (by kernel_rfl) (round s hs))
def D8:Info:=⟨94,fun i=>if i=3 then ([[],[0],[],[2],[0,1,2,3],[],[5],[],[7],[],[9],[5,6,7,8,9,10],[],[],[13],[5,6,7,8,9,10,11,12,13,14],[0,1,2,3,4,5,6,7,8,9,10,11,12,13,14,15],[],[0,1,2,3,4,5,6,7,8,9,10,11,12,13,14,15,16,17]],[(0,[]),(1,[]),(2,[]),(3,[]),(4,[]),(5,[]),(6,[]),(7,[]),(8,[]),(9,[]),(10,[]),(13,[]),(14,[]),(11,[12,1,3,14]),(12,[12]),(15,[1,3]),(16,[]),(17,[]),(18,[])]) else if i=12 then ([[],[0],[],[],[2,3],[],[],[2,3,4,5,6],[],[8],[2,3,4,5,6,7,8,9],[2,3,4,5,6,7,8,9,10],[0,1,2,3,4,5,6,7,8,9,10,11],[0,1,2,3,4,5,6,7,8,9,10,11,12],[0,1,2,3,4,5,6,7,8,9,10,11,12,13]],[(0,[]),(1,[]),(2,[]),(3,[]),(5,[]),(6,[]),(8,[]),(9,[]),(4,[1,5,9]),(7,[1,9]),(10,[1]),(11,[1]),(12,[]),(13,[]),(14,[])]) else ([],[]),fun i=>if i=5 then ([2,3,4,6,37,38],[39]) else if i=10 then ([2,3,4,6],[9]) else ([],[])⟩
def L8_0 (K:AV→Heap→Prop) (v2:AV) (v3:AV) (v4:AV) (v6:AV) (v37:AV) (v38:AV) (v39:AV) (H:Heap):Prop:=LoopV (wpC Try.prog tab D8 (cAt [1,1,1,0,1,0,0] (bodyOf Try.f8))) [2,3,4,6,37,38] (PostF.block 0 (PostF.thenA (wpC Try.prog tab D8 (cAt [1,1,1,1] (bodyOf Try.f8))) (retF tab [.cell 4 28,.tmp 5] K))) [39] [AV.any,AV.any,v2,v3,v4,AV.any,v6,AV.any,AV.any,AV.any,AV.any,AV.any,AV.any,AV.any,AV.any,AV.any,AV.any,AV.any,AV.any,AV.any,AV.any,AV.any,AV.any,AV.any,AV.any,AV.any,AV.any,AV.any,AV.any,AV.any,AV.any,AV.any,AV.any,AV.any,AV.any,AV.any,AV.any,v37,v38,v39,AV.any,AV.any,AV.any,AV.any,AV.any,AV.any,AV.any,AV.any,AV.any,AV.any,AV.any,AV.any,AV.any,AV.any,AV.any,AV.any,AV.any,AV.any,AV.any,AV.any,AV.any,AV.any,AV.any,AV.any,AV.any,AV.any,AV.any,AV.any,AV.any,AV.any,AV.any,AV.any,AV.any,AV.any,AV.any,AV.any,AV.any,AV.any,AV.any,AV.any,AV.any,AV.any,AV.any,AV.any,AV.any,AV.any,AV.any,AV.any,AV.any,AV.any,AV.any,AV.any,AV.any,AV.any] H
def L8_1 (K:AV→Heap→Prop) (v2:AV) (v3:AV) (v4:AV) (v6:AV) (v9:AV) (H:Heap):Prop:=LoopV (wpC Try.prog tab D8 (cAt [1,1,1,1,0,1,0,0] (bodyOf Try.f8))) [2,3,4,6] (PostF.block 2 (PostF.thenA (wpC Try.prog tab D8 (cAt [1,1,1,1,1] (bodyOf Try.f8))) (retF tab [.cell 4 28,.tmp 5] K))) [9] [AV.any,AV.any,v2,v3,v4,AV.any,v6,AV.any,AV.any,v9,AV.any,AV.any,AV.any,AV.any,AV.any,AV.any,AV.any,AV.any,AV.any,AV.any,AV.any,AV.any,AV.any,AV.any,AV.any,AV.any,AV.any,AV.any,AV.any,AV.any,AV.any,AV.any,AV.any,AV.any,AV.any,AV.any,AV.any,AV.any,AV.any,AV.any,AV.any,AV.any,AV.any,AV.any,AV.any,AV.any,AV.any,AV.any,AV.any,AV.any,AV.any,AV.any,AV.any,AV.any,AV.any,AV.any,AV.any,AV.any,AV.any,AV.any,AV.any,AV.any,AV.any,AV.any,AV.any,AV.any,AV.any,AV.any,AV.any,AV.any,AV.any,AV.any,AV.any,AV.any,AV.any,AV.any,AV.any,AV.any,AV.any,AV.any,AV.any,AV.any,AV.any,AV.any,AV.any,AV.any,AV.any,AV.any,AV.any,AV.any,AV.any,AV.any,AV.any,AV.any] H
def J8_2 (K:AV→Heap→Prop) (N1:AV→Heap→Prop) (v2:AV) (v3:AV) (v4:AV) (v6:AV) (v9:AV) (H:Heap):Prop:=
 fieldAddrV tab 28 v6 3 fun v76=>
 loadV tab 26 v76 H fun v77=>
 loadV tab 28 v2 H fun v78=>
 loadV tab 28 v3 H fun v81=>
 fieldAddrV tab 28 v2 0 fun v84=>
 loadV tab 3 v84 H fun v85=>
 CallT Try.prog 24 [v78,v9] H fun v80 H17=>
 (loadV tab 26 v76 H17 fun v9077=>
 v77=v9077)∧
 (loadV tab 28 v3 H17 fun v9081=>
 v81=v9081)∧
 (loadV tab 3 v84 H17 fun v9085=>
 v85=v9085)∧
 CallT Try.prog 24 [v81,v9] H17 fun v83 H18=>
 (loadV tab 26 v76 H18 fun v9077=>
 v77=v9077)∧
 (loadV tab 3 v84 H18 fun v9085=>
 v85=v9085)∧
 CallT Try.prog 23 [v80,v83,v85] H18 fun v86 H19=>
 (loadV tab 26 v76 H19 fun v9077=>
 v77=v9077)∧
 buildSliceV tab 26 1 [(0,v86)] H19 (wkK fun v87 H20=>
 (loadV tab 26 v76 H20 fun v9077=>
 v77=v9077)∧
 appendV tab 26 26 v77 v87 H20 (wkK fun v88 H21=>
 fieldAddrV tab 28 v6 3 fun v89=>
 storeV tab 26 v89 v88 H21 fun H22=>
 binV tab .add 3 v9 (AV.p (.int .i64 1)) fun v75=>
 N1 v75 H22))
def B8_1 (K:AV→Heap→Prop) (N1:AV→Heap→Prop) (v2:AV) (v3:AV) (v4:AV) (v6:AV) (v9:AV) (H:Heap):Prop:=
 fieldAddrV tab 28 v2 3 fun v63=>
 loadV tab 26 v63 H fun v64=>
 lenV tab 26 v64 fun v65=>
 binV tab .lss 3 v9 v65 fun v66=>
 grdV v66 false (fieldAddrV tab 28 v3 3 fun v69=>
 loadV tab 26 v69 H fun v70=>
 lenV tab 26 v70 fun v71=>
 binV tab .lss 3 v9 v71 fun v72=>
 condV v72 (J8_2 K N1 v2 v3 v4 v6 v9 H)
 (loadV tab 28 v6 H fun v90=>
 CallT Try.prog 25 [v90] H fun v91 H23=>
 extractV v91 0 fun v92=>
 extractV v91 1 fun v93=>
 storeV tab 28 v4 v92 H23 fun H24=>
 loadV tab 28 v4 H24 fun r0=>
 K (.tup [r0,v93]) H24))
 (J8_2 K N1 v2 v3 v4 v6 v9 H)
def B8_0 (K:AV→Heap→Prop) (N1:AV→Heap→Prop) (v2:AV) (v3:AV) (v4:AV) (v6:AV) (v37:AV) (v38:AV) (v39:AV) (H:Heap):Prop:=
 binV tab .lss 3 v39 v38 fun v40=>
 condV v40 (indexAddrV tab 25 v37 v39 fun v41=>
 loadV tab 46 v41 H fun v42=>
 allocV tab 46 H fun v8 H12=>
 storeV tab 46 v8 v42 H12 fun H13=>
 fieldAddrV tab 28 v6 2 fun v43=>
 loadV tab 25 v43 H13 fun v44=>
 fieldAddrV tab 46 v8 0 fun v45=>
 loadV tab 3 v45 H13 fun v46=>
 fieldAddrV tab 28 v2 0 fun v47=>
 loadV tab 3 v47 H13 fun v48=>
 binV tab .add 3 v46 v48 fun v49=>
 fieldAddrV tab 46 v8 1 fun v50=>
 loadV tab 3 v50 H13 fun v51=>
 fieldAddrV tab 46 v8 2 fun v52=>
 loadV tab 3 v52 H13 fun v53=>
 fieldAddrV tab 28 v2 0 fun v54=>
 loadV tab 3 v54 H13 fun v55=>
 binV tab .add 3 v53 v55 fun v56=>
 buildV tab 46 [(0,v49),(1,v51),(2,v56)] fun v57=>
 buildSliceV tab 25 1 [(0,v57)] H13 (wkK fun v58 H14=>
 appendV tab 25 25 v44 v58 H14 (wkK fun v59 H15=>
 fieldAddrV tab 28 v6 2 fun v60=>
 storeV tab 25 v60 v59 H15 fun H16=>
 binV tab .add 3 v39 (AV.p (.int .i64 1)) fun v61=>
 N1 v61 H16)))
 (L8_1 K v2 v3 v4 v6 (AV.p (.int .i64 0)) H)
def W8 (v0:AV) (v1:AV) (H:Heap) (K:AV→Heap→Prop):Prop:=
 boxV v0 H fun v2 H1=>
 boxV v1 H1 fun v3 H2=>
 allocV tab 28 H2 fun v4 H3=>
 loadV tab 28 v2 H3 fun v10=>
 CallT Try.prog 17 [v10] H3 fun v11 H4=>
 unV .not v11 fun v12=>
 grdV v12 false (loadV tab 28 v3 H4 fun v14=>
 CallT Try.prog 17 [v14] H4 fun v15 H5=>
 unV .not v15 fun v16=>
 condV v16 (buildV tab 28 [] fun v18=>
 storeV tab 28 v4 v18 H5 fun H6=>
 loadV tab 28 v4 H6 fun r0=>
 K (.tup [r0,(AV.p (.bool false))]) H6)
 (fieldAddrV tab 28 v2 0 fun v19=>
 loadV tab 3 v19 H5 fun v20=>
 fieldAddrV tab 28 v3 0 fun v21=>
 loadV tab 3 v21 H5 fun v22=>
 binV tab .add 3 v20 v22 fun v23=>
 fieldAddrV tab 28 v2 1 fun v24=>
 loadV tab 24 v24 H5 fun v25=>
 fieldAddrV tab 28 v3 1 fun v26=>
 loadV tab 24 v26 H5 fun v27=>
 fieldAddrV tab 28 v2 0 fun v28=>
 loadV tab 3 v28 H5 fun v29=>
 fieldAddrV tab 28 v2 2 fun v32=>
 loadV tab 25 v32 H5 fun v33=>
 safeV (buildN tab 25 0 [])∧
 CallT Try.prog 23 [v25,v27,v29] H5 fun v30 H7=>
 (loadV tab 3 v19 H7 fun v9020=>
 v20=v9020)∧
 (loadV tab 3 v21 H7 fun v9022=>
 v22=v9022)∧
 (loadV tab 25 v32 H7 fun v9033=>
 v33=v9033)∧
 newV (buildN tab 25 0 []) H7 fun v31 H8=>
 appendV tab 25 25 v31 v33 H8 (wkK fun v34 H9=>
 (loadV tab 3 v19 H9 fun v9020=>
 v20=v9020)∧
 (loadV tab 3 v21 H9 fun v9022=>
 v22=v9022)∧
 buildV tab 28 [(0,v23),(1,v30),(2,v34)] fun v35=>
 allocV tab 28 H9 fun v6 H10=>
 storeV tab 28 v6 v35 H10 fun H11=>
 fieldAddrV tab 28 v3 2 fun v36=>
 loadV tab 25 v36 H11 fun v37=>
 lenV tab 25 v37 fun v38=>
 L8_0 K v2 v3 v4 v6 v37 v38 (AV.p (.int .i64 0)) H11)))
 (buildV tab 28 [] fun v18=>
 storeV tab 28 v4 v18 H4 fun H25=>
 loadV tab 28 v4 H25 fun r0=>
 K (.tup [r0,(AV.p (.bool false))]) H25)
theorem W8_wp (v0:AV) (v1:AV) (H:Heap) (K:AV→Heap→Prop):wpC Try.prog tab D8 (bodyOf Try.f8) (retF tab [.cell 4 28,.tmp 5] K) (nthA [v0,v1]) H=W8 v0 v1 H K:=by kernel_rfl
theorem W8_ok {v0 v1:AV} {H:Heap} {K:AV→Heap→Prop} (h:W8 v0 v1 H K):CallT Try.prog 8 [v0,v1] H K:=
  CallT.of_wp (D:=D8) tab_ok mixed Try.func8 (c:=bodyOf Try.f8) (by kernel_rfl) rfl (by kernel_rfl) (rs:=#[.cell 4 28,.tmp 5]) rfl (by decide +kernel) (by kernel_rfl) (W8_wp v0 v1 H K) h
theorem W8_hb:HasBody Try.prog 8:=⟨_,bodyOf Try.f8,Try.func8,by kernel_rfl,rfl⟩
theorem L8_1_rule {K:AV→Heap→Prop} {v2 v3 v4 v6 v9:AV} {H:Heap} {σ:Type} (s0:σ) (f9:σ→AV) (TH:σ→Heap) (pre:σ→Prop) (μ:σ→Nat)
    (h0:pre s0∧AV.wk v9 (f9 s0)∧Heap.le (TH s0) H)
    (round:∀s,pre s→B8_1 K (fun w9 H'=>∃s',pre s'∧μ s' < μ s∧AV.wk w9 (f9 s')∧Heap.le (TH s') H') v2 v3 v4 v6 (f9 s) (TH s)) :
    L8_1 K v2 v3 v4 v6 v9 H:=by
  unfold L8_1
  exact LoopV.mk s0 (fun s=>[f9 s]) TH pre μ (fun _=>rfl) (Eq.mp (by kernel_rfl) h0) (fun s hs=>Eq.mp (by kernel_rfl) (round s hs))
theorem L8_0_rule {K:AV→Heap→Prop} {v2 v3 v4 v6 v37 v38 v39:AV} {H:Heap} {σ:Type} (s0:σ) (f39:σ→AV) (TH:σ→Heap) (pre:σ→Prop) (μ:σ→Nat)
    (h0:pre s0∧AV.wk v39 (f39 s0)∧Heap.le (TH s0) H)
    (round:∀s,pre s→B8_0 K (fun w39 H'=>∃s',pre s'∧μ s' < μ s∧AV.wk w39 (f39 s')∧Heap.le (TH s') H') v2 v3 v4 v6 v37 v38 (f39 s) (TH s)) :
    L8_0 K v2 v3 v4 v6 v37 v38 v39 H:=by
  unfold L8_0
  exact LoopV.mk s0 (fun s=>[f39 s]) TH pre μ (fun _=>rfl) (Eq.mp (by kernel_rfl) h0) (fun s hs=>Eq.mp (by kernel_rfl) (round s hs))
def D9:Info:=⟨54,fun i=>if i=6 then ([[],[0],[],[0,1,2],[0,1,2,3],[],[5],[],[5,6,7],[5,6,7,8],[0,1,2,3,4,5,6,7,8,9]],[(0,[]),(1,[]),(2,[]),(3,[]),(4,[]),(5,[]),(6,[]),(7,[]),(8,[]),(9,[]),(10,[])]) else ([],[]),fun i=>if i=4 then ([2,3,38],[39]) else ([],[])⟩
def L9_0 (K:AV→Heap→Prop) (v2:AV) (v3:AV) (v38:AV) (v39:AV) (H:Heap):Prop:=LoopV (wpC Try.prog tab D9 (cAt [1,1,0,1,0,0] (bodyOf Try.f9))) [2,3,38] (PostF.block 0 (PostF.thenA (wpC Try.prog tab D9 (cAt [1,1,1] (bodyOf Try.f9))) (retF tab [.tmp 4] K))) [39] [AV.any,AV.any,v2,v3,AV.any,AV.any,AV.any,AV.any,AV.any,AV.any,AV.any,AV.any,AV.any,AV.any,AV.any,AV.any,AV.any,AV.any,AV.any,AV.any,AV.any,AV.any,AV.any,AV.any,AV.any,AV.any,AV.any,AV.any,AV.any,AV.any,AV.any,AV.any,AV.any,AV.any,AV.any,AV.any,AV.any,AV.any,v38,v39,AV.any,AV.any,AV.any,AV.any,AV.any,AV.any,AV.any,AV.any,AV.any,AV.any,AV.any,AV.any,AV.any,AV.any] H
def B9_0 (K:AV→Heap→Prop) (N1:AV→Heap→Prop) (v2:AV) (v3:AV) (v38:AV) (v39:AV) (H:Heap):Prop:=
 binV tab .lss 3 v39 v38 fun v40=>
 condV v40 (fieldAddrV tab 28 v2 2 fun v42=>
 loadV tab 25 v42 H fun v43=>
 indexAddrV tab 25 v43 v39 fun v45=>
 loadV tab 46 v45 H fun v46=>
 fieldAddrV tab 28 v3 2 fun v47=>
 loadV tab 25 v47 H fun v48=>
 indexAddrV tab 25 v48 v39 fun v50=>
 loadV tab 46 v50 H fun v51=>
 binV tab .neq 46 v46 v51 fun v52=>
 condV v52 (K (AV.p (.bool false)) H)
 (binV tab .add 3 v39 (AV.p (.int .i64 1)) fun v53=>
 N1 v53 H))
 (K (AV.p (.bool true)) H)
def W9 (v0:AV) (v1:AV) (H:Heap) (K:AV→Heap→Prop):Prop:=
 boxV v0 H fun v2 H1=>
 boxV v1 H1 fun v3 H2=>
 fieldAddrV tab 28 v2 0 fun v6=>
 loadV tab 3 v6 H2 fun v7=>
 fieldAddrV tab 28 v3 0 fun v8=>
 loadV tab 3 v8 H2 fun v9=>
 binV tab .neq 3 v7 v9 fun v10=>
 grdV v10 false (fieldAddrV tab 28 v2 1 fun v12=>
 loadV tab 24 v12 H2 fun v13=>
 fieldAddrV tab 28 v3 1 fun v14=>
 loadV tab 24 v14 H2 fun v15=>
 CallT Try.prog 26 [v13,v15] H2 fun v16 H3=>
 unV .not v16 fun v17=>
 grdV v17 false (fieldAddrV tab 28 v2 2 fun v20=>
 loadV tab 25 v20 H3 fun v21=>
 lenV tab 25 v21 fun v22=>
 fieldAddrV tab 28 v3 2 fun v23=>
 loadV tab 25 v23 H3 fun v24=>
 lenV tab 25 v24 fun v25=>
 binV tab .neq 3 v22 v25 fun v26=>
 grdV v26 false (fieldAddrV tab 28 v2 3 fun v29=>
 loadV tab 26 v29 H3 fun v30=>
 fieldAddrV tab 28 v3 3 fun v31=>
 loadV tab 26 v31 H3 fun v32=>
 CallT Try.prog 27 [v30,v32] H3 fun v33 H4=>
 unV .not v33 fun v34=>
 condV v34 (K (AV.p (.bool false)) H4)
 (fieldAddrV tab 28 v2 2 fun v36=>
 loadV tab 25 v36 H4 fun v37=>
 lenV tab 25 v37 fun v38=>
 L9_0 K v2 v3 v38 (AV.p (.int .i64 0)) H4))
 (K (AV.p (.bool false)) H3))
 (K (AV.p (.bool false)) H3))
 (K (AV.p (.bool false)) H2)
theorem W9_wp (v0:AV) (v1:AV) (H:Heap) (K:AV→Heap→Prop):wpC Try.prog tab D9 (bodyOf Try.f9) (retF tab [.tmp 4] K) (nthA [v0,v1]) H=W9 v0 v1 H K:=by kernel_rfl
theorem W9_ok {v0 v1:AV} {H:Heap} {K:AV→Heap→Prop} (h:W9 v0 v1 H K):CallT Try.prog 9 [v0,v1] H K:=
  CallT.of_wp (D:=D9) tab_ok mixed Try.func9 (c:=bodyOf Try.f9) (by kernel_rfl) rfl (by kernel_rfl) (rs:=#[.tmp 4]) rfl (by decide +kernel) (by kernel_rfl) (W9_wp v0 v1 H K) h
theorem L9_0_rule {K:AV→Heap→Prop} {v2 v3 v38 v39:AV} {H:Heap} {σ:Type} (s0:σ) (f39:σ→AV) (TH:σ→Heap) (pre:σ→Prop) (μ:σ→Nat)
    (h0:pre s0∧AV.wk v39 (f39 s0)∧Heap.le (TH s0) H)
    (round:∀s,pre s→B9_0 K (fun w39 H'=>∃s',pre s'∧μ s' < μ s∧AV.wk w39 (f39 s')∧Heap.le (TH s') H') v2 v3 v38 (f39 s) (TH s)) :
    L9_0 K v2 v3 v38 v39 H:=by
  unfold L9_0
  exact LoopV.mk s0 (fun s=>[f39 s]) TH pre μ (fun _=>rfl) (Eq.mp (by kernel_rfl) h0) (fun s hs=>Eq.mp (by kernel_rfl) (round s hs))
def D10:Info:=⟨30,fun i=>if i=6 then ([[],[],[0],[0,1,2]],[(0,[]),(1,[]),(2,[1]),(3,[])]) else if i=7 then ([[],[],[0],[0,1,2]],[(0,[]),(1,[]),(2,[1]),(3,[])]) else ([],[]),fun i=>([],[])⟩
def J10_0 (K:AV→Heap→Prop) (v2:AV) (v3:AV) (v5:AV) (v6:AV) (H:Heap):Prop:=
 loadV tab 28 v5 H fun v28=>
 loadV tab 35 v6 H fun v29=>
 storeV tab 28 v2 v28 H fun H16=>
 (loadV tab 35 v6 H16 fun v9029=>
 v29=v9029)∧
 storeV tab 35 v3 v29 H16 fun H17=>
 loadV tab 28 v2 H17 fun r0=>
 loadV tab 35 v3 H17 fun r1=>
 K (.tup [r0,r1]) H17
def W10 (v0:AV) (H:Heap) (K:AV→Heap→Prop):Prop:=
 allocV tab 28 H fun v2 H1=>
 allocV tab 35 H1 fun v3 H2=>
 buildV tab 56 [(0,v0)] fun v10=>
 boxV v10 H2 fun v11 H3=>
 CallT Try.prog 28 [v11,(AV.p (.int .i64 5))] H3 fun v13 H4=>
 allocV tab 28 H4 fun v5 H5=>
 storeV tab 28 v5 v13 H5 fun H6=>
 CallT Try.prog 29 [v11] H6 fun v15 H7=>
 allocV tab 35 H7 fun v6 H8=>
 storeV tab 35 v6 v15 H8 fun H9=>
 loadV tab 28 v5 H9 fun v17=>
 CallT Try.prog 30 [v17] H9 fun v18 H10=>
 extractV v18 0 fun v19=>
 extractV v18 1 fun v20=>
 allocV tab 35 H10 fun v7 H11=>
 storeV tab 35 v7 v19 H11 fun H12=>
 grdV v20 true (CallT Try.prog 31 [v11,(AV.p (.int .i64 2))] H12 fun v24 H13=>
 condV v24 (loadV tab 28 v5 H13 fun v26=>
 loadV tab 35 v7 H13 fun v27=>
 storeV tab 28 v2 v26 H13 fun H14=>
 (loadV tab 35 v7 H14 fun v9027=>
 v27=v9027)∧
 storeV tab 35 v3 v27 H14 fun H15=>
 loadV tab 28 v2 H15 fun r0=>
 loadV tab 35 v3 H15 fun r1=>
 K (.tup [r0,r1]) H15)
 (J10_0 K v2 v3 v5 v6 H13))
 (J10_0 K v2 v3 v5 v6 H12)
theorem W10_wp (v0:AV) (H:Heap) (K:AV→Heap→Prop):wpC Try.prog tab D10 (bodyOf Try.f10) (retF tab [.cell 2 28,.cell 3 35] K) (nthA [v0]) H=W10 v0 H K:=by kernel_rfl
theorem W10_ok {v0:AV} {H:Heap} {K:AV→Heap→Prop} (h:W10 v0 H K):CallT Try.prog 10 [v0] H K:=
  CallT.of_wp (D:=D10) tab_ok mixed Try.func10 (c:=bodyOf Try.f10) (by kernel_rfl) rfl (by kernel_rfl) (rs:=#[.cell 2 28,.cell 3 35]) rfl (by decide +kernel) (by kernel_rfl) (W10_wp v0 H K) h
def D11:Info:=⟨23,fun i=>([],[]),fun i=>([],[])⟩
def W11 (v0:AV) (H:Heap) (K:AV→Heap→Prop):Prop:=
 boxV v0 H fun v1 H1=>
 fieldAddrV tab 35 v1 0 fun v3=>
 loadV tab 24 v3 H1 fun v4=>
 lenV tab 24 v4 fun v5=>
 binV tab .leq 3 v5 (AV.p (.int .i64 24)) fun v6=>
 grdV v6 true (fieldAddrV tab 35 v1 1 fun v8=>
 loadV tab 24 v8 H1 fun v9=>
 lenV tab 24 v9 fun v10=>
 CallT Try.prog 32 [v10,(AV.p (.int .i64 1)),(AV.p (.int .i64 24))] H1 fun v11 H2=>
 grdV v11 true (fieldAddrV tab 35 v1 0 fun v14=>
 loadV tab 24 v14 H2 fun v15=>
 CallT Try.prog 33 [v15,(AV.p (.int .i64 0)),(AV.p (.int .i64 7))] H2 fun v16 H3=>
 grdV v16 true (fieldAddrV tab 35 v1 1 fun v19=>
 loadV tab 24 v19 H3 fun v20=>
 CallT Try.prog 33 [v20,(AV.p (.int .i64 0)),(AV.p (.int .i64 7))] H3 fun v21 H4=>
 K v21 H4)
 (K (AV.p (.bool false)) H3))
 (K (AV.p (.bool false)) H2))
 (K (AV.p (.bool false)) H1)
theorem W11_wp (v0:AV) (H:Heap) (K:AV→Heap→Prop):wpC Try.prog tab D11 (bodyOf Try.f11) (retF tab [.tmp 2] K) (nthA [v0]) H=W11 v0 H K:=by kernel_rfl
theorem W11_ok {v0:AV} {H:Heap} {K:AV→Heap→Prop} (h:W11 v0 H K):CallT Try.prog 11 [v0] H K:=
  CallT.of_wp (D:=D11) tab_ok mixed Try.func11 (c:=bodyOf Try.f11) (by kernel_rfl) rfl (by kernel_rfl) (rs:=#[.tmp 2]) rfl (by decide +kernel) (by kernel_rfl) (W11_wp v0 H K) h
end Go.Proofs.Ytohkciilfkhomaa
namespace Go.Proofs.Ytohkciilfkhomaa
open Go Go.Sep
attribute [local irreducible] wpC headF
def D12:Info:=⟨124,fun i=>if i=11 then ([[],[0],[],[],[2,3],[0,1,2,3,4]],[(0,[]),(1,[]),(2,[]),(3,[]),(4,[1]),(5,[])]) else if i=13 then ([[],[],[],[],[2,3],[2,3,4],[],[],[6,7],[],[9],[6,7,8,9,10],[],[12],[6,7,8,9,10,11,12,13],[6,7,8,9,10,11,12,13,14],[2,3,4,5,6,7,8,9,10,11,12,13,14,15],[0,1,2,3,4,5,6,7,8,9,10,11,12,13,14,15,16],[0,1,2,3,4,5,6,7,8,9,10,11,12,13,14,15,16,17]],[(0,[]),(1,[]),(2,[]),(3,[]),(4,[]),(5,[]),(6,[]),(7,[]),(9,[]),(10,[]),(12,[]),(13,[]),(8,[5,10,13]),(11,[]),(14,[]),(15,[5]),(16,[]),(17,[]),(18,[])]) else ([],[]),fun i=>if i=6 then ([2,3,6,7,8,40],[41]) else if i=9 then ([2,3,6,7,8,9,40,41,45,46],[47]) else if i=17 then ([2,6,7,85,86],[8,87]) else if i=21 then ([2,6,7,8,14,85,86,87,92],[15,93]) else if i=24 then ([2,6,7,8,14,16,85,86,87,92,93,96,97],[15,98]) else ([],[])⟩
def L12_0 (K:AV→Heap→Prop) (v2:AV) (v3:AV) (v6:AV) (v7:AV) (v8:AV) (v40:AV) (v41:AV) (H:Heap):Prop:=LoopV (wpC Try.prog tab D12 (cAt [1,1,1,1,0,1,0,0] (bodyOf Try.f12))) [2,3,6,7,8,40] (PostF.block 0 (PostF.thenA (wpC Try.prog tab D12 (cAt [1,1,1,1,1] (bodyOf Try.f12))) (retF tab [.tmp 4,.tmp 5] K))) [41] [AV.any,AV.any,v2,v3,AV.any,AV.any,v6,v7,v8,AV.any,AV.any,AV.any,AV.any,AV.any,AV.any,AV.any,AV.any,AV.any,AV.any,AV.any,AV.any,AV.any,AV.any,AV.any,AV.any,AV.any,AV.any,AV.any,AV.any,AV.any,AV.any,AV.any,AV.any,AV.any,AV.any,AV.any,AV.any,AV.any,AV.any,AV.any,v40,v41,AV.any,AV.any,AV.any,AV.any,AV.any,AV.any,AV.any,AV.any,AV.any,AV.any,AV.any,AV.any,AV.any,AV.any,AV.any,AV.any,AV.any,AV.any,AV.any,AV.any,AV.any,AV.any,AV.any,AV.any,AV.any,AV.any,AV.any,AV.any,AV.any,AV.any,AV.any,AV.any,AV.any,AV.any,AV.any,AV.any,AV.any,AV.any,AV.any,AV.any,AV.any,AV.any,AV.any,AV.any,AV.any,AV.any,AV.any,AV.any,AV.any,AV.any,AV.any,AV.any,AV.any,AV.any,AV.any,AV.any,AV.any,AV.any,AV.any,AV.any,AV.any,AV.any,AV.any,AV.any,AV.any,AV.any,AV.any,AV.any,AV.any,AV.any,AV.any,AV.any,AV.any,AV.any,AV.any,AV.any,AV.any,AV.any,AV.any,AV.any,AV.any,AV.any] H
def L12_1 (K:AV→Heap→Prop) (N1:AV→Heap→Prop) (v2:AV) (v3:AV) (v6:AV) (v7:AV) (v8:AV) (v9:AV) (v40:AV) (v41:AV) (v45:AV) (v46:AV) (v47:AV) (H:Heap):Prop:=LoopV (wpC Try.prog tab D12 (cAt [1,1,1,1,0,1,0,0,1,1,0,0,1,1,0,0] (bodyOf Try.f12))) [2,3,6,7,8,9,40,41,45,46] (PostF.block 2 (PostF.block 1 (PostF.thenA (wpC Try.prog tab D12 (cAt [1,1,1,1,0,1,0,0,1,1,1] (bodyOf Try.f12))) (loopF (PostF.block 0 (PostF.thenA (wpC Try.prog tab D12 (cAt [1,1,1,1,1] (bodyOf Try.f12))) (retF tab [.tmp 4,.tmp 5] K))) (fun e h=>N1 (e 41) h))))) [47] [AV.any,AV.any,v2,v3,AV.any,AV.any,v6,v7,v8,v9,AV.any,AV.any,AV.any,AV.any,AV.any,AV.any,AV.any,AV.any,AV.any,AV.any,AV.any,AV.any,AV.any,AV.any,AV.any,AV.any,AV.any,AV.any,AV.any,AV.any,AV.any,AV.any,AV.any,AV.any,AV.any,AV.any,AV.any,AV.any,AV.any,AV.any,v40,v41,AV.any,AV.any,AV.any,v45,v46,v47,AV.any,AV.any,AV.any,AV.any,AV.any,AV.any,AV.any,AV.any,AV.any,AV.any,AV.any,AV.any,AV.any,AV.any,AV.any,AV.any,AV.any,AV.any,AV.any,AV.any,AV.any,AV.any,AV.any,AV.any,AV.any,AV.any,AV.any,AV.any,AV.any,AV.any,AV.any,AV.any,AV.any,AV.any,AV.any,AV.any,AV.any,AV.any,AV.any,AV.any,AV.any,AV.any,AV.any,AV.any,AV.any,AV.any,AV.any,AV.any,AV.any,AV.any,AV.any,AV.any,AV.any,AV.any,AV.any,AV.any,AV.any,AV.any,AV.any,AV.any,AV.any,AV.any,AV.any,AV.any,AV.any,AV.any,AV.any,AV.any,AV.any,AV.any,AV.any,AV.any,AV.any,AV.any,AV.any,AV.any] H
def B12_1 (K:AV→Heap→Prop) (N1:AV→Heap→Prop) (N2:AV→Heap→Prop) (v2:AV) (v3:AV) (v6:AV) (v7:AV) (v8:AV) (v9:AV) (v40:AV) (v41:AV) (v45:AV) (v46:AV) (v47:AV) (H:Heap):Prop:=
 binV tab .lss 3 v47 v46 fun v48=>
 condV v48 (indexAddrV tab 25 v45 v47 fun v49=>
 loadV tab 46 v49 H fun v50=>
 allocV tab 46 H fun v11 H7=>
 storeV tab 46 v11 v50 H7 fun H8=>
 fieldAddrV tab 46 v11 1 fun v51=>
 loadV tab 3 v51 H8 fun v52=>
 loadV tab 35 v3 H8 fun v53=>
 CallT Try.prog 35 [v53,v9] H8 fun v55 H9=>
 (loadV tab 3 v51 H9 fun v9052=>
 v52=v9052)∧
 binV tab .eql 3 v52 v55 fun v56=>
 condV v56 (fieldAddrV tab 28 v2 0 fun v58=>
 loadV tab 3 v58 H9 fun v59=>
 binV tab .mul 3 v9 v59 fun v60=>
 fieldAddrV tab 46 v11 0 fun v61=>
 loadV tab 3 v61 H9 fun v62=>
 binV tab .add 3 v60 v62 fun v63=>
 indexAddrV tab 26 v7 v63 fun v68=>
 loadV tab 24 v68 H9 fun v69=>
 loadV tab 35 v3 H9 fun v70=>
 fieldAddrV tab 28 v2 0 fun v73=>
 loadV tab 3 v73 H9 fun v74=>
 fieldAddrV tab 46 v11 2 fun v76=>
 loadV tab 3 v76 H9 fun v77=>
 CallT Try.prog 36 [v70,v9] H9 fun v72 H10=>
 (loadV tab 24 v68 H10 fun v9069=>
 v69=v9069)∧
 (loadV tab 3 v73 H10 fun v9074=>
 v74=v9074)∧
 (loadV tab 3 v76 H10 fun v9077=>
 v77=v9077)∧
 binV tab .mul 3 v72 v74 fun v75=>
 binV tab .add 3 v75 v77 fun v78=>
 buildSliceV tab 24 1 [(0,v78)] H10 (wkK fun v79 H11=>
 (loadV tab 24 v68 H11 fun v9069=>
 v69=v9069)∧
 appendV tab 24 24 v69 v79 H11 (wkK fun v80 H12=>
 indexAddrV tab 26 v7 v63 fun v81=>
 storeV tab 24 v81 v80 H12 fun H13=>
 binV tab .add 3 v47 (AV.p (.int .i64 1)) fun v82=>
 N2 v82 H13)))
 (binV tab .add 3 v47 (AV.p (.int .i64 1)) fun v82=>
 N2 v82 H9))
 (binV tab .add 3 v41 (AV.p (.int .i64 1)) fun v83=>
 N1 v83 H)
def L12_2 (K:AV→Heap→Prop) (v2:AV) (v6:AV) (v7:AV) (v8:AV) (v85:AV) (v86:AV) (v87:AV) (H:Heap):Prop:=LoopV (wpC Try.prog tab D12 (cAt [1,1,1,1,1,0,1,0,0] (bodyOf Try.f12))) [2,6,7,85,86] (PostF.block 4 (PostF.thenA (wpC Try.prog tab D12 (cAt [1,1,1,1,1,1] (bodyOf Try.f12))) (retF tab [.tmp 4,.tmp 5] K))) [8,87] [AV.any,AV.any,v2,AV.any,AV.any,AV.any,v6,v7,v8,AV.any,AV.any,AV.any,AV.any,AV.any,AV.any,AV.any,AV.any,AV.any,AV.any,AV.any,AV.any,AV.any,AV.any,AV.any,AV.any,AV.any,AV.any,AV.any,AV.any,AV.any,AV.any,AV.any,AV.any,AV.any,AV.any,AV.any,AV.any,AV.any,AV.any,AV.any,AV.any,AV.any,AV.any,AV.any,AV.any,AV.any,AV.any,AV.any,AV.any,AV.any,AV.any,AV.any,AV.any,AV.any,AV.any,AV.any,AV.any,AV.any,AV.any,AV.any,AV.any,AV.any,AV.any,AV.any,AV.any,AV.any,AV.any,AV.any,AV.any,AV.any,AV.any,AV.any,AV.any,AV.any,AV.any,AV.any,AV.any,AV.any,AV.any,AV.any,AV.any,AV.any,AV.any,AV.any,AV.any,v85,v86,v87,AV.any,AV.any,AV.any,AV.any,AV.any,AV.any,AV.any,AV.any,AV.any,AV.any,AV.any,AV.any,AV.any,AV.any,AV.any,AV.any,AV.any,AV.any,AV.any,AV.any,AV.any,AV.any,AV.any,AV.any,AV.any,AV.any,AV.any,AV.any,AV.any,AV.any,AV.any,AV.any,AV.any,AV.any,AV.any,AV.any] H
def L12_3 (K:AV→Heap→Prop) (N1:AV→AV→Heap→Prop) (v2:AV) (v6:AV) (v7:AV) (v8:AV) (v14:AV) (v15:AV) (v85:AV) (v86:AV) (v87:AV) (v92:AV) (v93:AV) (H:Heap):Prop:=LoopV (wpC Try.prog tab D12 (cAt [1,1,1,1,1,0,1,0,0,1,1,0,0,1,1,0,1,0,0] (bodyOf Try.f12))) [2,6,7,8,14,85,86,87,92] (PostF.block 6 (PostF.thenA (wpC Try.prog tab D12 (cAt [1,1,1,1,1,0,1,0,0,1,1,0,0,1,1,1] (bodyOf Try.f12))) (PostF.block 5 (PostF.thenA (wpC Try.prog tab D12 (cAt [1,1,1,1,1,0,1,0,0,1,1,1] (bodyOf Try.f12))) (loopF (PostF.block 4 (PostF.thenA (wpC Try.prog tab D12 (cAt [1,1,1,1,1,1] (bodyOf Try.f12))) (retF tab [.tmp 4,.tmp 5] K))) (fun e h=>N1 (e 8) (e 87) h)))))) [15,93] [AV.any,AV.any,v2,AV.any,AV.any,AV.any,v6,v7,v8,AV.any,AV.any,AV.any,AV.any,AV.any,v14,v15,AV.any,AV.any,AV.any,AV.any,AV.any,AV.any,AV.any,AV.any,AV.any,AV.any,AV.any,AV.any,AV.any,AV.any,AV.any,AV.any,AV.any,AV.any,AV.any,AV.any,AV.any,AV.any,AV.any,AV.any,AV.any,AV.any,AV.any,AV.any,AV.any,AV.any,AV.any,AV.any,AV.any,AV.any,AV.any,AV.any,AV.any,AV.any,AV.any,AV.any,AV.any,AV.any,AV.any,AV.any,AV.any,AV.any,AV.any,AV.any,AV.any,AV.any,AV.any,AV.any,AV.any,AV.any,AV.any,AV.any,AV.any,AV.any,AV.any,AV.any,AV.any,AV.any,AV.any,AV.any,AV.any,AV.any,AV.any,AV.any,AV.any,v85,v86,v87,AV.any,AV.any,AV.any,AV.any,v92,v93,AV.any,AV.any,AV.any,AV.any,AV.any,AV.any,AV.any,AV.any,AV.any,AV.any,AV.any,AV.any,AV.any,AV.any,AV.any,AV.any,AV.any,AV.any,AV.any,AV.any,AV.any,AV.any,AV.any,AV.any,AV.any,AV.any,AV.any,AV.any,AV.any,AV.any] H
def L12_4 (K:AV→Heap→Prop) (N1:AV→AV→Heap→Prop) (N2:AV→AV→Heap→Prop) (v2:AV) (v6:AV) (v7:AV) (v8:AV) (v14:AV) (v15:AV) (v16:AV) (v85:AV) (v86:AV) (v87:AV) (v92:AV) (v93:AV) (v96:AV) (v97:AV) (v98:AV) (H:Heap):Prop:=LoopV (wpC Try.prog tab D12 (cAt [1,1,1,1,1,0,1,0,0,1,1,0,0,1,1,0,1,0,0,1,1,0,0,1,1,0,0] (bodyOf Try.f12))) [2,6,7,8,14,16,85,86,87,92,93,96,97] (PostF.block 8 (PostF.block 7 (PostF.thenA (wpC Try.prog tab D12 (cAt [1,1,1,1,1,0,1,0,0,1,1,0,0,1,1,0,1,0,0,1,1,1] (bodyOf Try.f12))) (loopF (PostF.block 6 (PostF.thenA (wpC Try.prog tab D12 (cAt [1,1,1,1,1,0,1,0,0,1,1,0,0,1,1,1] (bodyOf Try.f12))) (PostF.block 5 (PostF.thenA (wpC Try.prog tab D12 (cAt [1,1,1,1,1,0,1,0,0,1,1,1] (bodyOf Try.f12))) (loopF (PostF.block 4 (PostF.thenA (wpC Try.prog tab D12 (cAt [1,1,1,1,1,1] (bodyOf Try.f12))) (retF tab [.tmp 4,.tmp 5] K))) (fun e h=>N1 (e 8) (e 87) h)))))) (fun e h=>N2 (e 15) (e 93) h))))) [15,98] [AV.any,AV.any,v2,AV.any,AV.any,AV.any,v6,v7,v8,AV.any,AV.any,AV.any,AV.any,AV.any,v14,v15,v16,AV.any,AV.any,AV.any,AV.any,AV.any,AV.any,AV.any,AV.any,AV.any,AV.any,AV.any,AV.any,AV.any,AV.any,AV.any,AV.any,AV.any,AV.any,AV.any,AV.any,AV.any,AV.any,AV.any,AV.any,AV.any,AV.any,AV.any,AV.any,AV.any,AV.any,AV.any,AV.any,AV.any,AV.any,AV.any,AV.any,AV.any,AV.any,AV.any,AV.any,AV.any,AV.any,AV.any,AV.any,AV.any,AV.any,AV.any,AV.any,AV.any,AV.any,AV.any,AV.any,AV.any,AV.any,AV.any,AV.any,AV.any,AV.any,AV.any,AV.any,AV.any,AV.any,AV.any,AV.any,AV.any,AV.any,AV.any,AV.any,v85,v86,v87,AV.any,AV.any,AV.any,AV.any,v92,v93,AV.any,AV.any,v96,v97,v98,AV.any,AV.any,AV.any,AV.any,AV.any,AV.any,AV.any,AV.any,AV.any,AV.any,AV.any,AV.any,AV.any,AV.any,AV.any,AV.any,AV.any,AV.any,AV.any,AV.any,AV.any,AV.any,AV.any,AV.any,AV.any] H
def B12_4 (K:AV→Heap→Prop) (N1:AV→AV→Heap→Prop) (N2:AV→AV→Heap→Prop) (N3:AV→AV→Heap→Prop) (v2:AV) (v6:AV) (v7:AV) (v8:AV) (v14:AV) (v15:AV) (v16:AV) (v85:AV) (v86:AV) (v87:AV) (v92:AV) (v93:AV) (v96:AV) (v97:AV) (v98:AV) (H:Heap):Prop:=
 binV tab .lss 3 v98 v97 fun v99=>
 condV v99 (indexAddrV tab 24 v96 v98 fun v100=>
 loadV tab 3 v100 H fun v101=>
 fieldAddrV tab 28 v2 0 fun v104=>
 loadV tab 3 v104 H fun v105=>
 binV tab .mul 3 v16 v105 fun v106=>
 binV tab .add 3 v106 v101 fun v108=>
 buildSliceV tab 24 1 [(0,v108)] H (wkK fun v109 H15=>
 appendV tab 24 24 v15 v109 H15 (wkK fun v110 H16=>
 binV tab .add 3 v98 (AV.p (.int .i64 1)) fun v111=>
 N3 v110 v111 H16)))
 (binV tab .add 3 v93 (AV.p (.int .i64 1)) fun v112=>
 N2 v15 v112 H)
def B12_3 (K:AV→Heap→Prop) (N1:AV→AV→Heap→Prop) (N2:AV→AV→Heap→Prop) (v2:AV) (v6:AV) (v7:AV) (v8:AV) (v14:AV) (v15:AV) (v85:AV) (v86:AV) (v87:AV) (v92:AV) (v93:AV) (H:Heap):Prop:=
 binV tab .lss 3 v93 v92 fun v94=>
 condV v94 (lenV tab 24 v14 fun v97=>
 L12_4 K N1 N2 v2 v6 v7 v8 v14 v15 v93 v85 v86 v87 v92 v93 v14 v97 (AV.p (.int .i64 0)) H)
 (buildSliceV tab 26 1 [(0,v15)] H (wkK fun v115 H17=>
 appendV tab 26 26 v8 v115 H17 (wkK fun v116 H18=>
 binV tab .add 3 v87 (AV.p (.int .i64 1)) fun v117=>
 N1 v116 v117 H18)))
def B12_2 (K:AV→Heap→Prop) (N1:AV→AV→Heap→Prop) (v2:AV) (v6:AV) (v7:AV) (v8:AV) (v85:AV) (v86:AV) (v87:AV) (H:Heap):Prop:=
 binV tab .lss 3 v87 v86 fun v88=>
 condV v88 (indexAddrV tab 26 v85 v87 fun v89=>
 loadV tab 24 v89 H fun v90=>
 buildSliceV tab 24 0 [] H (wkK fun v91 H14=>
 L12_3 K N1 v2 v6 v7 v8 v90 v91 v85 v86 v87 v6 (AV.p (.int .i64 0)) H14))
 (fieldAddrV tab 28 v2 1 fun v119=>
 loadV tab 24 v119 H fun v120=>
 CallT Try.prog 37 [v7,v120,v8] H fun v122 H19=>
 binV tab .geq 3 v122 (AV.p (.int .i64 0)) fun v123=>
 K (.tup [v123,(AV.p (.bool true))]) H19)
def B12_0 (K:AV→Heap→Prop) (N1:AV→Heap→Prop) (v2:AV) (v3:AV) (v6:AV) (v7:AV) (v8:AV) (v40:AV) (v41:AV) (H:Heap):Prop:=
 binV tab .lss 3 v41 v40 fun v42=>
 condV v42 (fieldAddrV tab 28 v2 2 fun v44=>
 loadV tab 25 v44 H fun v45=>
 lenV tab 25 v45 fun v46=>
 L12_1 K N1 v2 v3 v6 v7 v8 v41 v40 v41 v45 v46 (AV.p (.int .i64 0)) H)
 (fieldAddrV tab 28 v2 3 fun v84=>
 loadV tab 26 v84 H fun v85=>
 lenV tab 26 v85 fun v86=>
 L12_2 K v2 v6 v7 v8 v85 v86 (AV.p (.int .i64 0)) H)
def W12 (v0:AV) (v1:AV) (H:Heap) (K:AV→Heap→Prop):Prop:=
 boxV v0 H fun v2 H1=>
 boxV v1 H1 fun v3 H2=>
 loadV tab 28 v2 H2 fun v19=>
 CallT Try.prog 16 [v19] H2 fun v20 H3=>
 unV .not v20 fun v21=>
 grdV v21 false (loadV tab 35 v3 H3 fun v23=>
 CallT Try.prog 34 [v23] H3 fun v24 H4=>
 unV .not v24 fun v25=>
 condV v25 (K (.tup [(AV.p (.bool false)),(AV.p (.bool false))]) H4)
 (fieldAddrV tab 35 v3 0 fun v27=>
 loadV tab 24 v27 H4 fun v28=>
 lenV tab 24 v28 fun v29=>
 fieldAddrV tab 35 v3 1 fun v30=>
 loadV tab 24 v30 H4 fun v31=>
 lenV tab 24 v31 fun v32=>
 binV tab .add 3 v29 v32 fun v33=>
 fieldAddrV tab 28 v2 0 fun v35=>
 loadV tab 3 v35 H4 fun v36=>
 binV tab .mul 3 v33 v36 fun v37=>
 makeSliceV tab 26 v37 v37 H4 fun v38 H5=>
 buildSliceV tab 26 0 [] H5 (wkK fun v39 H6=>
 L12_0 K v2 v3 v33 v38 v39 v33 (AV.p (.int .i64 0)) H6)))
 (K (.tup [(AV.p (.bool false)),(AV.p (.bool false))]) H3)
theorem W12_wp (v0:AV) (v1:AV) (H:Heap) (K:AV→Heap→Prop):wpC Try.prog tab D12 (bodyOf Try.f12) (retF tab [.tmp 4,.tmp 5] K) (nthA [v0,v1]) H=W12 v0 v1 H K:=by kernel_rfl
theorem W12_ok {v0 v1:AV} {H:Heap} {K:AV→Heap→Prop} (h:W12 v0 v1 H K):CallT Try.prog 12 [v0,v1] H K:=
  CallT.of_wp (D:=D12) tab_ok mixed Try.func12 (c:=bodyOf Try.f12) (by kernel_rfl) rfl (by kernel_rfl) (rs:=#[.tmp 4,.tmp 5]) rfl (by decide +kernel) (by kernel_rfl) (W12_wp v0 v1 H K) h
theorem L12_1_rule {K:AV→Heap→Prop} {N1:AV→Heap→Prop} {v2 v3 v6 v7 v8 v9 v40 v41 v45 v46 v47:AV} {H:Heap} {σ:Type} (s0:σ) (f47:σ→AV) (TH:σ→Heap) (pre:σ→Prop) (μ:σ→Nat)
    (h0:pre s0∧AV.wk v47 (f47 s0)∧Heap.le (TH s0) H)
    (round:∀s,pre s→B12_1 K N1 (fun w47 H'=>∃s',pre s'∧μ s' < μ s∧AV.wk w47 (f47 s')∧Heap.le (TH s') H') v2 v3 v6 v7 v8 v9 v40 v41 v45 v46 (f47 s) (TH s)) :
    L12_1 K N1 v2 v3 v6 v7 v8 v9 v40 v41 v45 v46 v47 H:=by
  unfold L12_1
  exact LoopV.mk s0 (fun s=>[f47 s]) TH pre μ (fun _=>rfl) (Eq.mp (by kernel_rfl) h0) (fun s hs=>Eq.mp (by kernel_rfl) (round s hs))
theorem L12_4_rule {K:AV→Heap→Prop} {N1:AV→AV→Heap→Prop} {N2:AV→AV→Heap→Prop} {v2 v6 v7 v8 v14 v15 v16 v85 v86 v87 v92 v93 v96 v97 v98:AV} {H:Heap} {σ:Type} (s0:σ) (f15:σ→AV) (f98:σ→AV) (TH:σ→Heap) (pre:σ→Prop) (μ:σ→Nat)
    (h0:pre s0∧AV.wk v15 (f15 s0)∧AV.wk v98 (f98 s0)∧Heap.le (TH s0) H)
    (round:∀s,pre s→B12_4 K N1 N2 (fun w15 w98 H'=>∃s',pre s'∧μ s' < μ s∧AV.wk w15 (f15 s')∧AV.wk w98 (f98 s')∧Heap.le (TH s') H') v2 v6 v7 v8 v14 (f15 s) v16 v85 v86 v87 v92 v93 v96 v97 (f98 s) (TH s)) :
    L12_4 K N1 N2 v2 v6 v7 v8 v14 v15 v16 v85 v86 v87 v92 v93 v96 v97 v98 H:=by
  unfold L12_4
  exact LoopV.mk s0 (fun s=>[f15 s,f98 s]) TH pre μ (fun _=>rfl) (Eq.mp (by kernel_rfl) h0) (fun s hs=>Eq.mp (by kernel_rfl) (round s hs))
theorem L12_3_rule {K:AV→Heap→Prop} {N1:AV→AV→Heap→Prop} {v2 v6 v7 v8 v14 v15 v85 v86 v87 v92 v93:AV} {H:Heap} {σ:Type} (s0:σ) (f15:σ→AV) (f93:σ→AV) (TH:σ→Heap) (pre:σ→Prop) (μ:σ→Nat)
    (h0:pre s0∧AV.wk v15 (f15 s0)∧AV.wk v93 (f93 s0)∧Heap.le (TH s0) H)
    (round:∀s,pre s→B12_3 K N1 (fun w15 w93 H'=>∃s',pre s'∧μ s' < μ s∧AV.wk w15 (f15 s')∧AV.wk w93 (f93 s')∧Heap.le (TH s') H') v2 v6 v7 v8 v14 (f15 s) v85 v86 v87 v92 (f93 s) (TH s)) :
    L12_3 K N1 v2 v6 v7 v8 v14 v15 v85 v86 v87 v92 v93 H:=by
  unfold L12_3
  exact LoopV.mk s0 (fun s=>[f15 s,f93 s]) TH pre μ (fun _=>rfl) (Eq.mp (by kernel_rfl) h0) (fun s hs=>Eq.mp (by kernel_rfl) (round s hs))
theorem L12_2_rule {K:AV→Heap→Prop} {v2 v6 v7 v8 v85 v86 v87:AV} {H:Heap} {σ:Type} (s0:σ) (f8:σ→AV) (f87:σ→AV) (TH:σ→Heap) (pre:σ→Prop) (μ:σ→Nat)
    (h0:pre s0∧AV.wk v8 (f8 s0)∧AV.wk v87 (f87 s0)∧Heap.le (TH s0) H)
    (round:∀s,pre s→B12_2 K (fun w8 w87 H'=>∃s',pre s'∧μ s' < μ s∧AV.wk w8 (f8 s')∧AV.wk w87 (f87 s')∧Heap.le (TH s') H') v2 v6 v7 (f8 s) v85 v86 (f87 s) (TH s)) :
    L12_2 K v2 v6 v7 v8 v85 v86 v87 H:=by
  unfold L12_2
  exact LoopV.mk s0 (fun s=>[f8 s,f87 s]) TH pre μ (fun _=>rfl) (Eq.mp (by kernel_rfl) h0) (fun s hs=>Eq.mp (by kernel_rfl) (round s hs))
theorem L12_0_rule {K:AV→Heap→Prop} {v2 v3 v6 v7 v8 v40 v41:AV} {H:Heap} {σ:Type} (s0:σ) (f41:σ→AV) (TH:σ→Heap) (pre:σ→Prop) (μ:σ→Nat)
    (h0:pre s0∧AV.wk v41 (f41 s0)∧Heap.le (TH s0) H)
    (round:∀s,pre s→B12_0 K (fun w41 H'=>∃s',pre s'∧μ s' < μ s∧AV.wk w41 (f41 s')∧Heap.le (TH s') H') v2 v3 v6 v7 v8 v40 (f41 s) (TH s)) :
    L12_0 K v2 v3 v6 v7 v8 v40 v41 H:=by
  unfold L12_0
  exact LoopV.mk s0 (fun s=>[f41 s]) TH pre μ (fun _=>rfl) (Eq.mp (by kernel_rfl) h0) (fun s hs=>Eq.mp (by kernel_rfl) (round s hs))
def D13:Info:=⟨12,fun i=>([],[]),fun i=>([],[])⟩
def W13 (v0:AV) (H:Heap) (K:AV→Heap→Prop):Prop:=
 allocV tab 28 H fun v2 H1=>
 allocV tab 28 H1 fun v3 H2=>
 buildV tab 56 [(0,v0)] fun v6=>
 boxV v6 H2 fun v7 H3=>
 CallT Try.prog 28 [v7,(AV.p (.int .i64 4))] H3 fun v9 H4=>
 CallT Try.prog 28 [v7,(AV.p (.int .i64 3))] H4 fun v11 H5=>
 storeV tab 28 v2 v9 H5 fun H6=>
 storeV tab 28 v3 v11 H6 fun H7=>
 loadV tab 28 v2 H7 fun r0=>
 loadV tab 28 v3 H7 fun r1=>
 K (.tup [r0,r1]) H7
theorem W13_wp (v0:AV) (H:Heap) (K:AV→Heap→Prop):wpC Try.prog tab D13 (bodyOf Try.f13) (retF tab [.cell 2 28,.cell 3 28] K) (nthA [v0]) H=W13 v0 H K:=by kernel_rfl
theorem W13_ok {v0:AV} {H:Heap} {K:AV→Heap→Prop} (h:W13 v0 H K):CallT Try.prog 13 [v0] H K:=
  CallT.of_wp (D:=D13) tab_ok mixed Try.func13 (c:=bodyOf Try.f13) (by kernel_rfl) rfl (by kernel_rfl) (rs:=#[.cell 2 28,.cell 3 28]) rfl (by decide +kernel) (by kernel_rfl) (W13_wp v0 H K) h
def D16:Info:=⟨91,fun i=>if i=6 then ([[],[0],[0,1],[0,1,2],[0,1,2,3],[0,1,2,3,4],[0,1,2,3],[0,1,2,3,6],[0,1,2,3,4,5,6,7],[0,1,2,3,4,5,6,7,8],[0,1,2,3,4,5,6,7,8,9],[0,1,2,3,4,5,6,7,8,9,10],[0,1,2,3,4,5,6,7,8,9,10,11],[0,1,2,3,4,5,6,7,8,9,10,11,12],[0,1,2,3,4,5,6,7,8,9,10,11,12,13],[0,1,2,3,4,5,6,7,8,9,10,11,12,13,14],[0,1,2,3,4,5,6,7,8,9,10,11,12,13,14,15],[0,1,2,3,4,5,6,7,8,9,10,11,12,13,14,15,16],[0,1,2,3,4,5,6,7,8,9,10,11,12,13,14,15],[0,1,2,3,4,5,6,7,8,9,10,11,12,13,14,15,18],[0,1,2,3,4,5,6,7,8,9,10,11,12,13,14,15,16,17,18,19],[0,1,2,3,4,5,6,7,8,9,10,11,12,13,14,15,16,17,18,19,20],[0,1,2,3,4,5,6,7,8,9,10,11,12,13,14,15,16,17,18,19,20,21],[0,1,2,3,4,5,6,7,8,9,10,11,12,13,14,15,16,17,18,19,20,21,22],[0,1,2,3,4,5,6,7,8,9,10,11,12,13,14,15,16,17,18,19,20,21,22,23],[0,1,2,3,4,5,6,7,8,9,10,11,12,13,14,15,16,17,18,19,20,21,22,23,24],[0,1,2,3,4,5,6,7,8,9,10,11,12,13,14,15,16,17,18,19,20,21,22,23,24,25],[0,1,2,3,4,5,6,7,8,9,10,11,12,13,14,15,16,17,18,19,20,21,22,23,24,25,26],[0,1,2,3,4,5,6,7,8,9,10,11,12,13,14,15,16,17,18,19,20,21,22,23,24,25,26,27],[0,1,2,3,4,5,6,7,8,9,10,11,12,13,14,15,16,17,18,19,20,21,22,23,24,25,26,27,28],[0,1,2,3,4,5,6,7,8,9,10,11,12,13,14,15,16,17,18,19,20,21,22,23,24,25,26,27,28,29],[0,1,2,3,4,5,6,7,8,9,10,11,12,13,14,15,16,17,18,19,20,21,22,23,24,25,26,27,28,29,30],[0,1,2,3,4,5,6,7,8,9,10,11,12,13,14,15,16,17,18,19,20,21,22,23,24,25,26,27,28,29,30,31],[0,1,2,3,4,5,6,7,8,9,10,11,12,13,14,15,16,17,18,19,20,21,22,23,24,25,26,27,28,29,30,31,32],[0,1,2,3,4,5,6,7,8,9,10,11,12,13,14,15,16,17,18,19,20,21,22,23,24,25,26,27,28,29,30,31,32,33],[0,1,2,3,4,5,6,7,8,9,10,11,12,13,14,15,16,17,18,19,20,21,22,23,24,25,26,27,28,29,30,31,32,33,34],[0,1,2,3,4,5,6,7,8,9,10,11,12,13,14,15,16,17,18,19,20,21,22,23,24,25,26,27,28,29,30,31,32,33,34,35],[0,1,2,3,4,5,6,7,8,9,10,11,12,13,14,15,16,17,18,19,20,21,22,23,24,25,26,27,28,29,30,31,32,33,34,35,36],[0,1,2,3,4,5,6,7,8,9,10,11,12,13,14,15,16,17,18,19,20,21,22,23,24,25,26,27,28,29,30,31,32,33,34,35],[0,1,2,3,4,5,6,7,8,9,10,11,12,13,14,15,16,17,18,19,20,21,22,23,24,25,26,27,28,29,30,31,32,33,34,35,38],[0,1,2,3,4,5,6,7,8,9,10,11,12,13,14,15,16,17,18,19,20,21,22,23,24,25,26,27,28,29,30,31,32,33,34,35,36,37,38,39],[0,1,2,3,4,5,6,7,8,9,10,11,12,13,14,15,16,17,18,19,20,21,22,23,24,25,26,27,28,29,30,31,32,33,34,35,36,37,38,39,40],[0,1,2,3,4,5,6,7,8,9,10,11,12,13,14,15,16,17,18,19,20,21,22,23,24,25,26,27,28,29,30,31,32,33,34,35],[0,1,2,3,4,5,6,7,8,9,10,11,12,13,14,15,16,17,18,19,20,21,22,23,24,25,26,27,28,29,30,31,32,33,34,35,36,37,38,39,40,41,42],[0,1,2,3,4,5,6,7,8,9,10,11,12,13,14,15,16,17,18,19,20,21,22,23,24,25,26,27,28,29,30,31,32,33,34,35,36,37,38,39,40,41,42,43],[0,1,2,3,4,5,6,7,8,9,10,11,12,13,14,15,16,17,18,19,20,21,22,23,24,25,26,27,28,29,30,31,32,33,34,35,36,37,38,39,40,41,42,43,44],[0,1,2,3,4,5,6,7,8,9,10,11,12,13,14,15,16,17,18,19,20,21,22,23,24,25,26,27,28,29,30,31,32,33,34,35,36,37,38,39,40,41,42,43,44,45]],[(0,[]),(1,[]),(2,[]),(3,[]),(4,[]),(5,[]),(6,[]),(7,[]),(8,[]),(9,[]),(10,[]),(11,[]),(12,[]),(13,[]),(14,[]),(15,[]),(16,[]),(17,[]),(18,[]),(19,[]),(20,[]),(21,[]),(22,[]),(23,[]),(24,[]),(25,[]),(26,[]),(27,[]),(28,[]),(29,[]),(30,[]),(31,[]),(32,[]),(33,[]),(34,[]),(35,[]),(36,[]),(37,[]),(38,[]),(39,[]),(40,[]),(41,[]),(42,[]),(43,[]),(44,[]),(45,[]),(46,[])]) else ([],[]),fun i=>if i=4 then ([1,36,37],[38]) else ([],[])⟩
def L16_0 (K:AV→Heap→Prop) (v1:AV) (v36:AV) (v37:AV) (v38:AV) (H:Heap):Prop:=LoopV (wpC Try.prog tab D16 (cAt [1,1,0,1,0,0] (bodyOf Try.f16))) [1,36,37] (PostF.block 0 (PostF.thenA (wpC Try.prog tab D16 (cAt [1,1,1] (bodyOf Try.f16))) (retF tab [.tmp 2] K))) [38] [AV.any,v1,AV.any,AV.any,AV.any,AV.any,AV.any,AV.any,AV.any,AV.any,AV.any,AV.any,AV.any,AV.any,AV.any,AV.any,AV.any,AV.any,AV.any,AV.any,AV.any,AV.any,AV.any,AV.any,AV.any,AV.any,AV.any,AV.any,AV.any,AV.any,AV.any,AV.any,AV.any,AV.any,AV.any,AV.any,v36,v37,v38,AV.any,AV.any,AV.any,AV.any,AV.any,AV.any,AV.any,AV.any,AV.any,AV.any,AV.any,AV.any,AV.any,AV.any,AV.any,AV.any,AV.any,AV.any,AV.any,AV.any,AV.any,AV.any,AV.any,AV.any,AV.any,AV.any,AV.any,AV.any,AV.any,AV.any,AV.any,AV.any,AV.any,AV.any,AV.any,AV.any,AV.any,AV.any,AV.any,AV.any,AV.any,AV.any,AV.any,AV.any,AV.any,AV.any,AV.any,AV.any,AV.any,AV.any,AV.any,AV.any] H
def B16_0 (K:AV→Heap→Prop) (N1:AV→Heap→Prop) (v1:AV) (v36:AV) (v37:AV) (v38:AV) (H:Heap):Prop:=
 binV tab .lss 3 v38 v37 fun v39=>
 condV v39 (indexAddrV tab 25 v36 v38 fun v41=>
 loadV tab 46 v41 H fun v42=>
 allocV tab 46 H fun v4 H4=>
 storeV tab 46 v4 v42 H4 fun H5=>
 fieldAddrV tab 46 v4 0 fun v43=>
 loadV tab 3 v43 H5 fun v44=>
 binV tab .lss 3 v44 (AV.p (.int .i64 0)) fun v45=>
 grdV v45 false (fieldAddrV tab 46 v4 0 fun v47=>
 loadV tab 3 v47 H5 fun v48=>
 fieldAddrV tab 28 v1 0 fun v49=>
 loadV tab 3 v49 H5 fun v50=>
 binV tab .geq 3 v48 v50 fun v51=>
 grdV v51 false (fieldAddrV tab 46 v4 2 fun v54=>
 loadV tab 3 v54 H5 fun v55=>
 binV tab .lss 3 v55 (AV.p (.int .i64 0)) fun v56=>
 grdV v56 false (fieldAddrV tab 46 v4 2 fun v59=>
 loadV tab 3 v59 H5 fun v60=>
 fieldAddrV tab 28 v1 0 fun v61=>
 loadV tab 3 v61 H5 fun v62=>
 binV tab .geq 3 v60 v62 fun v63=>
 grdV v63 false (fieldAddrV tab 46 v4 1 fun v66=>
 loadV tab 3 v66 H5 fun v67=>
 binV tab .lss 3 v67 (AV.p (.int .i64 0)) fun v68=>
 grdV v68 false (fieldAddrV tab 46 v4 1 fun v71=>
 loadV tab 3 v71 H5 fun v72=>
 binV tab .geq 3 v72 (AV.p (.int .i64 8)) fun v73=>
 grdV v73 false (binV tab .gtr 3 v38 (AV.p (.int .i64 0)) fun v77=>
 grdV v77 true (fieldAddrV tab 28 v1 2 fun v79=>
 loadV tab 25 v79 H5 fun v80=>
 binV tab .sub 3 v38 (AV.p (.int .i64 1)) fun v82=>
 indexAddrV tab 25 v80 v82 fun v83=>
 loadV tab 46 v83 H5 fun v84=>
 loadV tab 46 v4 H5 fun v85=>
 CallT Try.prog 44 [v84,v85] H5 fun v86 H6=>
 binV tab .geq 3 v86 (AV.p (.int .i64 0)) fun v87=>
 condV v87 (K (AV.p (.bool false)) H6)
 (binV tab .add 3 v38 (AV.p (.int .i64 1)) fun v90=>
 N1 v90 H6))
 (binV tab .add 3 v38 (AV.p (.int .i64 1)) fun v90=>
 N1 v90 H5))
 (K (AV.p (.bool false)) H5))
 (K (AV.p (.bool false)) H5))
 (K (AV.p (.bool false)) H5))
 (K (AV.p (.bool false)) H5))
 (K (AV.p (.bool false)) H5))
 (K (AV.p (.bool false)) H5))
 (K (AV.p (.bool true)) H)
def W16 (v0:AV) (H:Heap) (K:AV→Heap→Prop):Prop:=
 boxV v0 H fun v1 H1=>
 fieldAddrV tab 28 v1 0 fun v5=>
 loadV tab 3 v5 H1 fun v6=>
 binV tab .lss 3 v6 (AV.p (.int .i64 1)) fun v7=>
 grdV v7 false (fieldAddrV tab 28 v1 0 fun v9=>
 loadV tab 3 v9 H1 fun v10=>
 binV tab .gtr 3 v10 (AV.p (.int .i64 96)) fun v11=>
 grdV v11 false (fieldAddrV tab 28 v1 1 fun v14=>
 loadV tab 24 v14 H1 fun v15=>
 fieldAddrV tab 28 v1 0 fun v16=>
 loadV tab 3 v16 H1 fun v17=>
 CallT Try.prog 42 [v15,v17] H1 fun v18 H2=>
 unV .not v18 fun v19=>
 grdV v19 false (fieldAddrV tab 28 v1 2 fun v22=>
 loadV tab 25 v22 H2 fun v23=>
 lenV tab 25 v23 fun v24=>
 binV tab .gtr 3 v24 (AV.p (.int .i64 2400)) fun v25=>
 grdV v25 false (fieldAddrV tab 28 v1 3 fun v28=>
 loadV tab 26 v28 H2 fun v29=>
 fieldAddrV tab 28 v1 0 fun v30=>
 loadV tab 3 v30 H2 fun v31=>
 CallT Try.prog 43 [v29,v31] H2 fun v32 H3=>
 unV .not v32 fun v33=>
 condV v33 (K (AV.p (.bool false)) H3)
 (fieldAddrV tab 28 v1 2 fun v35=>
 loadV tab 25 v35 H3 fun v36=>
 lenV tab 25 v36 fun v37=>
 L16_0 K v1 v36 v37 (AV.p (.int .i64 0)) H3))
 (K (AV.p (.bool false)) H2))
 (K (AV.p (.bool false)) H2))
 (K (AV.p (.bool false)) H1))
 (K (AV.p (.bool false)) H1)
theorem W16_wp (v0:AV) (H:Heap) (K:AV→Heap→Prop):wpC Try.prog tab D16 (bodyOf Try.f16) (retF tab [.tmp 2] K) (nthA [v0]) H=W16 v0 H K:=by kernel_rfl
theorem W16_ok {v0:AV} {H:Heap} {K:AV→Heap→Prop} (h:W16 v0 H K):CallT Try.prog 16 [v0] H K:=
  CallT.of_wp (D:=D16) tab_ok mixed Try.func16 (c:=bodyOf Try.f16) (by kernel_rfl) rfl (by kernel_rfl) (rs:=#[.tmp 2]) rfl (by decide +kernel) (by kernel_rfl) (W16_wp v0 H K) h
theorem L16_0_rule {K:AV→Heap→Prop} {v1 v36 v37 v38:AV} {H:Heap} {σ:Type} (s0:σ) (f38:σ→AV) (TH:σ→Heap) (pre:σ→Prop) (μ:σ→Nat)
    (h0:pre s0∧AV.wk v38 (f38 s0)∧Heap.le (TH s0) H)
    (round:∀s,pre s→B16_0 K (fun w38 H'=>∃s',pre s'∧μ s' < μ s∧AV.wk w38 (f38 s')∧Heap.le (TH s') H') v1 v36 v37 (f38 s) (TH s)) :
    L16_0 K v1 v36 v37 v38 H:=by
  unfold L16_0
  exact LoopV.mk s0 (fun s=>[f38 s]) TH pre μ (fun _=>rfl) (Eq.mp (by kernel_rfl) h0) (fun s hs=>Eq.mp (by kernel_rfl) (round s hs))
end Go.Proofs.Ytohkciilfkhomaa
