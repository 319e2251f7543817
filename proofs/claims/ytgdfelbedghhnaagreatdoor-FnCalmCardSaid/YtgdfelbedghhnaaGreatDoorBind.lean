/- That the program's functions are their abstract code: each by the kernel. -/
import Derived.Test.YtgdfelbedghhnaaGreatDoorB9
import Derived.Test.YtgdfelbedghhnaaGreatDoorCode
import Derived.Test.YtgdfelbedghhnaaGreatDoorSrts
import Derived.Test.YtgdfelbedghhnaaGreatDoorChecked
import Derived.KernelRfl
namespace Go.Proofs.YtgdfelbedghhnaaGreatDoor
open Go
set_option maxRecDepth 100000
/-- Our numbers, and the program's. -/
def numL:List (Nat×Nat):=[(1,29),(2,30),(6,75),(7,66),(11,76),(12,67),(14,82),(15,164),(18,80),(20,120),(23,37),(24,32),(28,38),(29,34),(31,52),(32,60),(33,24),(34,61),(35,49),(36,48),(41,41),(44,93),(54,70),(57,20),(58,15),(61,46),(64,97),(66,11),(67,12),(68,13),(69,14),(70,50),(72,62),(73,23),(76,47),(77,98),(81,101),(82,105),(84,102),(85,43),(87,99),(88,104),(89,18),(91,16),(92,108),(93,182),(94,183),(95,129),(99,65),(100,63),(101,64),(102,33),(105,74),(106,73),(110,69),(111,68),(113,78),(114,77),(117,40),(118,51),(119,53),(120,55),(121,54),(122,39),(136,126),(137,83),(138,31),(139,128),(140,100),(142,127),(144,103),(145,58),(155,72),(157,71),(159,166),(160,130),(161,163),(182,81),(194,123),(197,7),(204,22),(205,42),(206,44),(207,45),(210,5),(215,10),(216,25),(217,26),(218,79),(219,84),(223,21),(226,125),(227,28),(228,57),(229,56),(232,59),(233,94),(234,95),(235,96),(236,119),(237,122),(238,121),(239,124),(240,162),(241,165),(251,9),(313,6),(319,3),(320,8),(321,4),(324,19),(325,27),(326,35),(327,17),(328,36),(222,87),(220,88),(230,107),(231,106),(221,89),(183,92),(1183,24),(184,91),(1184,23),(247,86),(1247,54),(248,109),(1248,55),(310,85)]
def num(k:Nat):Option FuncId:=numL.lookup k
theorem chk1:chkFn Tryz.prog num Tryz.f29 c1=true:=by kernel_rfl
theorem chk2:chkFn Tryz.prog num Tryz.f30 c2=true:=by kernel_rfl
theorem chk6:chkFn Tryz.prog num Tryz.f75 c6=true:=by kernel_rfl
theorem chk7:chkFn Tryz.prog num Tryz.f66 c7=true:=by kernel_rfl
theorem chk11:chkFn Tryz.prog num Tryz.f76 c11=true:=by kernel_rfl
theorem chk12:chkFn Tryz.prog num Tryz.f67 c12=true:=by kernel_rfl
theorem chk14:chkFn Tryz.prog num Tryz.f82 c14=true:=by kernel_rfl
theorem chk15:chkFn Tryz.prog num Tryz.f164 c15=true:=by kernel_rfl
theorem chk18:chkFn Tryz.prog num Tryz.f80 c18=true:=by kernel_rfl
theorem chk20:chkFn Tryz.prog num Tryz.f120 c20=true:=by kernel_rfl
theorem chk23:chkFn Tryz.prog num Tryz.f37 c23=true:=by kernel_rfl
theorem chk24:chkFn Tryz.prog num Tryz.f32 c24=true:=by kernel_rfl
theorem chk28:chkFn Tryz.prog num Tryz.f38 c28=true:=by kernel_rfl
theorem chk29:chkFn Tryz.prog num Tryz.f34 c29=true:=by kernel_rfl
theorem chk31:chkFn Tryz.prog num Tryz.f52 c31=true:=by kernel_rfl
theorem chk32:chkFn Tryz.prog num Tryz.f60 c32=true:=by kernel_rfl
theorem chk33:chkFn Tryz.prog num Tryz.f24 c33=true:=by kernel_rfl
theorem chk34:chkFn Tryz.prog num Tryz.f61 c34=true:=by kernel_rfl
theorem chk35:chkFn Tryz.prog num Tryz.f49 c35=true:=by kernel_rfl
theorem chk36:chkFn Tryz.prog num Tryz.f48 c36=true:=by kernel_rfl
theorem chk41:chkFn Tryz.prog num Tryz.f41 c41=true:=by kernel_rfl
theorem chk44:chkFn Tryz.prog num Tryz.f93 c44=true:=by kernel_rfl
theorem chk54:chkFn Tryz.prog num Tryz.f70 c54=true:=by kernel_rfl
theorem chk57:chkFn Tryz.prog num Tryz.f20 c57=true:=by kernel_rfl
theorem chk58:chkFn Tryz.prog num Tryz.f15 c58=true:=by kernel_rfl
theorem chk61:chkFn Tryz.prog num Tryz.f46 c61=true:=by kernel_rfl
theorem chk64:chkFn Tryz.prog num Tryz.f97 c64=true:=by kernel_rfl
theorem chk66:chkFn Tryz.prog num Tryz.f11 c66=true:=by kernel_rfl
theorem chk67:chkFn Tryz.prog num Tryz.f12 c67=true:=by kernel_rfl
theorem chk68:chkFn Tryz.prog num Tryz.f13 c68=true:=by kernel_rfl
theorem chk69:chkFn Tryz.prog num Tryz.f14 c69=true:=by kernel_rfl
theorem chk70:chkFn Tryz.prog num Tryz.f50 c70=true:=by kernel_rfl
theorem chk72:chkFn Tryz.prog num Tryz.f62 c72=true:=by kernel_rfl
theorem chk73:chkFn Tryz.prog num Tryz.f23 c73=true:=by kernel_rfl
theorem chk76:chkFn Tryz.prog num Tryz.f47 c76=true:=by kernel_rfl
theorem chk77:chkFn Tryz.prog num Tryz.f98 c77=true:=by kernel_rfl
theorem chk81:chkFn Tryz.prog num Tryz.f101 c81=true:=by kernel_rfl
theorem chk82:chkFn Tryz.prog num Tryz.f105 c82=true:=by kernel_rfl
theorem chk84:chkFn Tryz.prog num Tryz.f102 c84=true:=by kernel_rfl
theorem chk85:chkFn Tryz.prog num Tryz.f43 c85=true:=by kernel_rfl
theorem chk87:chkFn Tryz.prog num Tryz.f99 c87=true:=by kernel_rfl
theorem chk88:chkFn Tryz.prog num Tryz.f104 c88=true:=by kernel_rfl
theorem chk89:chkFn Tryz.prog num Tryz.f18 c89=true:=by kernel_rfl
theorem chk91:chkFn Tryz.prog num Tryz.f16 c91=true:=by kernel_rfl
theorem chk92:chkFn Tryz.prog num Tryz.f108 c92=true:=by kernel_rfl
theorem chk93:chkFn Tryz.prog num Tryz.f182 c93=true:=by kernel_rfl
theorem chk94:chkFn Tryz.prog num Tryz.f183 c94=true:=by kernel_rfl
theorem chk95:chkFn Tryz.prog num Tryz.f129 c95=true:=by kernel_rfl
theorem chk99:chkFn Tryz.prog num Tryz.f65 c99=true:=by kernel_rfl
theorem chk100:chkFn Tryz.prog num Tryz.f63 c100=true:=by kernel_rfl
theorem chk101:chkFn Tryz.prog num Tryz.f64 c101=true:=by kernel_rfl
theorem chk102:chkFn Tryz.prog num Tryz.f33 c102=true:=by kernel_rfl
theorem chk105:chkFn Tryz.prog num Tryz.f74 c105=true:=by kernel_rfl
theorem chk106:chkFn Tryz.prog num Tryz.f73 c106=true:=by kernel_rfl
theorem chk110:chkFn Tryz.prog num Tryz.f69 c110=true:=by kernel_rfl
theorem chk111:chkFn Tryz.prog num Tryz.f68 c111=true:=by kernel_rfl
theorem chk113:chkFn Tryz.prog num Tryz.f78 c113=true:=by kernel_rfl
theorem chk114:chkFn Tryz.prog num Tryz.f77 c114=true:=by kernel_rfl
theorem chk117:chkFn Tryz.prog num Tryz.f40 c117=true:=by kernel_rfl
theorem chk118:chkFn Tryz.prog num Tryz.f51 c118=true:=by kernel_rfl
theorem chk119:chkFn Tryz.prog num Tryz.f53 c119=true:=by kernel_rfl
theorem chk120:chkFn Tryz.prog num Tryz.f55 c120=true:=by kernel_rfl
theorem chk121:chkFn Tryz.prog num Tryz.f54 c121=true:=by kernel_rfl
theorem chk122:chkFn Tryz.prog num Tryz.f39 c122=true:=by kernel_rfl
theorem chk136:chkFn Tryz.prog num Tryz.f126 c136=true:=by kernel_rfl
theorem chk137:chkFn Tryz.prog num Tryz.f83 c137=true:=by kernel_rfl
theorem chk138:chkFn Tryz.prog num Tryz.f31 c138=true:=by kernel_rfl
theorem chk139:chkFn Tryz.prog num Tryz.f128 c139=true:=by kernel_rfl
theorem chk140:chkFn Tryz.prog num Tryz.f100 c140=true:=by kernel_rfl
theorem chk142:chkFn Tryz.prog num Tryz.f127 c142=true:=by kernel_rfl
theorem chk144:chkFn Tryz.prog num Tryz.f103 c144=true:=by kernel_rfl
theorem chk145:chkFn Tryz.prog num Tryz.f58 c145=true:=by kernel_rfl
theorem chk155:chkFn Tryz.prog num Tryz.f72 c155=true:=by kernel_rfl
theorem chk157:chkFn Tryz.prog num Tryz.f71 c157=true:=by kernel_rfl
theorem chk159:chkFn Tryz.prog num Tryz.f166 c159=true:=by kernel_rfl
theorem chk160:chkFn Tryz.prog num Tryz.f130 c160=true:=by kernel_rfl
theorem chk161:chkFn Tryz.prog num Tryz.f163 c161=true:=by kernel_rfl
theorem chk182:chkFn Tryz.prog num Tryz.f81 c182=true:=by kernel_rfl
theorem chk194:chkFn Tryz.prog num Tryz.f123 c194=true:=by kernel_rfl
theorem chk197:chkFn Tryz.prog num Tryz.f7 c197=true:=by kernel_rfl
theorem chk204:chkFn Tryz.prog num Tryz.f22 c204=true:=by kernel_rfl
theorem chk205:chkFn Tryz.prog num Tryz.f42 c205=true:=by kernel_rfl
theorem chk206:chkFn Tryz.prog num Tryz.f44 c206=true:=by kernel_rfl
theorem chk207:chkFn Tryz.prog num Tryz.f45 c207=true:=by kernel_rfl
theorem chk210:chkFn Tryz.prog num Tryz.f5 c210=true:=by kernel_rfl
theorem chk215:chkFn Tryz.prog num Tryz.f10 c215=true:=by kernel_rfl
theorem chk216:chkFn Tryz.prog num Tryz.f25 c216=true:=by kernel_rfl
theorem chk217:chkFn Tryz.prog num Tryz.f26 c217=true:=by kernel_rfl
theorem chk218:chkFn Tryz.prog num Tryz.f79 c218=true:=by kernel_rfl
theorem chk219:chkFn Tryz.prog num Tryz.f84 c219=true:=by kernel_rfl
theorem chk223:chkFn Tryz.prog num Tryz.f21 c223=true:=by kernel_rfl
theorem chk226:chkFn Tryz.prog num Tryz.f125 c226=true:=by kernel_rfl
theorem chk227:chkFn Tryz.prog num Tryz.f28 c227=true:=by kernel_rfl
theorem chk228:chkFn Tryz.prog num Tryz.f57 c228=true:=by kernel_rfl
theorem chk229:chkFn Tryz.prog num Tryz.f56 c229=true:=by kernel_rfl
theorem chk232:chkFn Tryz.prog num Tryz.f59 c232=true:=by kernel_rfl
theorem chk233:chkFn Tryz.prog num Tryz.f94 c233=true:=by kernel_rfl
theorem chk234:chkFn Tryz.prog num Tryz.f95 c234=true:=by kernel_rfl
theorem chk235:chkFn Tryz.prog num Tryz.f96 c235=true:=by kernel_rfl
theorem chk236:chkFn Tryz.prog num Tryz.f119 c236=true:=by kernel_rfl
theorem chk237:chkFn Tryz.prog num Tryz.f122 c237=true:=by kernel_rfl
theorem chk238:chkFn Tryz.prog num Tryz.f121 c238=true:=by kernel_rfl
theorem chk239:chkFn Tryz.prog num Tryz.f124 c239=true:=by kernel_rfl
theorem chk240:chkFn Tryz.prog num Tryz.f162 c240=true:=by kernel_rfl
theorem chk241:chkFn Tryz.prog num Tryz.f165 c241=true:=by kernel_rfl
theorem chk251:chkFn Tryz.prog num Tryz.f9 c251=true:=by kernel_rfl
theorem chk313:chkFn Tryz.prog num Tryz.f6 c313=true:=by kernel_rfl
theorem chk319:chkFn Tryz.prog num Tryz.f3 c319=true:=by kernel_rfl
theorem chk320:chkFn Tryz.prog num Tryz.f8 c320=true:=by kernel_rfl
theorem chk321:chkFn Tryz.prog num Tryz.f4 c321=true:=by kernel_rfl
theorem chk324:chkFn Tryz.prog num Tryz.f19 c324=true:=by kernel_rfl
theorem chk325:chkFn Tryz.prog num Tryz.f27 c325=true:=by kernel_rfl
theorem chk326:chkFn Tryz.prog num Tryz.f35 c326=true:=by kernel_rfl
theorem chk327:chkFn Tryz.prog num Tryz.f17 c327=true:=by kernel_rfl
theorem chk328:chkFn Tryz.prog num Tryz.f36 c328=true:=by kernel_rfl
theorem fnsOk:∀ k c,codeOf k=some c->∀ f,num k=some f->∃ fn,Tryz.prog.funcs[f]?=some fn/\chkFn Tryz.prog num fn c=true:=by
 intro k c hk f hf
 unfold codeOf at hk
 split at hk
 ·obtain rfl:=Option.some.inj hk;obtain rfl:29=f:=Option.some.inj hf;exact⟨_,Tryz.func29,chk1⟩
 ·obtain rfl:=Option.some.inj hk;obtain rfl:30=f:=Option.some.inj hf;exact⟨_,Tryz.func30,chk2⟩
 ·obtain rfl:=Option.some.inj hk;obtain rfl:75=f:=Option.some.inj hf;exact⟨_,Tryz.func75,chk6⟩
 ·obtain rfl:=Option.some.inj hk;obtain rfl:66=f:=Option.some.inj hf;exact⟨_,Tryz.func66,chk7⟩
 ·obtain rfl:=Option.some.inj hk;obtain rfl:76=f:=Option.some.inj hf;exact⟨_,Tryz.func76,chk11⟩
 ·obtain rfl:=Option.some.inj hk;obtain rfl:67=f:=Option.some.inj hf;exact⟨_,Tryz.func67,chk12⟩
 ·obtain rfl:=Option.some.inj hk;obtain rfl:82=f:=Option.some.inj hf;exact⟨_,Tryz.func82,chk14⟩
 ·obtain rfl:=Option.some.inj hk;obtain rfl:164=f:=Option.some.inj hf;exact⟨_,Tryz.func164,chk15⟩
 ·obtain rfl:=Option.some.inj hk;obtain rfl:80=f:=Option.some.inj hf;exact⟨_,Tryz.func80,chk18⟩
 ·obtain rfl:=Option.some.inj hk;obtain rfl:120=f:=Option.some.inj hf;exact⟨_,Tryz.func120,chk20⟩
 ·obtain rfl:=Option.some.inj hk;obtain rfl:37=f:=Option.some.inj hf;exact⟨_,Tryz.func37,chk23⟩
 ·obtain rfl:=Option.some.inj hk;obtain rfl:32=f:=Option.some.inj hf;exact⟨_,Tryz.func32,chk24⟩
 ·obtain rfl:=Option.some.inj hk;obtain rfl:38=f:=Option.some.inj hf;exact⟨_,Tryz.func38,chk28⟩
 ·obtain rfl:=Option.some.inj hk;obtain rfl:34=f:=Option.some.inj hf;exact⟨_,Tryz.func34,chk29⟩
 ·obtain rfl:=Option.some.inj hk;obtain rfl:52=f:=Option.some.inj hf;exact⟨_,Tryz.func52,chk31⟩
 ·obtain rfl:=Option.some.inj hk;obtain rfl:60=f:=Option.some.inj hf;exact⟨_,Tryz.func60,chk32⟩
 ·obtain rfl:=Option.some.inj hk;obtain rfl:24=f:=Option.some.inj hf;exact⟨_,Tryz.func24,chk33⟩
 ·obtain rfl:=Option.some.inj hk;obtain rfl:61=f:=Option.some.inj hf;exact⟨_,Tryz.func61,chk34⟩
 ·obtain rfl:=Option.some.inj hk;obtain rfl:49=f:=Option.some.inj hf;exact⟨_,Tryz.func49,chk35⟩
 ·obtain rfl:=Option.some.inj hk;obtain rfl:48=f:=Option.some.inj hf;exact⟨_,Tryz.func48,chk36⟩
 ·obtain rfl:=Option.some.inj hk;obtain rfl:41=f:=Option.some.inj hf;exact⟨_,Tryz.func41,chk41⟩
 ·obtain rfl:=Option.some.inj hk;obtain rfl:93=f:=Option.some.inj hf;exact⟨_,Tryz.func93,chk44⟩
 ·obtain rfl:=Option.some.inj hk;obtain rfl:70=f:=Option.some.inj hf;exact⟨_,Tryz.func70,chk54⟩
 ·obtain rfl:=Option.some.inj hk;obtain rfl:20=f:=Option.some.inj hf;exact⟨_,Tryz.func20,chk57⟩
 ·obtain rfl:=Option.some.inj hk;obtain rfl:15=f:=Option.some.inj hf;exact⟨_,Tryz.func15,chk58⟩
 ·obtain rfl:=Option.some.inj hk;obtain rfl:46=f:=Option.some.inj hf;exact⟨_,Tryz.func46,chk61⟩
 ·obtain rfl:=Option.some.inj hk;obtain rfl:97=f:=Option.some.inj hf;exact⟨_,Tryz.func97,chk64⟩
 ·obtain rfl:=Option.some.inj hk;obtain rfl:11=f:=Option.some.inj hf;exact⟨_,Tryz.func11,chk66⟩
 ·obtain rfl:=Option.some.inj hk;obtain rfl:12=f:=Option.some.inj hf;exact⟨_,Tryz.func12,chk67⟩
 ·obtain rfl:=Option.some.inj hk;obtain rfl:13=f:=Option.some.inj hf;exact⟨_,Tryz.func13,chk68⟩
 ·obtain rfl:=Option.some.inj hk;obtain rfl:14=f:=Option.some.inj hf;exact⟨_,Tryz.func14,chk69⟩
 ·obtain rfl:=Option.some.inj hk;obtain rfl:50=f:=Option.some.inj hf;exact⟨_,Tryz.func50,chk70⟩
 ·obtain rfl:=Option.some.inj hk;obtain rfl:62=f:=Option.some.inj hf;exact⟨_,Tryz.func62,chk72⟩
 ·obtain rfl:=Option.some.inj hk;obtain rfl:23=f:=Option.some.inj hf;exact⟨_,Tryz.func23,chk73⟩
 ·obtain rfl:=Option.some.inj hk;obtain rfl:47=f:=Option.some.inj hf;exact⟨_,Tryz.func47,chk76⟩
 ·obtain rfl:=Option.some.inj hk;obtain rfl:98=f:=Option.some.inj hf;exact⟨_,Tryz.func98,chk77⟩
 ·obtain rfl:=Option.some.inj hk;obtain rfl:101=f:=Option.some.inj hf;exact⟨_,Tryz.func101,chk81⟩
 ·obtain rfl:=Option.some.inj hk;obtain rfl:105=f:=Option.some.inj hf;exact⟨_,Tryz.func105,chk82⟩
 ·obtain rfl:=Option.some.inj hk;obtain rfl:102=f:=Option.some.inj hf;exact⟨_,Tryz.func102,chk84⟩
 ·obtain rfl:=Option.some.inj hk;obtain rfl:43=f:=Option.some.inj hf;exact⟨_,Tryz.func43,chk85⟩
 ·obtain rfl:=Option.some.inj hk;obtain rfl:99=f:=Option.some.inj hf;exact⟨_,Tryz.func99,chk87⟩
 ·obtain rfl:=Option.some.inj hk;obtain rfl:104=f:=Option.some.inj hf;exact⟨_,Tryz.func104,chk88⟩
 ·obtain rfl:=Option.some.inj hk;obtain rfl:18=f:=Option.some.inj hf;exact⟨_,Tryz.func18,chk89⟩
 ·obtain rfl:=Option.some.inj hk;obtain rfl:16=f:=Option.some.inj hf;exact⟨_,Tryz.func16,chk91⟩
 ·obtain rfl:=Option.some.inj hk;obtain rfl:108=f:=Option.some.inj hf;exact⟨_,Tryz.func108,chk92⟩
 ·obtain rfl:=Option.some.inj hk;obtain rfl:182=f:=Option.some.inj hf;exact⟨_,Tryz.func182,chk93⟩
 ·obtain rfl:=Option.some.inj hk;obtain rfl:183=f:=Option.some.inj hf;exact⟨_,Tryz.func183,chk94⟩
 ·obtain rfl:=Option.some.inj hk;obtain rfl:129=f:=Option.some.inj hf;exact⟨_,Tryz.func129,chk95⟩
 ·obtain rfl:=Option.some.inj hk;obtain rfl:65=f:=Option.some.inj hf;exact⟨_,Tryz.func65,chk99⟩
 ·obtain rfl:=Option.some.inj hk;obtain rfl:63=f:=Option.some.inj hf;exact⟨_,Tryz.func63,chk100⟩
 ·obtain rfl:=Option.some.inj hk;obtain rfl:64=f:=Option.some.inj hf;exact⟨_,Tryz.func64,chk101⟩
 ·obtain rfl:=Option.some.inj hk;obtain rfl:33=f:=Option.some.inj hf;exact⟨_,Tryz.func33,chk102⟩
 ·obtain rfl:=Option.some.inj hk;obtain rfl:74=f:=Option.some.inj hf;exact⟨_,Tryz.func74,chk105⟩
 ·obtain rfl:=Option.some.inj hk;obtain rfl:73=f:=Option.some.inj hf;exact⟨_,Tryz.func73,chk106⟩
 ·obtain rfl:=Option.some.inj hk;obtain rfl:69=f:=Option.some.inj hf;exact⟨_,Tryz.func69,chk110⟩
 ·obtain rfl:=Option.some.inj hk;obtain rfl:68=f:=Option.some.inj hf;exact⟨_,Tryz.func68,chk111⟩
 ·obtain rfl:=Option.some.inj hk;obtain rfl:78=f:=Option.some.inj hf;exact⟨_,Tryz.func78,chk113⟩
 ·obtain rfl:=Option.some.inj hk;obtain rfl:77=f:=Option.some.inj hf;exact⟨_,Tryz.func77,chk114⟩
 ·obtain rfl:=Option.some.inj hk;obtain rfl:40=f:=Option.some.inj hf;exact⟨_,Tryz.func40,chk117⟩
 ·obtain rfl:=Option.some.inj hk;obtain rfl:51=f:=Option.some.inj hf;exact⟨_,Tryz.func51,chk118⟩
 ·obtain rfl:=Option.some.inj hk;obtain rfl:53=f:=Option.some.inj hf;exact⟨_,Tryz.func53,chk119⟩
 ·obtain rfl:=Option.some.inj hk;obtain rfl:55=f:=Option.some.inj hf;exact⟨_,Tryz.func55,chk120⟩
 ·obtain rfl:=Option.some.inj hk;obtain rfl:54=f:=Option.some.inj hf;exact⟨_,Tryz.func54,chk121⟩
 ·obtain rfl:=Option.some.inj hk;obtain rfl:39=f:=Option.some.inj hf;exact⟨_,Tryz.func39,chk122⟩
 ·obtain rfl:=Option.some.inj hk;obtain rfl:126=f:=Option.some.inj hf;exact⟨_,Tryz.func126,chk136⟩
 ·obtain rfl:=Option.some.inj hk;obtain rfl:83=f:=Option.some.inj hf;exact⟨_,Tryz.func83,chk137⟩
 ·obtain rfl:=Option.some.inj hk;obtain rfl:31=f:=Option.some.inj hf;exact⟨_,Tryz.func31,chk138⟩
 ·obtain rfl:=Option.some.inj hk;obtain rfl:128=f:=Option.some.inj hf;exact⟨_,Tryz.func128,chk139⟩
 ·obtain rfl:=Option.some.inj hk;obtain rfl:100=f:=Option.some.inj hf;exact⟨_,Tryz.func100,chk140⟩
 ·obtain rfl:=Option.some.inj hk;obtain rfl:127=f:=Option.some.inj hf;exact⟨_,Tryz.func127,chk142⟩
 ·obtain rfl:=Option.some.inj hk;obtain rfl:103=f:=Option.some.inj hf;exact⟨_,Tryz.func103,chk144⟩
 ·obtain rfl:=Option.some.inj hk;obtain rfl:58=f:=Option.some.inj hf;exact⟨_,Tryz.func58,chk145⟩
 ·obtain rfl:=Option.some.inj hk;obtain rfl:72=f:=Option.some.inj hf;exact⟨_,Tryz.func72,chk155⟩
 ·obtain rfl:=Option.some.inj hk;obtain rfl:71=f:=Option.some.inj hf;exact⟨_,Tryz.func71,chk157⟩
 ·obtain rfl:=Option.some.inj hk;obtain rfl:166=f:=Option.some.inj hf;exact⟨_,Tryz.func166,chk159⟩
 ·obtain rfl:=Option.some.inj hk;obtain rfl:130=f:=Option.some.inj hf;exact⟨_,Tryz.func130,chk160⟩
 ·obtain rfl:=Option.some.inj hk;obtain rfl:163=f:=Option.some.inj hf;exact⟨_,Tryz.func163,chk161⟩
 ·obtain rfl:=Option.some.inj hk;obtain rfl:81=f:=Option.some.inj hf;exact⟨_,Tryz.func81,chk182⟩
 ·obtain rfl:=Option.some.inj hk;obtain rfl:123=f:=Option.some.inj hf;exact⟨_,Tryz.func123,chk194⟩
 ·obtain rfl:=Option.some.inj hk;obtain rfl:7=f:=Option.some.inj hf;exact⟨_,Tryz.func7,chk197⟩
 ·obtain rfl:=Option.some.inj hk;obtain rfl:22=f:=Option.some.inj hf;exact⟨_,Tryz.func22,chk204⟩
 ·obtain rfl:=Option.some.inj hk;obtain rfl:42=f:=Option.some.inj hf;exact⟨_,Tryz.func42,chk205⟩
 ·obtain rfl:=Option.some.inj hk;obtain rfl:44=f:=Option.some.inj hf;exact⟨_,Tryz.func44,chk206⟩
 ·obtain rfl:=Option.some.inj hk;obtain rfl:45=f:=Option.some.inj hf;exact⟨_,Tryz.func45,chk207⟩
 ·obtain rfl:=Option.some.inj hk;obtain rfl:5=f:=Option.some.inj hf;exact⟨_,Tryz.func5,chk210⟩
 ·obtain rfl:=Option.some.inj hk;obtain rfl:10=f:=Option.some.inj hf;exact⟨_,Tryz.func10,chk215⟩
 ·obtain rfl:=Option.some.inj hk;obtain rfl:25=f:=Option.some.inj hf;exact⟨_,Tryz.func25,chk216⟩
 ·obtain rfl:=Option.some.inj hk;obtain rfl:26=f:=Option.some.inj hf;exact⟨_,Tryz.func26,chk217⟩
 ·obtain rfl:=Option.some.inj hk;obtain rfl:79=f:=Option.some.inj hf;exact⟨_,Tryz.func79,chk218⟩
 ·obtain rfl:=Option.some.inj hk;obtain rfl:84=f:=Option.some.inj hf;exact⟨_,Tryz.func84,chk219⟩
 ·obtain rfl:=Option.some.inj hk;obtain rfl:21=f:=Option.some.inj hf;exact⟨_,Tryz.func21,chk223⟩
 ·obtain rfl:=Option.some.inj hk;obtain rfl:125=f:=Option.some.inj hf;exact⟨_,Tryz.func125,chk226⟩
 ·obtain rfl:=Option.some.inj hk;obtain rfl:28=f:=Option.some.inj hf;exact⟨_,Tryz.func28,chk227⟩
 ·obtain rfl:=Option.some.inj hk;obtain rfl:57=f:=Option.some.inj hf;exact⟨_,Tryz.func57,chk228⟩
 ·obtain rfl:=Option.some.inj hk;obtain rfl:56=f:=Option.some.inj hf;exact⟨_,Tryz.func56,chk229⟩
 ·obtain rfl:=Option.some.inj hk;obtain rfl:59=f:=Option.some.inj hf;exact⟨_,Tryz.func59,chk232⟩
 ·obtain rfl:=Option.some.inj hk;obtain rfl:94=f:=Option.some.inj hf;exact⟨_,Tryz.func94,chk233⟩
 ·obtain rfl:=Option.some.inj hk;obtain rfl:95=f:=Option.some.inj hf;exact⟨_,Tryz.func95,chk234⟩
 ·obtain rfl:=Option.some.inj hk;obtain rfl:96=f:=Option.some.inj hf;exact⟨_,Tryz.func96,chk235⟩
 ·obtain rfl:=Option.some.inj hk;obtain rfl:119=f:=Option.some.inj hf;exact⟨_,Tryz.func119,chk236⟩
 ·obtain rfl:=Option.some.inj hk;obtain rfl:122=f:=Option.some.inj hf;exact⟨_,Tryz.func122,chk237⟩
 ·obtain rfl:=Option.some.inj hk;obtain rfl:121=f:=Option.some.inj hf;exact⟨_,Tryz.func121,chk238⟩
 ·obtain rfl:=Option.some.inj hk;obtain rfl:124=f:=Option.some.inj hf;exact⟨_,Tryz.func124,chk239⟩
 ·obtain rfl:=Option.some.inj hk;obtain rfl:162=f:=Option.some.inj hf;exact⟨_,Tryz.func162,chk240⟩
 ·obtain rfl:=Option.some.inj hk;obtain rfl:165=f:=Option.some.inj hf;exact⟨_,Tryz.func165,chk241⟩
 ·obtain rfl:=Option.some.inj hk;obtain rfl:9=f:=Option.some.inj hf;exact⟨_,Tryz.func9,chk251⟩
 ·obtain rfl:=Option.some.inj hk;obtain rfl:6=f:=Option.some.inj hf;exact⟨_,Tryz.func6,chk313⟩
 ·obtain rfl:=Option.some.inj hk;obtain rfl:3=f:=Option.some.inj hf;exact⟨_,Tryz.func3,chk319⟩
 ·obtain rfl:=Option.some.inj hk;obtain rfl:8=f:=Option.some.inj hf;exact⟨_,Tryz.func8,chk320⟩
 ·obtain rfl:=Option.some.inj hk;obtain rfl:4=f:=Option.some.inj hf;exact⟨_,Tryz.func4,chk321⟩
 ·obtain rfl:=Option.some.inj hk;obtain rfl:19=f:=Option.some.inj hf;exact⟨_,Tryz.func19,chk324⟩
 ·obtain rfl:=Option.some.inj hk;obtain rfl:27=f:=Option.some.inj hf;exact⟨_,Tryz.func27,chk325⟩
 ·obtain rfl:=Option.some.inj hk;obtain rfl:35=f:=Option.some.inj hf;exact⟨_,Tryz.func35,chk326⟩
 ·obtain rfl:=Option.some.inj hk;obtain rfl:17=f:=Option.some.inj hf;exact⟨_,Tryz.func17,chk327⟩
 ·obtain rfl:=Option.some.inj hk;obtain rfl:36=f:=Option.some.inj hf;exact⟨_,Tryz.func36,chk328⟩
 ·cases hk
theorem tied{fz:List (Nat×Obj)}(hp:PrimsOk Tryz.prog num fz):Tied Tryz.prog num fz P:=⟨by kernel_rfl,fnsOk,fun k f args objs r outs hn _ h=>Zie hp k f args objs r outs hn h⟩
theorem srt:SrtAll Tryz.prog num:=by
 refine Zp5 fun e he f t fs h1 h2 h3=>?_
 simp only[sortTab,List.mem_cons,List.not_mem_nil,or_false]at he
 rcases he with rfl|rfl|rfl|rfl|rfl
 ·obtain rfl:92=f:=Option.some.inj h1;obtain rfl:24=t:=Option.some.inj h2;obtain rfl:85=fs:=Option.some.inj h3;exact srt183
 ·obtain rfl:91=f:=Option.some.inj h1;obtain rfl:23=t:=Option.some.inj h2;obtain rfl:85=fs:=Option.some.inj h3;exact srt184
 ·obtain rfl:109=f:=Option.some.inj h1;obtain rfl:55=t:=Option.some.inj h2;obtain rfl:85=fs:=Option.some.inj h3;exact srt248
 ·obtain rfl:86=f:=Option.some.inj h1;obtain rfl:54=t:=Option.some.inj h2;obtain rfl:85=fs:=Option.some.inj h3;exact srt247
 ·cases h1
end Go.Proofs.YtgdfelbedghhnaaGreatDoor
