/- That the program's functions are their abstract code: each by the kernel. -/
import Derived.Test.YtfemiipgkhekiaaGreatDoorB8
import Derived.Test.YtfemiipgkhekiaaGreatDoorCode
import Derived.Test.YtfemiipgkhekiaaGreatDoorSrts
import Derived.Test.YtfemiipgkhekiaaGreatDoorChecked
import Derived.KernelRfl
namespace Go.Proofs.YtfemiipgkhekiaaGreatDoor
open Go
set_option maxRecDepth 100000
/-- Our numbers, and the program's. -/
def numL:List (Nat×Nat):=[(1,24),(2,25),(6,47),(7,68),(11,48),(12,69),(14,54),(18,52),(23,28),(24,42),(28,29),(29,44),(35,40),(36,39),(41,32),(50,4),(57,13),(58,16),(61,37),(66,9),(67,26),(68,27),(69,7),(70,41),(76,38),(81,86),(82,72),(84,87),(85,34),(87,21),(89,19),(91,18),(92,75),(95,119),(99,67),(100,65),(101,66),(102,43),(105,12),(106,46),(110,71),(111,70),(113,50),(114,49),(117,31),(122,30),(137,55),(138,17),(140,22),(145,45),(182,53),(204,15),(205,33),(206,35),(207,36),(210,5),(218,51),(219,56),(223,14),(251,6),(312,11),(314,10),(315,8),(316,3),(324,23),(325,20),(222,59),(220,60),(230,74),(231,73),(221,61),(183,64),(1183,24),(184,63),(1184,23),(247,58),(1247,46),(248,76),(1248,47),(310,57)]
def num(k:Nat):Option FuncId:=numL.lookup k
theorem chk1:chkFn Tryz.prog num Tryz.f24 c1=true:=by kernel_rfl
theorem chk2:chkFn Tryz.prog num Tryz.f25 c2=true:=by kernel_rfl
theorem chk6:chkFn Tryz.prog num Tryz.f47 c6=true:=by kernel_rfl
theorem chk7:chkFn Tryz.prog num Tryz.f68 c7=true:=by kernel_rfl
theorem chk11:chkFn Tryz.prog num Tryz.f48 c11=true:=by kernel_rfl
theorem chk12:chkFn Tryz.prog num Tryz.f69 c12=true:=by kernel_rfl
theorem chk14:chkFn Tryz.prog num Tryz.f54 c14=true:=by kernel_rfl
theorem chk18:chkFn Tryz.prog num Tryz.f52 c18=true:=by kernel_rfl
theorem chk23:chkFn Tryz.prog num Tryz.f28 c23=true:=by kernel_rfl
theorem chk24:chkFn Tryz.prog num Tryz.f42 c24=true:=by kernel_rfl
theorem chk28:chkFn Tryz.prog num Tryz.f29 c28=true:=by kernel_rfl
theorem chk29:chkFn Tryz.prog num Tryz.f44 c29=true:=by kernel_rfl
theorem chk35:chkFn Tryz.prog num Tryz.f40 c35=true:=by kernel_rfl
theorem chk36:chkFn Tryz.prog num Tryz.f39 c36=true:=by kernel_rfl
theorem chk41:chkFn Tryz.prog num Tryz.f32 c41=true:=by kernel_rfl
theorem chk50:chkFn Tryz.prog num Tryz.f4 c50=true:=by kernel_rfl
theorem chk57:chkFn Tryz.prog num Tryz.f13 c57=true:=by kernel_rfl
theorem chk58:chkFn Tryz.prog num Tryz.f16 c58=true:=by kernel_rfl
theorem chk61:chkFn Tryz.prog num Tryz.f37 c61=true:=by kernel_rfl
theorem chk66:chkFn Tryz.prog num Tryz.f9 c66=true:=by kernel_rfl
theorem chk67:chkFn Tryz.prog num Tryz.f26 c67=true:=by kernel_rfl
theorem chk68:chkFn Tryz.prog num Tryz.f27 c68=true:=by kernel_rfl
theorem chk69:chkFn Tryz.prog num Tryz.f7 c69=true:=by kernel_rfl
theorem chk70:chkFn Tryz.prog num Tryz.f41 c70=true:=by kernel_rfl
theorem chk76:chkFn Tryz.prog num Tryz.f38 c76=true:=by kernel_rfl
theorem chk81:chkFn Tryz.prog num Tryz.f86 c81=true:=by kernel_rfl
theorem chk82:chkFn Tryz.prog num Tryz.f72 c82=true:=by kernel_rfl
theorem chk84:chkFn Tryz.prog num Tryz.f87 c84=true:=by kernel_rfl
theorem chk85:chkFn Tryz.prog num Tryz.f34 c85=true:=by kernel_rfl
theorem chk87:chkFn Tryz.prog num Tryz.f21 c87=true:=by kernel_rfl
theorem chk89:chkFn Tryz.prog num Tryz.f19 c89=true:=by kernel_rfl
theorem chk91:chkFn Tryz.prog num Tryz.f18 c91=true:=by kernel_rfl
theorem chk92:chkFn Tryz.prog num Tryz.f75 c92=true:=by kernel_rfl
theorem chk95:chkFn Tryz.prog num Tryz.f119 c95=true:=by kernel_rfl
theorem chk99:chkFn Tryz.prog num Tryz.f67 c99=true:=by kernel_rfl
theorem chk100:chkFn Tryz.prog num Tryz.f65 c100=true:=by kernel_rfl
theorem chk101:chkFn Tryz.prog num Tryz.f66 c101=true:=by kernel_rfl
theorem chk102:chkFn Tryz.prog num Tryz.f43 c102=true:=by kernel_rfl
theorem chk105:chkFn Tryz.prog num Tryz.f12 c105=true:=by kernel_rfl
theorem chk106:chkFn Tryz.prog num Tryz.f46 c106=true:=by kernel_rfl
theorem chk110:chkFn Tryz.prog num Tryz.f71 c110=true:=by kernel_rfl
theorem chk111:chkFn Tryz.prog num Tryz.f70 c111=true:=by kernel_rfl
theorem chk113:chkFn Tryz.prog num Tryz.f50 c113=true:=by kernel_rfl
theorem chk114:chkFn Tryz.prog num Tryz.f49 c114=true:=by kernel_rfl
theorem chk117:chkFn Tryz.prog num Tryz.f31 c117=true:=by kernel_rfl
theorem chk122:chkFn Tryz.prog num Tryz.f30 c122=true:=by kernel_rfl
theorem chk137:chkFn Tryz.prog num Tryz.f55 c137=true:=by kernel_rfl
theorem chk138:chkFn Tryz.prog num Tryz.f17 c138=true:=by kernel_rfl
theorem chk140:chkFn Tryz.prog num Tryz.f22 c140=true:=by kernel_rfl
theorem chk145:chkFn Tryz.prog num Tryz.f45 c145=true:=by kernel_rfl
theorem chk182:chkFn Tryz.prog num Tryz.f53 c182=true:=by kernel_rfl
theorem chk204:chkFn Tryz.prog num Tryz.f15 c204=true:=by kernel_rfl
theorem chk205:chkFn Tryz.prog num Tryz.f33 c205=true:=by kernel_rfl
theorem chk206:chkFn Tryz.prog num Tryz.f35 c206=true:=by kernel_rfl
theorem chk207:chkFn Tryz.prog num Tryz.f36 c207=true:=by kernel_rfl
theorem chk210:chkFn Tryz.prog num Tryz.f5 c210=true:=by kernel_rfl
theorem chk218:chkFn Tryz.prog num Tryz.f51 c218=true:=by kernel_rfl
theorem chk219:chkFn Tryz.prog num Tryz.f56 c219=true:=by kernel_rfl
theorem chk223:chkFn Tryz.prog num Tryz.f14 c223=true:=by kernel_rfl
theorem chk251:chkFn Tryz.prog num Tryz.f6 c251=true:=by kernel_rfl
theorem chk312:chkFn Tryz.prog num Tryz.f11 c312=true:=by kernel_rfl
theorem chk314:chkFn Tryz.prog num Tryz.f10 c314=true:=by kernel_rfl
theorem chk315:chkFn Tryz.prog num Tryz.f8 c315=true:=by kernel_rfl
theorem chk316:chkFn Tryz.prog num Tryz.f3 c316=true:=by kernel_rfl
theorem chk324:chkFn Tryz.prog num Tryz.f23 c324=true:=by kernel_rfl
theorem chk325:chkFn Tryz.prog num Tryz.f20 c325=true:=by kernel_rfl
theorem fnsOk:∀ k c,codeOf k=some c->∀ f,num k=some f->∃ fn,Tryz.prog.funcs[f]?=some fn/\chkFn Tryz.prog num fn c=true:=by
 intro k c hk f hf
 unfold codeOf at hk
 split at hk
 ·obtain rfl:=Option.some.inj hk;obtain rfl:24=f:=Option.some.inj hf;exact⟨_,Tryz.func24,chk1⟩
 ·obtain rfl:=Option.some.inj hk;obtain rfl:25=f:=Option.some.inj hf;exact⟨_,Tryz.func25,chk2⟩
 ·obtain rfl:=Option.some.inj hk;obtain rfl:47=f:=Option.some.inj hf;exact⟨_,Tryz.func47,chk6⟩
 ·obtain rfl:=Option.some.inj hk;obtain rfl:68=f:=Option.some.inj hf;exact⟨_,Tryz.func68,chk7⟩
 ·obtain rfl:=Option.some.inj hk;obtain rfl:48=f:=Option.some.inj hf;exact⟨_,Tryz.func48,chk11⟩
 ·obtain rfl:=Option.some.inj hk;obtain rfl:69=f:=Option.some.inj hf;exact⟨_,Tryz.func69,chk12⟩
 ·obtain rfl:=Option.some.inj hk;obtain rfl:54=f:=Option.some.inj hf;exact⟨_,Tryz.func54,chk14⟩
 ·obtain rfl:=Option.some.inj hk;obtain rfl:52=f:=Option.some.inj hf;exact⟨_,Tryz.func52,chk18⟩
 ·obtain rfl:=Option.some.inj hk;obtain rfl:28=f:=Option.some.inj hf;exact⟨_,Tryz.func28,chk23⟩
 ·obtain rfl:=Option.some.inj hk;obtain rfl:42=f:=Option.some.inj hf;exact⟨_,Tryz.func42,chk24⟩
 ·obtain rfl:=Option.some.inj hk;obtain rfl:29=f:=Option.some.inj hf;exact⟨_,Tryz.func29,chk28⟩
 ·obtain rfl:=Option.some.inj hk;obtain rfl:44=f:=Option.some.inj hf;exact⟨_,Tryz.func44,chk29⟩
 ·obtain rfl:=Option.some.inj hk;obtain rfl:40=f:=Option.some.inj hf;exact⟨_,Tryz.func40,chk35⟩
 ·obtain rfl:=Option.some.inj hk;obtain rfl:39=f:=Option.some.inj hf;exact⟨_,Tryz.func39,chk36⟩
 ·obtain rfl:=Option.some.inj hk;obtain rfl:32=f:=Option.some.inj hf;exact⟨_,Tryz.func32,chk41⟩
 ·obtain rfl:=Option.some.inj hk;obtain rfl:4=f:=Option.some.inj hf;exact⟨_,Tryz.func4,chk50⟩
 ·obtain rfl:=Option.some.inj hk;obtain rfl:13=f:=Option.some.inj hf;exact⟨_,Tryz.func13,chk57⟩
 ·obtain rfl:=Option.some.inj hk;obtain rfl:16=f:=Option.some.inj hf;exact⟨_,Tryz.func16,chk58⟩
 ·obtain rfl:=Option.some.inj hk;obtain rfl:37=f:=Option.some.inj hf;exact⟨_,Tryz.func37,chk61⟩
 ·obtain rfl:=Option.some.inj hk;obtain rfl:9=f:=Option.some.inj hf;exact⟨_,Tryz.func9,chk66⟩
 ·obtain rfl:=Option.some.inj hk;obtain rfl:26=f:=Option.some.inj hf;exact⟨_,Tryz.func26,chk67⟩
 ·obtain rfl:=Option.some.inj hk;obtain rfl:27=f:=Option.some.inj hf;exact⟨_,Tryz.func27,chk68⟩
 ·obtain rfl:=Option.some.inj hk;obtain rfl:7=f:=Option.some.inj hf;exact⟨_,Tryz.func7,chk69⟩
 ·obtain rfl:=Option.some.inj hk;obtain rfl:41=f:=Option.some.inj hf;exact⟨_,Tryz.func41,chk70⟩
 ·obtain rfl:=Option.some.inj hk;obtain rfl:38=f:=Option.some.inj hf;exact⟨_,Tryz.func38,chk76⟩
 ·obtain rfl:=Option.some.inj hk;obtain rfl:86=f:=Option.some.inj hf;exact⟨_,Tryz.func86,chk81⟩
 ·obtain rfl:=Option.some.inj hk;obtain rfl:72=f:=Option.some.inj hf;exact⟨_,Tryz.func72,chk82⟩
 ·obtain rfl:=Option.some.inj hk;obtain rfl:87=f:=Option.some.inj hf;exact⟨_,Tryz.func87,chk84⟩
 ·obtain rfl:=Option.some.inj hk;obtain rfl:34=f:=Option.some.inj hf;exact⟨_,Tryz.func34,chk85⟩
 ·obtain rfl:=Option.some.inj hk;obtain rfl:21=f:=Option.some.inj hf;exact⟨_,Tryz.func21,chk87⟩
 ·obtain rfl:=Option.some.inj hk;obtain rfl:19=f:=Option.some.inj hf;exact⟨_,Tryz.func19,chk89⟩
 ·obtain rfl:=Option.some.inj hk;obtain rfl:18=f:=Option.some.inj hf;exact⟨_,Tryz.func18,chk91⟩
 ·obtain rfl:=Option.some.inj hk;obtain rfl:75=f:=Option.some.inj hf;exact⟨_,Tryz.func75,chk92⟩
 ·obtain rfl:=Option.some.inj hk;obtain rfl:119=f:=Option.some.inj hf;exact⟨_,Tryz.func119,chk95⟩
 ·obtain rfl:=Option.some.inj hk;obtain rfl:67=f:=Option.some.inj hf;exact⟨_,Tryz.func67,chk99⟩
 ·obtain rfl:=Option.some.inj hk;obtain rfl:65=f:=Option.some.inj hf;exact⟨_,Tryz.func65,chk100⟩
 ·obtain rfl:=Option.some.inj hk;obtain rfl:66=f:=Option.some.inj hf;exact⟨_,Tryz.func66,chk101⟩
 ·obtain rfl:=Option.some.inj hk;obtain rfl:43=f:=Option.some.inj hf;exact⟨_,Tryz.func43,chk102⟩
 ·obtain rfl:=Option.some.inj hk;obtain rfl:12=f:=Option.some.inj hf;exact⟨_,Tryz.func12,chk105⟩
 ·obtain rfl:=Option.some.inj hk;obtain rfl:46=f:=Option.some.inj hf;exact⟨_,Tryz.func46,chk106⟩
 ·obtain rfl:=Option.some.inj hk;obtain rfl:71=f:=Option.some.inj hf;exact⟨_,Tryz.func71,chk110⟩
 ·obtain rfl:=Option.some.inj hk;obtain rfl:70=f:=Option.some.inj hf;exact⟨_,Tryz.func70,chk111⟩
 ·obtain rfl:=Option.some.inj hk;obtain rfl:50=f:=Option.some.inj hf;exact⟨_,Tryz.func50,chk113⟩
 ·obtain rfl:=Option.some.inj hk;obtain rfl:49=f:=Option.some.inj hf;exact⟨_,Tryz.func49,chk114⟩
 ·obtain rfl:=Option.some.inj hk;obtain rfl:31=f:=Option.some.inj hf;exact⟨_,Tryz.func31,chk117⟩
 ·obtain rfl:=Option.some.inj hk;obtain rfl:30=f:=Option.some.inj hf;exact⟨_,Tryz.func30,chk122⟩
 ·obtain rfl:=Option.some.inj hk;obtain rfl:55=f:=Option.some.inj hf;exact⟨_,Tryz.func55,chk137⟩
 ·obtain rfl:=Option.some.inj hk;obtain rfl:17=f:=Option.some.inj hf;exact⟨_,Tryz.func17,chk138⟩
 ·obtain rfl:=Option.some.inj hk;obtain rfl:22=f:=Option.some.inj hf;exact⟨_,Tryz.func22,chk140⟩
 ·obtain rfl:=Option.some.inj hk;obtain rfl:45=f:=Option.some.inj hf;exact⟨_,Tryz.func45,chk145⟩
 ·obtain rfl:=Option.some.inj hk;obtain rfl:53=f:=Option.some.inj hf;exact⟨_,Tryz.func53,chk182⟩
 ·obtain rfl:=Option.some.inj hk;obtain rfl:15=f:=Option.some.inj hf;exact⟨_,Tryz.func15,chk204⟩
 ·obtain rfl:=Option.some.inj hk;obtain rfl:33=f:=Option.some.inj hf;exact⟨_,Tryz.func33,chk205⟩
 ·obtain rfl:=Option.some.inj hk;obtain rfl:35=f:=Option.some.inj hf;exact⟨_,Tryz.func35,chk206⟩
 ·obtain rfl:=Option.some.inj hk;obtain rfl:36=f:=Option.some.inj hf;exact⟨_,Tryz.func36,chk207⟩
 ·obtain rfl:=Option.some.inj hk;obtain rfl:5=f:=Option.some.inj hf;exact⟨_,Tryz.func5,chk210⟩
 ·obtain rfl:=Option.some.inj hk;obtain rfl:51=f:=Option.some.inj hf;exact⟨_,Tryz.func51,chk218⟩
 ·obtain rfl:=Option.some.inj hk;obtain rfl:56=f:=Option.some.inj hf;exact⟨_,Tryz.func56,chk219⟩
 ·obtain rfl:=Option.some.inj hk;obtain rfl:14=f:=Option.some.inj hf;exact⟨_,Tryz.func14,chk223⟩
 ·obtain rfl:=Option.some.inj hk;obtain rfl:6=f:=Option.some.inj hf;exact⟨_,Tryz.func6,chk251⟩
 ·obtain rfl:=Option.some.inj hk;obtain rfl:11=f:=Option.some.inj hf;exact⟨_,Tryz.func11,chk312⟩
 ·obtain rfl:=Option.some.inj hk;obtain rfl:10=f:=Option.some.inj hf;exact⟨_,Tryz.func10,chk314⟩
 ·obtain rfl:=Option.some.inj hk;obtain rfl:8=f:=Option.some.inj hf;exact⟨_,Tryz.func8,chk315⟩
 ·obtain rfl:=Option.some.inj hk;obtain rfl:3=f:=Option.some.inj hf;exact⟨_,Tryz.func3,chk316⟩
 ·obtain rfl:=Option.some.inj hk;obtain rfl:23=f:=Option.some.inj hf;exact⟨_,Tryz.func23,chk324⟩
 ·obtain rfl:=Option.some.inj hk;obtain rfl:20=f:=Option.some.inj hf;exact⟨_,Tryz.func20,chk325⟩
 ·cases hk
theorem tied{fz:List (Nat×Obj)}(hp:PrimsOk Tryz.prog num fz):Tied Tryz.prog num fz P:=⟨by kernel_rfl,fnsOk,fun k f args objs r outs hn _ h=>Zh0 hp k f args objs r outs hn h⟩
theorem srt:SrtAll Tryz.prog num:=by
 refine Zp9 fun e he f t fs h1 h2 h3=>?_
 simp only[sortTab,List.mem_cons,List.not_mem_nil,or_false]at he
 rcases he with rfl|rfl|rfl|rfl|rfl
 ·obtain rfl:64=f:=Option.some.inj h1;obtain rfl:24=t:=Option.some.inj h2;obtain rfl:57=fs:=Option.some.inj h3;exact srt183
 ·obtain rfl:63=f:=Option.some.inj h1;obtain rfl:23=t:=Option.some.inj h2;obtain rfl:57=fs:=Option.some.inj h3;exact srt184
 ·obtain rfl:76=f:=Option.some.inj h1;obtain rfl:47=t:=Option.some.inj h2;obtain rfl:57=fs:=Option.some.inj h3;exact srt248
 ·obtain rfl:58=f:=Option.some.inj h1;obtain rfl:46=t:=Option.some.inj h2;obtain rfl:57=fs:=Option.some.inj h3;exact srt247
 ·cases h1
end Go.Proofs.YtfemiipgkhekiaaGreatDoor
