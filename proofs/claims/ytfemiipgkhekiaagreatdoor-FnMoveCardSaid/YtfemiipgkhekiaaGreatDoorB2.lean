/- The program's data as plain values, and their cells; texts' order; numbers' wrap. · Layer 1: names, holds and wants: what the program's and the reference's checks compute. · Layer 6: the book of grants: what it must be. · Layer 2: runs: what the program's and the reference's checks compute. · Layer 3: ticks of runs. · Layer 4: asks, and what a mate must be. · Layer 5: copies of mates; falls and rises. · The laws' own helpers, on wants: copies, sizes, comparison with the same. · The laws' own helpers, on runs. · The laws' own helpers: marks. · The laws' own helpers: marks on runs. · The laws' own helpers, on asks and mates. · How the model's memory reads as the abstract machine's values: what is on loan, what is owned, what the slots hold. · Each operation of the model does what the abstract machine's does: those that only compute or read. -/
import Derived.Test.YtfemiipgkhekiaaGreatDoorB1
import Derived.Test.YtfemiipgkhekiaaGreatDoorCode
import Derived.WalkKit
import Derived.ProofKit
import Derived.Below
import Derived.Laws.AppendOwn
import Derived.Calls
import Derived.Laws.Cells
import Derived.Laws.Slices
namespace Go.Proofs.YtfemiipgkhekiaaGreatDoor
open Go
set_option linter.unusedSimpArgs false
noncomputable def F:Callee:=P.lim
theorem Zah{k:Nat}{c:CFn}{args:List AV}{objs:List AO}{r:AV×List (Option AO)}(hc:P.fn k=some c)(hl:Nat.ble args.length c.nt=true)
  (h:fin c.res objs.length (X F [.code c.body] (.normal,⟨startSlots args 0,startHeap objs 0,0,objs.length,objs.length⟩))=some r):F k args objs=some r:=Zun hc (Nat.le_of_ble_eq_true hl) h
abbrev T:=ByteArray
structure Want where
 copy:T
 version:Int
 hold:T
 pull:Int
 start:Int
 dies:Int
 grace:Int
structure Run where
 want:Want
 state:Int
 left:Int
 falls:Int
 til:Int
structure Ask where
 hold:T
 copy:T
 first:Int
 at_:Int
structure Mate where
 name:T
 up:Bool
 clock:Int
 known:Bool
 seen:Int
 wants:List Want
 runs:List Run
 asks:List Ask
 gives:List Ask
structure Parcel where
 kind:Int
 berth:T
 seen:Int
 wants:List Want
 hold:T
 copy:T
 at_:Int
structure Grant where
 hold:T
 berth:T
 copy:T
 at_:Int
 til:Int
structure Place where
 berth:T
 seen:Int
 wants:List Want
structure Land where
 time:Int
 grants:List Grant
 places:List Place
structure Wld where
 land:Land
 mates:List Mate
 flight:List T
structure Event where
 kind:Int
 a:Int
 b:Int
 wants:List Want
 rates:List Int
def Want.c(w:Want):List AV:=[.str w.copy,.int .i64 w.version,.str w.hold,.int .i64 w.pull,.int .i64 w.start,.int .i64 w.dies,.int .i64 w.grace]
def Run.c(r:Run):List AV:=[.str r.want.copy,.int .i64 r.want.version,.str r.want.hold,.int .i64 r.want.pull,.int .i64 r.want.start,.int .i64 r.want.dies,.int .i64 r.want.grace,.int .i64 r.state,.int .i64 r.left,.int .i64 r.falls,.int .i64 r.til]
def Ask.c(a:Ask):List AV:=[.str a.hold,.str a.copy,.int .i64 a.first,.int .i64 a.at_]
def Mate.c(m:Md)(x:Mate):List AV:=[.str x.name,.bool x.up,.int .i64 x.clock,.bool x.known,.int .i64 x.seen,.sl m 7 (x.wants.map Want.c),.sl m 11 (x.runs.map Run.c),.sl m 4 (x.asks.map Ask.c),.sl m 4 (x.gives.map Ask.c)]
def Parcel.c(m:Md)(p:Parcel):List AV:=[.int .i64 p.kind,.str p.berth,.int .i64 p.seen,.sl m 7 (p.wants.map Want.c),.str p.hold,.str p.copy,.int .i64 p.at_]
def Grant.c(g:Grant):List AV:=[.str g.hold,.str g.berth,.str g.copy,.int .i64 g.at_,.int .i64 g.til]
def Place.c(m:Md)(p:Place):List AV:=[.str p.berth,.int .i64 p.seen,.sl m 7 (p.wants.map Want.c)]
def Land.c(m m':Md)(l:Land):List AV:=[.int .i64 l.time,.sl m 5 (l.grants.map Grant.c),.sl m 3 (l.places.map (Place.c m'))]
def Wld.c(m m':Md)(w:Wld):List AV:=[.int .i64 w.land.time,.sl m 5 (w.land.grants.map Grant.c),.sl m 3 (w.land.places.map (Place.c m')),.sl m 9 (w.mates.map (Mate.c m')),.sl m 1 (w.flight.map fun s=>[.str s])]
def Event.c(m:Md)(e:Event):List AV:=[.int .i64 e.kind,.int .i64 e.a,.int .i64 e.b,.sl m 7 (e.wants.map Want.c),.sl m 1 (e.rates.map fun n=>[.int .i64 n])]
attribute [simp] Want.c Run.c Ask.c Mate.c Parcel.c Grant.c Place.c Land.c Wld.c Event.c
@[simp] theorem Want.eta(w:Want):(⟨w.copy,w.version,w.hold,w.pull,w.start,w.dies,w.grace⟩:Want)=w:=rfl
@[simp] theorem Run.eta(r:Run):(⟨r.want,r.state,r.left,r.falls,r.til⟩:Run)=r:=rfl
@[simp] theorem Ask.eta(a:Ask):(⟨a.hold,a.copy,a.first,a.at_⟩:Ask)=a:=rfl
@[simp] theorem Grant.eta(g:Grant):(⟨g.hold,g.berth,g.copy,g.at_,g.til⟩:Grant)=g:=rfl
set_option maxRecDepth 100000
def inR(n lo hi:Int):Bool:=decide (lo<=n) && decide (n<=hi)
@[simp] theorem law85(n lo hi:Int):F 85 [.int .i64 n,.int .i64 lo,.int .i64 hi] []=some (.bool (inR n lo hi),[]):=by
 refine Zah fn85 rfl ?_
 simp[c85,inR]
 by_cases h:lo<=n<;>simp[h]
@[simp] theorem law102(n lo hi:Int):F 102 [.int .i64 n,.int .i64 lo,.int .i64 hi] []=some (.bool (inR n lo hi),[]):=by
 refine Zah fn102 rfl ?_
 simp[c102,inR]
 by_cases h:lo<=n<;>simp[h]
def nameByte(b:UInt8):Bool:=decide (33<=(b.toNat:Int)) && decide ((b.toNat:Int)<=126)
def isName(s:ByteArray):Bool:=decide (1<=s.size) && decide (s.size<=20) && s.data.toList.all nameByte
theorem Zar(s:ByteArray):s.data.toList.length=s.size:=rfl
def head105(s:ByteArray)(i:Nat):St:=hd [(0,.str s),(13,.int .i64 s.size),(14,.int .i64 i)] [] 0
@[simp] theorem law105(s:ByteArray):F 105 [.str s] []=some (.bool (isName s),[]):=by
 refine Zah fn105 rfl ?_
 simp[c105,isName]
 by_cases h1:1<=s.size
 ·by_cases h2:s.size<=20
  ·have h3:¬ (20<(s.size:Int)):=by omega
   have h4:1<=(s.size:Int):=by omega
   simp[h1,h2,h3,h4]
   refine (Zab s.data.toList (fun i (_:Unit)=>head105 s i) (fun _ _=>True) (fun _ r _=>(.bool (r.all nameByte),[])) (fun acc Y _=>?_) (fun i a r acc Y ha hi hr _ hY=>?_) () ?_ trivial ?_).trans ?_
   ·rw[Zar]
    simp[head105,c105b0]
   ·rw[Zar]at hi
    have hw:IntKind.i64.wrap ((i:Int)+1)=(i:Int)+1:=i64w (by omega) (by omega)
    have ha':s.data[i]?=some a:=by simpa using ha
    obtain⟨_,ha⟩:=Array.getElem?_eq_some_iff.1 ha'
    simp[head105,c105b0,ha,hi,nameByte]
    by_cases q1:33<=(a.toNat:Int)
    ·by_cases q2:(a.toNat:Int)<=126
     ·have q3:¬ ((a.toNat:Int)<33):=by omega
      have q4:¬ (126<(a.toNat:Int)):=by omega
      simp[q1,q2,q3,q4]
      rw[hY () _ trivial]
      simp[head105,hw]
     ·have q3:¬ ((a.toNat:Int)<33):=by omega
      have q4:126<(a.toNat:Int):=by omega
      simp[q1,q2,q3,q4]
    ·have q3:(a.toNat:Int)<33:=by omega
     simp[q1,q3]
   ·simp[head105]
   ·rw[Zar];unfold big;omega
   ·simp
  ·have h3:20<(s.size:Int):=by omega
   have h4:1<=(s.size:Int):=by omega
   simp[h1,h2,h3,h4]
 ·have h4:¬ (1<=(s.size:Int)):=by omega
  simp[h1,h4]
def head101(s:ByteArray)(i:Nat):St:=hd [(0,.str s),(3,.int .i64 i)] [] 0
@[simp] theorem law101(s:ByteArray):F 101 [.str s] []=some (.bool (isName s),[]):=by
 refine Zah fn101 rfl ?_
 simp[c101,isName,inR]
 by_cases h1:1<=s.size
 ·by_cases h2:s.size<=20
  ·have h3:¬ (20<(s.size:Int)):=by omega
   have h4:¬ ((s.size:Int)<1):=by omega
   simp[h1,h2,h3,h4]
   refine (Zab s.data.toList (fun i (_:Unit)=>head101 s i) (fun _ _=>True) (fun _ r _=>(.bool (r.all nameByte),[])) (fun acc Y _=>?_) (fun i a r acc Y ha hi hr _ hY=>?_) () ?_ trivial ?_).trans ?_
   ·rw[Zar]
    simp[head101,c101b0]
   ·rw[Zar]at hi
    have hw:IntKind.i64.wrap ((i:Int)+1)=(i:Int)+1:=i64w (by omega) (by omega)
    have ha':s.data[i]?=some a:=by simpa using ha
    obtain⟨_,ha⟩:=Array.getElem?_eq_some_iff.1 ha'
    simp[head101,c101b0,ha,hi,nameByte]
    by_cases q1:33<=(a.toNat:Int)
    ·by_cases q2:(a.toNat:Int)<=126
     ·have q3:¬ ((a.toNat:Int)<33):=by omega
      have q4:¬ (126<(a.toNat:Int)):=by omega
      simp[q1,q2,q3,q4]
      rw[hY () _ trivial]
      simp[head101,hw]
     ·have q3:¬ ((a.toNat:Int)<33):=by omega
      have q4:126<(a.toNat:Int):=by omega
      simp[q1,q2,q3,q4]
    ·have q3:(a.toNat:Int)<33:=by omega
     simp[q1,q3]
   ·simp[head101]
   ·rw[Zar];unfold big;omega
   ·simp
  ·have h3:20<(s.size:Int):=by omega
   simp[h1,h2,h3]
 ·have h4:(s.size:Int)<1:=by omega
  simp[h1,h4]
def isHold(s:ByteArray):Bool:=isName s && !(sEq s ⟨#[42]⟩)
@[simp] theorem law106(s:ByteArray):F 106 [.str s] []=some (.bool (isHold s),[]):=by
 refine Zah fn106 rfl ?_
 simp[c106,isHold]
 cases isName s<;>simp
@[simp] theorem law100(s:ByteArray):F 100 [.str s] []=some (.bool (isHold s),[]):=by
 refine Zah fn100 rfl ?_
 simp[c100,isHold]
 cases isName s<;>simp
def wantOk(w:Want):Bool:=isName w.copy && inR w.version 1 1000000 && (sEq w.hold ⟨#[]⟩ || isHold w.hold) && inR w.pull 0 100 && inR w.start 0 100 && inR w.dies 0 100 && inR w.grace 0 100
@[simp] theorem law82(s:T)(n:Int)(h:T)(n1 n2 n3 n4:Int):F 82 [.agg [.str s,.int .i64 n,.str h,.int .i64 n1,.int .i64 n2,.int .i64 n3,.int .i64 n4]] []=some (.bool (wantOk ⟨s,n,h,n1,n2,n3,n4⟩),[]):=by
 refine Zah fn82 rfl ?_
 simp[c82,wantOk]
 repeat' split
 all_goals simp_all
@[simp] theorem law81(s:T)(n:Int)(h:T)(n1 n2 n3 n4:Int):F 81 [.agg [.str s,.int .i64 n,.str h,.int .i64 n1,.int .i64 n2,.int .i64 n3,.int .i64 n4]] []=some (.bool (wantOk ⟨s,n,h,n1,n2,n3,n4⟩),[]):=by
 refine Zah fn81 rfl ?_
 simp[c81,wantOk]
 repeat' split
 all_goals simp_all
/-! ### Wants -/
def ascW(pre:List Want)(w:Want):Bool :=
 match pre.getLast? with
 | none=>true
 | some p=>sLt p.copy w.copy
def heldB(pre:List Want)(k:T):Bool:=pre.any fun p=>sEq p.hold k
def freshW(pre:List Want)(w:Want):Bool:=sEq w.hold ⟨#[]⟩ || !heldB pre w.hold
def wantsGo(pre:List Want):List Want->Bool
 | []=>true
 | w::r=>wantOk w && (ascW pre w && (freshW pre w && wantsGo (pre++[w]) r))
def wantsOk(ws:List Want):Bool:=decide (ws.length<=10) && wantsGo [] ws
def heldMap(pre:List Want):ByteArray->Option AV:=pre.foldl (fun m w=>mapPut w.hold (.bool true) m) noKeys
@[simp] theorem heldMap_get(pre:List Want)(k:ByteArray):(mapGet k (heldMap pre)).getD (.bool false)=.bool (heldB pre k):=by
 have h:∀ (l:List Want) (m:ByteArray->Option AV) (b:Bool),(mapGet k m).getD (.bool false)=.bool b->(mapGet k (l.foldl (fun m w=>mapPut w.hold (.bool true) m) m)).getD (.bool false)=.bool (b || l.any fun p=>sEq p.hold k):=by
  intro l
  induction l with
  | nil=>intro m b h;simpa using h
  | cons w l ih =>
   intro m b h
   rw[List.foldl_cons,ih _ (b || sEq w.hold k)]
   ·simp[Bool.or_assoc]
   ·rw[Zic,Zei w.hold k]
    by_cases h2:sEq k w.hold=true
    ·simp[h2]
    ·simp[h2,h]
 have:=h pre noKeys false rfl
 rw[Bool.false_or]at this
 exact this
@[simp] theorem heldB_nil(k:T):heldB [] k=false:=rfl
theorem Zfk(pre:List Want)(w:Want):heldMap (pre++[w])=mapPut w.hold (.bool true) (heldMap pre):=by simp[heldMap]
def head6(m:Md)(ws:List Want)(i:Nat):St:=hd [(0,.sl m 7 (ws.map Want.c)),(3,.mapr 0),(7,.sl m 7 (ws.map Want.c)),(8,.int .i64 ws.length),(9,.int .i64 i)] [.map false (heldMap (ws.take i))] 0
theorem Zao{α:Type}{xs:List α}{j:Nat}{a:α}(h:xs[j]?=some a):xs.take (j+1)=xs.take j++[a]:=by
 rw[List.take_add_one,h];rfl
theorem prev{α:Type}{xs:List α}{i:Nat}(hi:i<xs.length)(hm:xs.length<=9223372036854775807)(hp:i≠0):∃ j:Nat,0<i/\IntKind.i64.wrap ((i:Int)-1)=(j:Int)/\∃ h:j<xs.length,(xs.take i).getLast?=some (xs[j]'h):=by
 obtain⟨j,rfl⟩:∃ j,i=j+1:=⟨i-1,by omega⟩
 refine⟨j,by omega,?_,by omega,?_⟩
 ·rw[i64w]<;>omega
 ·rw[Zao (List.getElem?_eq_getElem (show j<xs.length by omega)),List.getLast?_concat]
theorem law6(ws:List Want)(hl:ws.length<big):F 6 [.sl .bor 7 (ws.map Want.c)] []=some (.bool (wantsOk ws),[]):=by
 refine Zah fn6 rfl ?_
 have hm:ws.length<=9223372036854775807:=by unfold big at hl;omega
 simp[c6]
 refine (Zab ws (fun i (_:Unit)=>head6 .bor ws i) (fun _ _=>True) (fun i r _=>(.bool (decide (ws.length<=10) && wantsGo (ws.take i) r),[])) (fun acc Y _=>?_) (fun i a r acc Y ha hi hr _ hY=>?_) () ?_ trivial ?_).trans ?_
 ·simp[head6,c6b0,wantsGo]
  omega
 ·have hw:IntKind.i64.wrap ((i:Int)+1)=(i:Int)+1:=i64w (by omega) (by omega)
  obtain⟨_,hg⟩:=List.getElem?_eq_some_iff.1 ha
  have hs:=Zao ha
  have hY':∀ s',s'.norm [0,3,7,8,9]=head6 .bor ws (i+1)->fin [CRes.tmp 2] 0 (Y s')=some (.bool (decide (ws.length<=10) && wantsGo (ws.take i++[a]) r),[]):=fun s' h=>by rw[<- hs];exact hY () s' trivial h
  have hh:heldMap (ws.take (i+1))=mapPut a.hold (.bool true) (heldMap (ws.take i)):=by rw[hs,Zfk]
  by_cases hz:i=0
  ·have hp:¬ 0<i:=by omega
   have ht:ws.take i=[]:=by rw[hz];rfl
   simp[head6,c6b0,wantsGo,hg,hi,ascW,freshW,hp,ht]
   cases hq:wantOk a<;>cases hr2:sEq a.hold ⟨#[]⟩<;>simp[hq,hr2]
   all_goals
    rw[hY' _ (by simp[head6,hw,hh,ht])]
    simp[ht]
  ·obtain⟨j,hp,hw1,hj,hlast⟩:=prev hi hm hz
   simp[head6,c6b0,wantsGo,hg,hi,ascW,freshW,hp,hw1,hj,hlast]
   cases hq:wantOk a<;>cases hr2:sEq a.hold ⟨#[]⟩<;>cases hr3:sLt ws[j].copy a.copy<;>simp[hq,hr2,hr3]
   ·cases hr4:heldB (ws.take i) a.hold
    ·simp
     rw[hY' _ (by simp[head6,hw,hh])]
    ·simp
   ·rw[hY' _ (by simp[head6,hw,hh])]
 ·simp[head6,heldMap]
 ·exact hl
 ·simp[wantsOk]
def head7(ws:List Want)(i:Nat):St:=hd [(0,.sl .bor 7 (ws.map Want.c)),(3,.int .i64 i)] [] 0
def head7k(ws:List Want)(i k:Nat):St:=hd [(0,.sl .bor 7 (ws.map Want.c)),(3,.int .i64 i),(4,.int .i64 k)] [] 0
theorem law7(ws:List Want)(hl:ws.length<big):F 7 [.sl .bor 7 (ws.map Want.c)] []=some (.bool (wantsOk ws),[]):=by
 refine Zah fn7 rfl ?_
 have hm:ws.length<=9223372036854775807:=by unfold big at hl;omega
 simp[c7,wantsOk]
 by_cases h10:ws.length<=10
 ·have h10':¬ (10<(ws.length:Int)):=by omega
  simp[h10,h10']
  refine (Zab ws (fun i (_:Unit)=>head7 ws i) (fun _ _=>True) (fun i r _=>(.bool (wantsGo (ws.take i) r),[])) (fun acc Y _=>?_) (fun i a r acc Y ha hi hr _ hY=>?_) () ?_ trivial ?_).trans ?_
  ·simp[head7,c7b1,wantsGo]
  ·have hw:IntKind.i64.wrap ((i:Int)+1)=(i:Int)+1:=i64w (by omega) (by omega)
   obtain⟨_,hg⟩:=List.getElem?_eq_some_iff.1 ha
   have hs:=Zao ha
   have hY':∀ s',s'.norm [0,3]=head7 ws (i+1)->fin [CRes.tmp 2] 0 (Y s')=some (.bool (wantsGo (ws.take i++[a]) r),[]):=fun s' h=>by rw[<- hs];exact hY () s' trivial h
   have inner:∀ (fs:List Fr) (st:St),st.norm [0,3,4]=head7k ws i 0->fin [CRes.tmp 2] 0 (X F (.code (.loop [0,3,4] c7b0)::.blk 2::.blk 1::.code (.region [⟨some 12,.mov (.tmp 3),none⟩,⟨some 13,.bin .add (.tmp 12) (.const (.int .i64 1)),none⟩,⟨some 3,.mov (.tmp 13),none⟩] [0,3])::.back Y::fs) (.normal,st))=some (.bool (freshW (ws.take i) a && wantsGo (ws.take i++[a]) r),[]):=by
    intro fs st hst
    refine (Zab (ws.take i) (fun k (_:Unit)=>head7k ws i k) (fun _ _=>True) (fun k t _=>(.bool ((sEq a.hold ⟨#[]⟩ || !heldB t a.hold) && wantsGo (ws.take i++[a]) r),[])) (fun acc Z _=>?_) (fun k b t acc Z hb hk ht _ hZ=>?_) () hst trivial ?_).trans ?_
    ·have hlen:(ws.take i).length=i:=by simp;omega
     rw[hlen]
     simp[head7k,c7b0]
     exact hY' _ (by simp[head7,hw])
    ·have hk2:k<i:=by simp at hk;omega
     have hwk:IntKind.i64.wrap ((k:Int)+1)=(k:Int)+1:=i64w (by omega) (by omega)
     have hb2:ws[k]?=some b:=by rw[List.getElem?_take,if_pos hk2]at hb;exact hb
     obtain⟨hkl,hgb⟩:=List.getElem?_eq_some_iff.1 hb2
     simp[head7k,c7b0,hk2,hi,hg,hkl,hgb]
     cases hr2:sEq a.hold ⟨#[]⟩<;>cases hr3:sEq b.hold a.hold<;>simp[hr2,hr3,heldB]
     all_goals
      rw[hZ () _ trivial (by simp[head7k,hwk])]
      simp[hr2,heldB]
    ·simp;unfold big;omega
    ·simp[freshW]
   by_cases hz:i=0
   ·have hp:¬ 0<i:=by omega
    have ht:ws.take i=[]:=by rw[hz];rfl
    simp[head7,c7b1,wantsGo,hg,hi,ascW,hp,ht]
    cases hq:wantOk a<;>simp[hq]
    rw[inner _ _ (by simp[head7k])]
    simp[ht]
   ·obtain⟨j,hp,hw1,hj,hlast⟩:=prev hi hm hz
    simp[head7,c7b1,wantsGo,hg,hi,ascW,hp,hw1,hj,hlast]
    cases hq:wantOk a<;>cases hr3:sLt ws[j].copy a.copy<;>simp[hq,hr3]
    rw[inner _ _ (by simp[head7k])]
  ·simp[head7]
  ·exact hl
  ·simp
 ·have h10':10<(ws.length:Int):=by omega
  simp[h10,h10']
def grantOk(t:Int)(g:Grant):Bool:=isHold g.hold && (isName g.berth && (isName g.copy && (inR g.at_ 0 1000000 && inR g.til 0 (IntKind.i64.wrap (t+32)))))
def ascG(pre:List Grant)(g:Grant):Bool :=
 match pre.getLast? with
 | none=>true
 | some p=>sLt p.hold g.hold
def grantsGo(t:Int)(pre:List Grant):List Grant->Bool
 | []=>true
 | g::r=>grantOk t g && (ascG pre g && grantsGo t (pre++[g]) r)
def ascP(pre:List Place)(p:Place):Bool :=
 match pre.getLast? with
 | none=>true
 | some q=>sLt q.berth p.berth
def heldIn(pre:List Place)(k:T):Bool:=heldB (pre.flatMap Place.wants) k
def freshP(pre:List Place)(p:Place):Bool:=p.wants.all fun w=>sEq w.hold ⟨#[]⟩ || !heldIn pre w.hold
def placeOk(p:Place):Bool:=isName p.berth && (inR p.seen 1 1000000 && wantsOk p.wants)
def placesGo(pre:List Place):List Place->Bool
 | []=>true
 | p::r=>placeOk p && (ascP pre p && (freshP pre p && placesGo (pre++[p]) r))
def landOk(l:Land):Bool :=
 inR l.time 0 2000000 && (decide (l.time.tmod 2=0) && (decide (l.grants.length<=40) && (decide (l.places.length<=4) && (grantsGo l.time [] l.grants && placesGo [] l.places))))
structure Place.small(p:Place):Prop where
 wants:p.wants.length<=1048576
structure Land.small(l:Land):Prop where
 grants:l.grants.length<=1048576
 places:l.places.length<=1048576
 each:∀ p∈l.places,p.small
theorem Zek:∀ (r pre:List Want),wantsGo pre r=true->∀ j w,r[j]?=some w->freshW (pre++r.take j) w=true
 | [],_,_,j,w,h=>by simp at h
 | a::r,pre,hg,j,w,h=>by
  simp only[wantsGo,Bool.and_eq_true]at hg
  cases j with
  | zero=>simp at h;subst h;simpa using hg.2.2.1
  | succ j =>
   have:=Zek r (pre++[a]) hg.2.2.2 j w (by simpa using h)
   simpa using this
theorem Zi9{ws:List Want}(h:wantsOk ws=true){j:Nat}{w:Want}(hw:ws[j]?=some w)(hne:sEq w.hold ⟨#[]⟩=false):heldB (ws.take j) w.hold=false:=by
 unfold wantsOk at h
 rw[Bool.and_eq_true]at h
 have:=Zek ws [] h.2 j w hw
 simp only[List.nil_append,freshW,hne,Bool.false_or,Bool.not_eq_true']at this
 exact this
theorem Zk0(a b:List Want)(k:T):heldB (a++b) k=(heldB a k || heldB b k):=by simp[heldB]
def head23g(l:Land)(m:Md)(i:Nat):St:=hd [(1,.ptr 0 0 0),(33,.sl .bor 5 (l.grants.map Grant.c)),(34,.int .i64 l.grants.length),(35,.int .i64 i)] [.box (l.c .bor m)] 0
def head23p(l:Land)(m:Md)(i:Nat):St:=hd [(1,.ptr 0 0 0),(5,.mapr 1),(90,.sl .bor 3 (l.places.map (Place.c m))),(91,.int .i64 l.places.length),(92,.int .i64 i)]
 [.box (l.c .bor m),.map false (heldMap ((l.places.take i).flatMap Place.wants))] 0
def head23w(l:Land)(m:Md)(i:Nat)(ws:List Want)(j:Nat):St:=hd [(1,.ptr 0 0 0),(5,.mapr 1),(90,.sl .bor 3 (l.places.map (Place.c m))),(91,.int .i64 l.places.length),(92,.int .i64 i),(130,.sl .bor 7 (ws.map Want.c)),(131,.int .i64 ws.length),(132,.int .i64 j)]
 [.box (l.c .bor m),.map false (heldMap ((l.places.take i).flatMap Place.wants++ws.take j))] 0
theorem law23(l:Land)(m:Md)(hl:l.small):F 23 [.agg (l.c .bor m)] []=some (.bool (landOk l),[]):=by
 refine Zah fn23 rfl ?_
 obtain⟨s1,s2,s3⟩:=hl
 simp[c23,landOk]
 cases q1:inR l.time 0 2000000<;>simp
 by_cases q2:l.time.tmod 2=0
 case neg=>simp[q2]
 simp[q2]
 by_cases q3:l.grants.length<=40
 case neg =>
  have q3':¬ ((l.grants.length:Int)<=40):=by omega
  have q32:40<(l.grants.length:Int):=by omega
  simp[q3,q3',q32]
 have q3':(l.grants.length:Int)<=40:=by omega
 have q32:¬ (40<(l.grants.length:Int)):=by omega
 simp[q3,q3',q32]
 by_cases q4:l.places.length<=4
 case neg =>
  have q4':¬ ((l.places.length:Int)<=4):=by omega
  have q42:4<(l.places.length:Int):=by omega
  simp[q4,q4',q42]
 have q4':(l.places.length:Int)<=4:=by omega
 have q42:¬ (4<(l.places.length:Int)):=by omega
 simp[q4,q4',q42]
 refine (Zab l.grants (fun i (_:Unit)=>head23g l m i) (fun _ _=>True) (fun i r _=>(.bool (grantsGo l.time (l.grants.take i) r && placesGo [] l.places),[])) (fun acc Y _=>?_) (fun i a r acc Y ha hi hr _ hY=>?_) () ?_ trivial ?_).trans ?_
 ·simp[head23g,c23b0,grantsGo]
  refine (Zab l.places (fun i (_:Unit)=>head23p l m i) (fun _ _=>True) (fun i r _=>(.bool (placesGo (l.places.take i) r),[])) (fun acc Y _=>?_) (fun i a r acc Y ha hi hr _ hY=>?_) () ?_ trivial ?_).trans ?_
  ·simp[head23p,c23b2,placesGo]
  ·have hw:IntKind.i64.wrap ((i:Int)+1)=(i:Int)+1:=i64w (by omega) (by omega)
   obtain⟨_,hg⟩:=List.getElem?_eq_some_iff.1 ha
   have hs:=Zao ha
   have hws:=(s3 a (List.mem_of_getElem? ha)).wants
   have w6:=law6 a.wants (by unfold big;omega)
   have hY':∀ s',s'.norm [1,5,90,91,92]=head23p l m (i+1)->fin [CRes.tmp 2] 0 (Y s')=some (.bool (placesGo (l.places.take i++[a]) r),[]):=fun s' h=>by rw[<- hs];exact hY () s' trivial h
   have hh:heldMap ((l.places.take (i+1)).flatMap Place.wants)=heldMap ((l.places.take i).flatMap Place.wants++a.wants):=by rw[hs];simp
   have inner:wantsOk a.wants=true->∀ (fs:List Fr) (st:St),st.norm [1,5,90,91,92,130,131,132]=head23w l m i a.wants 0 ->
     fin [CRes.tmp 2] 0 (X F (.code (.loop [1,5,90,91,92,130,131,132] c23b1)::.blk 4::.blk 3::.code (.region [⟨some 149,.bin .add (.tmp 92) (.const (.int .i64 1)),none⟩,⟨some 92,.mov (.tmp 149),none⟩] [1,5,90,91,92])::.back Y::fs) (.normal,st))=some (.bool (freshP (l.places.take i) a && placesGo (l.places.take i++[a]) r),[]):=by
    intro hok fs st hst
    refine (Zab a.wants (fun j (_:Unit)=>head23w l m i a.wants j) (fun _ _=>True) (fun _ t _=>(.bool ((t.all fun w=>sEq w.hold ⟨#[]⟩ || !heldIn (l.places.take i) w.hold) && placesGo (l.places.take i++[a]) r),[])) (fun acc Z _=>?_) (fun j b t acc Z hb hj ht _ hZ=>?_) () hst trivial ?_).trans rfl
    ·simp[head23w,c23b1]
     exact hY' _ (by simp[head23p,hw,hh])
    ·have hwj:IntKind.i64.wrap ((j:Int)+1)=(j:Int)+1:=i64w (by omega) (by omega)
     obtain⟨_,hgb⟩:=List.getElem?_eq_some_iff.1 hb
     have hh2:heldMap ((l.places.take i).flatMap Place.wants++a.wants.take (j+1))=mapPut b.hold (.bool true) (heldMap ((l.places.take i).flatMap Place.wants++a.wants.take j)):=by
      rw[Zao hb,<- List.append_assoc,Zfk]
     have hZ':∀ s',s'.norm [1,5,90,91,92,130,131,132]=head23w l m i a.wants (j+1)->fin [CRes.tmp 2] 0 (Z s')=some (.bool ((t.all fun w=>sEq w.hold ⟨#[]⟩ || !heldIn (l.places.take i) w.hold) && placesGo (l.places.take i++[a]) r),[]):=fun s' h=>hZ () s' trivial h
     simp only[List.all_cons]
     simp[head23w,c23b1,hj,hgb]
     cases q5:sEq b.hold ⟨#[]⟩<;>simp
     ·have hf:=Zi9 hok hb q5
      have e1:heldB ((l.places.take i).flatMap Place.wants++a.wants.take j) b.hold=heldIn (l.places.take i) b.hold:=by rw[Zk0,hf,Bool.or_false];rfl
      rw[e1]
      cases q6:heldIn (l.places.take i) b.hold<;>simp
      exact (hZ' _ (by simp[head23w,hwj,hh2])).trans (by simp)
     ·exact (hZ' _ (by simp[head23w,hwj,hh2])).trans (by simp)
    ·unfold big;omega
   by_cases hz:i=0
   ·have hp:¬ 0<i:=by omega
    have ht:l.places.take i=[]:=by rw[hz];rfl
    simp[head23p,c23b2,placesGo,hg,hi,ascP,hp,ht,placeOk,w6]
    cases q7:isName a.berth<;>simp
    cases q8:inR a.seen 1 1000000<;>simp
    cases q9:wantsOk a.wants<;>simp
    exact (inner q9 _ _ (by simp[head23w,ht])).trans (by simp[ht])
   ·obtain⟨j,hp,hw1,hj,hlast⟩:=prev hi (by omega) hz
    simp[head23p,c23b2,placesGo,hg,hi,ascP,hp,hw1,hj,hlast,placeOk,w6]
    cases q7:isName a.berth<;>simp
    cases q10:sLt l.places[j].berth a.berth<;>simp
    cases q8:inR a.seen 1 1000000<;>simp
    cases q9:wantsOk a.wants<;>simp
    exact (inner q9 _ _ (by simp[head23w])).trans (by simp)
  ·simp[head23p,heldMap]
  ·unfold big;omega
  ·simp
 ·have hw:IntKind.i64.wrap ((i:Int)+1)=(i:Int)+1:=i64w (by omega) (by omega)
  obtain⟨_,hg⟩:=List.getElem?_eq_some_iff.1 ha
  have hs:=Zao ha
  have hY':∀ s',s'.norm [1,33,34,35]=head23g l m (i+1)->fin [CRes.tmp 2] 0 (Y s')=some (.bool (grantsGo l.time (l.grants.take i++[a]) r && placesGo [] l.places),[]):=fun s' h=>by rw[<- hs];exact hY () s' trivial h
  by_cases hz:i=0
  ·have hp:¬ 0<i:=by omega
   have ht:l.grants.take i=[]:=by rw[hz];rfl
   simp[head23g,c23b0,grantsGo,hg,hi,ascG,hp,ht,grantOk]
   cases r1:isHold a.hold<;>simp
   cases r2:isName a.berth<;>simp
   cases r3:isName a.copy<;>simp
   cases r4:inR a.at_ 0 1000000<;>simp
   cases r5:inR a.til 0 (IntKind.i64.wrap (l.time+32))<;>simp
   exact (hY' _ (by simp[head23g,hw])).trans (by simp[ht])
  ·obtain⟨j,hp,hw1,hj,hlast⟩:=prev hi (by omega) hz
   simp[head23g,c23b0,grantsGo,hg,hi,ascG,hp,hw1,hj,hlast,grantOk]
   cases r1:isHold a.hold<;>simp
   cases r2:isName a.berth<;>simp
   cases r3:isName a.copy<;>simp
   cases r6:sLt l.grants[j].hold a.hold<;>simp
   cases r4:inR a.at_ 0 1000000<;>simp
   cases r5:inR a.til 0 (IntKind.i64.wrap (l.time+32))<;>simp
   exact (hY' _ (by simp[head23g,hw])).trans (by simp)
 ·simp[head23g]
 ·unfold big;omega
 ·simp
def cw(w x:Want):Bool:=!sEq w.hold ⟨#[]⟩ && sEq w.hold x.hold
theorem Ziq(pre:List Place)(p:Place):(!(pre.any fun q=>p.wants.any fun w=>q.wants.any (cw w)))=freshP pre p:=by
 rw[Bool.eq_iff_iff,Bool.not_eq_true',List.any_eq_false]
 unfold freshP
 rw[List.all_eq_true]
 constructor
 ·intro h w hw
  cases h1:sEq w.hold ⟨#[]⟩
  ·simp only[Bool.false_or,Bool.not_eq_true',heldIn,heldB,List.any_eq_false,List.mem_flatMap]
   rintro x ⟨q,hq,hx⟩ h2
   apply h q hq
   rw[List.any_eq_true]
   refine⟨w,hw,?_⟩
   rw[List.any_eq_true]
   exact⟨x,hx,by simp[cw,h1];rw[Zei];exact h2⟩
  ·rfl
 ·intro h q hq h2
  obtain⟨w,hw,h3⟩:=List.any_eq_true.1 h2
  obtain⟨x,hx,h4⟩:=List.any_eq_true.1 h3
  simp only[cw,Bool.and_eq_true,Bool.not_eq_true']at h4
  have h5:=h w hw
  rw[h4.1]at h5
  simp only[Bool.false_or,Bool.not_eq_true',heldIn,heldB,List.any_eq_false,List.mem_flatMap]at h5
  exact h5 x ⟨q,hq,hx⟩ (by rw[Zei];exact h4.2)
def head99(ps:List Place)(m:Md)(i:Nat):St:=hd [(0,.sl .bor 3 (ps.map (Place.c m))),(3,.int .i64 i)] [] 0
def head99k(ps:List Place)(m:Md)(i:Nat)(p:Place)(k:Nat):St:=hd [(0,.sl .bor 3 (ps.map (Place.c m))),(3,.int .i64 i),(4,.ptr 0 0 0),(5,.int .i64 k)] [.box (p.c .bor)] 0
def head99j(ps:List Place)(m:Md)(i:Nat)(p:Place)(k j:Nat):St:=hd [(0,.sl .bor 3 (ps.map (Place.c m))),(3,.int .i64 i),(4,.ptr 0 0 0),(5,.int .i64 k),(6,.int .i64 j)] [.box (p.c .bor)] 0
def head99n(ps:List Place)(m:Md)(i:Nat)(p:Place)(k j n:Nat):St:=hd [(0,.sl .bor 3 (ps.map (Place.c m))),(3,.int .i64 i),(4,.ptr 0 0 0),(5,.int .i64 k),(6,.int .i64 j),(7,.int .i64 n)] [.box (p.c .bor)] 0
theorem law99(ps:List Place)(m:Md)(hl:ps.length<=1048576)(he:∀ p∈ps,p.small):F 99 [.sl .bor 3 (ps.map (Place.c m))] []=some (.bool (decide (ps.length<=4) && placesGo [] ps),[]):=by
 refine Zah fn99 rfl ?_
 simp[c99]
 by_cases h4:ps.length<=4
 case neg =>
  have h4':4<(ps.length:Int):=by omega
  simp[h4,h4']
 have h4':¬ (4<(ps.length:Int)):=by omega
 simp[h4,h4']
 refine (Zab ps (fun i (_:Unit)=>head99 ps m i) (fun _ _=>True) (fun i r _=>(.bool (placesGo (ps.take i) r),[])) (fun acc Y _=>?_) (fun i a r acc Y ha hi hr _ hY=>?_) () ?_ trivial ?_).trans rfl
 ·simp[head99,c99b3,placesGo]
 ·have hw:IntKind.i64.wrap ((i:Int)+1)=(i:Int)+1:=i64w (by omega) (by omega)
  obtain⟨_,hg⟩:=List.getElem?_eq_some_iff.1 ha
  have hs:=Zao ha
  have hws:=(he a (List.mem_of_getElem? ha)).wants
  have w7:=law7 a.wants (by unfold big;omega)
  have hY':∀ s',s'.norm [0,3]=head99 ps m (i+1)->fin [CRes.tmp 2] 0 (Y s')=some (.bool (placesGo (ps.take i++[a]) r),[]):=fun s' h=>by rw[<- hs];exact hY () s' trivial h
  have hcase:(¬ 0<i/\(ps.take i).getLast?=none)\/∃ j:Nat,0<i/\IntKind.i64.wrap ((i:Int)-1)=(j:Int)/\∃ h:j<ps.length,(ps.take i).getLast?=some (ps[j]'h):=by
   by_cases hz:i=0
   ·left;exact⟨by omega,by rw[hz];rfl⟩
   ·right;exact prev hi (by omega) hz
  rcases hcase with ⟨hp,hlast⟩|⟨j,hp,hw1,hj,hlast⟩
  ·simp[head99,c99b3,placesGo,hg,hi,ascP,hp,hlast,placeOk,w7]
   cases q7:isName a.berth<;>simp
   cases q8:inR a.seen 1 1000000<;>simp
   cases q9:wantsOk a.wants<;>simp
   rw[<- Ziq]
   refine (Zab (ps.take i) (fun k (_:Unit)=>head99k ps m i a k) (fun _ _=>True) (fun _ t _=>(.bool (!(t.any fun q=>a.wants.any fun w=>q.wants.any (cw w)) && placesGo (ps.take i++[a]) r),[])) (fun acc Z _=>?_) (fun k b t acc Z hb hk ht _ hZ=>?_) () ?_ trivial ?_).trans rfl
   ·have hlen:(ps.take i).length=i:=by simp;omega
    rw[hlen]
    simp[head99k,c99b2]
    exact hY' _ (by simp[head99,hw])
   ·have hk2:k<i:=by simp at hk;omega
    have hwk:IntKind.i64.wrap ((k:Int)+1)=(k:Int)+1:=i64w (by omega) (by omega)
    have hb2:ps[k]?=some b:=by rw[List.getElem?_take,if_pos hk2]at hb;exact hb
    obtain⟨hkl,hgb⟩:=List.getElem?_eq_some_iff.1 hb2
    have hbw:=(he b (List.mem_of_getElem? hb2)).wants
    have hZ':∀ s',s'.norm [0,3,4,5]=head99k ps m i a (k+1)->fin [CRes.tmp 2] 0 (Z s')=some (.bool (!(t.any fun q=>a.wants.any fun w=>q.wants.any (cw w)) && placesGo (ps.take i++[a]) r),[]):=fun s' h=>hZ () s' trivial h
    simp only[List.any_cons,Bool.not_or]
    simp[head99k,c99b2,hk2]
    refine (Zab a.wants (fun j (_:Unit)=>head99j ps m i a k j) (fun _ _=>True) (fun _ u _=>(.bool (!(u.any fun w=>b.wants.any (cw w)) && (!(t.any fun q=>a.wants.any fun w=>q.wants.any (cw w)) && placesGo (ps.take i++[a]) r)),[])) (fun acc V _=>?_) (fun jj w u acc V hv hjj hu _ hV=>?_) () ?_ trivial ?_).trans (by simp[Bool.and_assoc])
    ·simp[head99j,c99b1]
     exact (hZ' _ (by simp[head99k,hwk])).trans (by simp)
    ·have hwj:IntKind.i64.wrap ((jj:Int)+1)=(jj:Int)+1:=i64w (by omega) (by omega)
     obtain⟨_,hgw⟩:=List.getElem?_eq_some_iff.1 hv
     have hV':∀ s',s'.norm [0,3,4,5,6]=head99j ps m i a k (jj+1)->fin [CRes.tmp 2] 0 (V s')=some (.bool (!(u.any fun w=>b.wants.any (cw w)) && (!(t.any fun q=>a.wants.any fun w=>q.wants.any (cw w)) && placesGo (ps.take i++[a]) r)),[]):=fun s' h=>hV () s' trivial h
     simp only[List.any_cons,Bool.not_or]
     simp[head99j,c99b1,hjj]
     refine (Zab b.wants (fun n (_:Unit)=>head99n ps m i a k jj n) (fun _ _=>True) (fun _ x _=>(.bool (!(x.any (cw w)) && (!(u.any fun w=>b.wants.any (cw w)) && (!(t.any fun q=>a.wants.any fun w=>q.wants.any (cw w)) && placesGo (ps.take i++[a]) r))),[])) (fun acc U _=>?_) (fun n y x acc U hy hn hx _ hU=>?_) () ?_ trivial ?_).trans (by simp[Bool.and_assoc])
     ·simp[head99n,c99b0,hkl,hgb]
      exact (hV' _ (by simp[head99j,hwj])).trans (by simp)
     ·have hwn:IntKind.i64.wrap ((n:Int)+1)=(n:Int)+1:=i64w (by omega) (by omega)
      obtain⟨_,hgy⟩:=List.getElem?_eq_some_iff.1 hy
      simp only[List.any_cons,Bool.not_or]
      simp[head99n,c99b0,hkl,hgb,hn,hgy,hjj,hgw,cw]
      cases e1:sEq w.hold ⟨#[]⟩<;>cases e2:sEq w.hold y.hold<;>simp
      all_goals exact (hU () _ trivial (by simp[head99n,hwn])).trans (by simp[cw,e1])
     ·simp[head99n]
     ·unfold big;omega
    ·simp[head99j]
    ·unfold big;omega
   ·simp[head99k]
   ·simp;unfold big;omega
  ·simp[head99,c99b3,placesGo,hg,hi,ascP,hp,hw1,hj,hlast,placeOk,w7]
   cases q7:isName a.berth<;>simp
   cases q8:inR a.seen 1 1000000<;>simp
   cases q9:wantsOk a.wants<;>simp
   cases q10:sLt ps[j].berth a.berth<;>simp
   rw[<- Ziq]
   refine (Zab (ps.take i) (fun k (_:Unit)=>head99k ps m i a k) (fun _ _=>True) (fun _ t _=>(.bool (!(t.any fun q=>a.wants.any fun w=>q.wants.any (cw w)) && placesGo (ps.take i++[a]) r),[])) (fun acc Z _=>?_) (fun k b t acc Z hb hk ht _ hZ=>?_) () ?_ trivial ?_).trans rfl
   ·have hlen:(ps.take i).length=i:=by simp;omega
    rw[hlen]
    simp[head99k,c99b2]
    exact hY' _ (by simp[head99,hw])
   ·have hk2:k<i:=by simp at hk;omega
    have hwk:IntKind.i64.wrap ((k:Int)+1)=(k:Int)+1:=i64w (by omega) (by omega)
    have hb2:ps[k]?=some b:=by rw[List.getElem?_take,if_pos hk2]at hb;exact hb
    obtain⟨hkl,hgb⟩:=List.getElem?_eq_some_iff.1 hb2
    have hbw:=(he b (List.mem_of_getElem? hb2)).wants
    have hZ':∀ s',s'.norm [0,3,4,5]=head99k ps m i a (k+1)->fin [CRes.tmp 2] 0 (Z s')=some (.bool (!(t.any fun q=>a.wants.any fun w=>q.wants.any (cw w)) && placesGo (ps.take i++[a]) r),[]):=fun s' h=>hZ () s' trivial h
    simp only[List.any_cons,Bool.not_or]
    simp[head99k,c99b2,hk2]
    refine (Zab a.wants (fun j (_:Unit)=>head99j ps m i a k j) (fun _ _=>True) (fun _ u _=>(.bool (!(u.any fun w=>b.wants.any (cw w)) && (!(t.any fun q=>a.wants.any fun w=>q.wants.any (cw w)) && placesGo (ps.take i++[a]) r)),[])) (fun acc V _=>?_) (fun jj w u acc V hv hjj hu _ hV=>?_) () ?_ trivial ?_).trans (by simp[Bool.and_assoc])
    ·simp[head99j,c99b1]
     exact (hZ' _ (by simp[head99k,hwk])).trans (by simp)
    ·have hwj:IntKind.i64.wrap ((jj:Int)+1)=(jj:Int)+1:=i64w (by omega) (by omega)
     obtain⟨_,hgw⟩:=List.getElem?_eq_some_iff.1 hv
     have hV':∀ s',s'.norm [0,3,4,5,6]=head99j ps m i a k (jj+1)->fin [CRes.tmp 2] 0 (V s')=some (.bool (!(u.any fun w=>b.wants.any (cw w)) && (!(t.any fun q=>a.wants.any fun w=>q.wants.any (cw w)) && placesGo (ps.take i++[a]) r)),[]):=fun s' h=>hV () s' trivial h
     simp only[List.any_cons,Bool.not_or]
     simp[head99j,c99b1,hjj]
     refine (Zab b.wants (fun n (_:Unit)=>head99n ps m i a k jj n) (fun _ _=>True) (fun _ x _=>(.bool (!(x.any (cw w)) && (!(u.any fun w=>b.wants.any (cw w)) && (!(t.any fun q=>a.wants.any fun w=>q.wants.any (cw w)) && placesGo (ps.take i++[a]) r))),[])) (fun acc U _=>?_) (fun n y x acc U hy hn hx _ hU=>?_) () ?_ trivial ?_).trans (by simp[Bool.and_assoc])
     ·simp[head99n,c99b0,hkl,hgb]
      exact (hV' _ (by simp[head99j,hwj])).trans (by simp)
     ·have hwn:IntKind.i64.wrap ((n:Int)+1)=(n:Int)+1:=i64w (by omega) (by omega)
      obtain⟨_,hgy⟩:=List.getElem?_eq_some_iff.1 hy
      simp only[List.any_cons,Bool.not_or]
      simp[head99n,c99b0,hkl,hgb,hn,hgy,hjj,hgw,cw]
      cases e1:sEq w.hold ⟨#[]⟩<;>cases e2:sEq w.hold y.hold<;>simp
      all_goals exact (hU () _ trivial (by simp[head99n,hwn])).trans (by simp[cw,e1])
     ·simp[head99n]
     ·unfold big;omega
    ·simp[head99j]
    ·unfold big;omega
   ·simp[head99k]
   ·simp;unfold big;omega
 ·simp[head99]
 ·unfold big;omega
def head24(l:Land)(m:Md)(i:Nat):St:=hd [(1,.ptr 0 0 0),(3,.int .i64 i)] [.box (l.c .bor m)] 0
theorem Zmy{α:Type}{xs:List α}{i:Nat}(hi:i<xs.length)(hm:xs.length<=9223372036854775807):(¬ 0<i/\(xs.take i).getLast?=none)\/∃ j:Nat,0<i/\IntKind.i64.wrap ((i:Int)-1)=(j:Int)/\∃ h:j<xs.length,(xs.take i).getLast?=some (xs[j]'h):=by
 by_cases hz:i=0
 ·left;exact⟨by omega,by rw[hz];rfl⟩
 ·right;exact prev hi hm hz
theorem law24(l:Land)(m:Md)(hl:l.small):F 24 [.agg (l.c .bor m)] []=some (.bool (landOk l),[]):=by
 refine Zah fn24 rfl ?_
 obtain⟨s1,s2,s3⟩:=hl
 have w99:=law99 l.places m s2 s3
 simp[c24,landOk]
 cases q1:inR l.time 0 2000000<;>simp
 by_cases q2:l.time.tmod 2=0
 case neg=>simp[q2]
 simp[q2]
 by_cases q3:l.grants.length<=40
 case neg =>
  have q3':¬ ((l.grants.length:Int)<=40):=by omega
  have q32:40<(l.grants.length:Int):=by omega
  simp[q3,q3',q32]
 have q3':(l.grants.length:Int)<=40:=by omega
 have q32:¬ (40<(l.grants.length:Int)):=by omega
 simp[q3,q3',q32]
 refine (Zab l.grants (fun i (_:Unit)=>head24 l m i) (fun _ _=>True) (fun i r _=>(.bool (grantsGo l.time (l.grants.take i) r && (decide (l.places.length<=4) && placesGo [] l.places)),[])) (fun acc Y _=>?_) (fun i a r acc Y ha hi hr _ hY=>?_) () ?_ trivial ?_).trans ?_
 ·simp[head24,c24b0,grantsGo,w99]
 ·have hw:IntKind.i64.wrap ((i:Int)+1)=(i:Int)+1:=i64w (by omega) (by omega)
  obtain⟨_,hg⟩:=List.getElem?_eq_some_iff.1 ha
  have hs:=Zao ha
  have hY':∀ s',s'.norm [1,3]=head24 l m (i+1)->fin [CRes.tmp 2] 0 (Y s')=some (.bool (grantsGo l.time (l.grants.take i++[a]) r && (decide (l.places.length<=4) && placesGo [] l.places)),[]):=fun s' h=>by rw[<- hs];exact hY () s' trivial h
  rcases Zmy hi (by omega) with ⟨hp,hlast⟩|⟨j,hp,hw1,hj,hlast⟩
  ·simp[head24,c24b0,grantsGo,hg,hi,ascG,hp,hlast,grantOk]
   cases r1:isHold a.hold<;>simp
   cases r2:isName a.berth<;>simp
   cases r3:isName a.copy<;>simp
   cases r4:inR a.at_ 0 1000000<;>simp
   cases r5:inR a.til 0 (IntKind.i64.wrap (l.time+32))<;>simp
   exact (hY' _ (by simp[head24,hw])).trans (by simp)
  ·simp[head24,c24b0,grantsGo,hg,hi,ascG,hp,hw1,hj,hlast,grantOk]
   cases r1:isHold a.hold<;>simp
   cases r2:isName a.berth<;>simp
   cases r3:isName a.copy<;>simp
   cases r4:inR a.at_ 0 1000000<;>simp
   cases r5:inR a.til 0 (IntKind.i64.wrap (l.time+32))<;>simp
   cases r6:sLt l.grants[j].hold a.hold<;>simp
   exact (hY' _ (by simp[head24,hw])).trans (by simp)
 ·simp[head24]
 ·unfold big;omega
 ·simp
  cases grantsGo l.time [] l.grants<;>simp
def aliveS(n:Int):Bool:=n == 3 || n == 4 || n == 6
@[simp] theorem aliveS_2:aliveS 2=false:=rfl
def alive(r:Run):Bool:=aliveS r.state
@[simp] theorem law1(s:T)(n:Int)(h:T)(n1 n2 n3 n4 m1 m2 m3 m4:Int):F 1 [.agg [.str s,.int .i64 n,.str h,.int .i64 n1,.int .i64 n2,.int .i64 n3,.int .i64 n4,.int .i64 m1,.int .i64 m2,.int .i64 m3,.int .i64 m4]] []=some (.bool (aliveS m1),[]):=by
 refine Zah fn1 rfl ?_
 simp[c1,aliveS]
 by_cases h1:m1=3<;>by_cases h2:m1=4<;>simp[h1,h2]
@[simp] theorem law2(s:T)(n:Int)(h:T)(n1 n2 n3 n4 m1 m2 m3 m4:Int):F 2 [.agg [.str s,.int .i64 n,.str h,.int .i64 n1,.int .i64 n2,.int .i64 n3,.int .i64 n4,.int .i64 m1,.int .i64 m2,.int .i64 m3,.int .i64 m4]] []=some (.bool (aliveS m1),[]):=by
 refine Zah fn2 rfl ?_
 simp[c2,aliveS]
 by_cases h1:m1=3<;>by_cases h2:m1=4<;>simp[h1,h2]
def leasedB(hold:T)(til clock:Int):Bool:=sEq hold ⟨#[]⟩ || decide (IntKind.i64.wrap (clock+4)<=til)
def leased(r:Run)(clock:Int):Bool:=leasedB r.want.hold r.til clock
@[simp] theorem law95(s:T)(n:Int)(h:T)(n1 n2 n3 n4 m1 m2 m3 m4 c:Int):F 95 [.agg [.str s,.int .i64 n,.str h,.int .i64 n1,.int .i64 n2,.int .i64 n3,.int .i64 n4,.int .i64 m1,.int .i64 m2,.int .i64 m3,.int .i64 m4],.int .i64 c] []=some (.bool (leasedB h m4 c),[]):=by
 refine Zah fn95 rfl ?_
 simp[c95,leasedB]
 cases h1:sEq h ⟨#[]⟩<;>simp[h1]
def runOk(r:Run)(clock:Int):Bool :=
 wantOk r.want && (inR r.state 1 6 && (inR r.left 0 100 && (!(r.state == 2 && r.left != 0) && (inR r.falls 0 1000 && (inR r.til 0 1000016 && (!(sEq r.want.hold ⟨#[]⟩ && r.til != 0) && (!alive r || leased r clock)))))))
@[simp] theorem law84(s:T)(n:Int)(h:T)(n1 n2 n3 n4 m1 m2 m3 m4 c:Int):F 84 [.agg [.str s,.int .i64 n,.str h,.int .i64 n1,.int .i64 n2,.int .i64 n3,.int .i64 n4,.int .i64 m1,.int .i64 m2,.int .i64 m3,.int .i64 m4],.int .i64 c] [] =
  some (.bool (runOk ⟨⟨s,n,h,n1,n2,n3,n4⟩,m1,m2,m3,m4⟩ c),[]):=by
 refine Zah fn84 rfl ?_
 simp[c84,runOk,alive,leased]
 cases h1:wantOk ⟨s,n,h,n1,n2,n3,n4⟩<;>simp[h1]
 cases h2:inR m1 1 6<;>simp[h2]
 cases h3:inR m2 0 100<;>simp[h3]
 by_cases h4:m1=2<;>simp[h4]
 ·by_cases h5:m2=0<;>simp[h5]
  cases h6:inR m3 0 1000<;>simp[h6]
  cases h7:inR m4 0 1000016<;>simp[h7]
  cases h8:sEq h ⟨#[]⟩<;>simp[h8,aliveS]
  by_cases h9:m4=0<;>simp[h9]
 ·cases h6:inR m3 0 1000<;>simp[h6]
  cases h7:inR m4 0 1000016<;>simp[h7]
  cases h8:sEq h ⟨#[]⟩<;>simp[h8]
  ·cases h9:aliveS m1<;>simp[h9,h4]
  ·by_cases h9:m4=0<;>simp[h9]
   cases h10:aliveS m1<;>simp[h10,h4]
def ascR(pre:List Run)(r:Run):Bool :=
 match pre.getLast? with
 | none=>true
 | some p=>sLt p.want.copy r.want.copy
def runsGo(clock:Int)(pre:List Run):List Run->Bool
 | []=>true
 | r::rs=>runOk r clock && (ascR pre r && runsGo clock (pre++[r]) rs)
def runsOk(rs:List Run)(clock:Int):Bool:=decide (rs.length<=20) && runsGo clock [] rs
def head12(rs:List Run)(c:Int)(i:Nat):St:=hd [(0,.sl .bor 11 (rs.map Run.c)),(1,.int .i64 c),(5,.int .i64 i)] [] 0
theorem law12(rs:List Run)(c:Int)(hl:rs.length<big):F 12 [.sl .bor 11 (rs.map Run.c),.int .i64 c] []=some (.bool (runsOk rs c),[]):=by
 refine Zah fn12 rfl ?_
 have hm:rs.length<=9223372036854775807:=by unfold big at hl;omega
 simp[c12,runsOk]
 by_cases h20:rs.length<=20
 ·have h20':¬ (20<(rs.length:Int)):=by omega
  simp[h20,h20']
  refine (Zab rs (fun i (_:Unit)=>head12 rs c i) (fun _ _=>True) (fun i r _=>(.bool (runsGo c (rs.take i) r),[])) (fun acc Y _=>?_) (fun i a r acc Y ha hi hr _ hY=>?_) () ?_ trivial ?_).trans rfl
  ·simp[head12,c12b0,runsGo]
  ·have hw:IntKind.i64.wrap ((i:Int)+1)=(i:Int)+1:=i64w (by omega) (by omega)
   obtain⟨_,hg⟩:=List.getElem?_eq_some_iff.1 ha
   have hs:=Zao ha
   have hY':∀ s',s'.norm [0,1,5]=head12 rs c (i+1)->fin [CRes.tmp 4] 0 (Y s')=some (.bool (runsGo c (rs.take i++[a]) r),[]):=fun s' h=>by rw[<- hs];exact hY () s' trivial h
   by_cases hz:i=0
   ·have hp:¬ 0<i:=by omega
    have ht:rs.take i=[]:=by rw[hz];rfl
    simp[head12,c12b0,runsGo,hg,hi,ascR,hp,ht]
    cases hq:runOk a c<;>simp[hq]
    rw[hY' _ (by simp[head12,hw])]
    simp[ht]
   ·obtain⟨j,hp,hw1,hj,hlast⟩:=prev hi hm hz
    simp[head12,c12b0,runsGo,hg,hi,ascR,hp,hw1,hj,hlast]
    cases hq:runOk a c<;>cases hr3:sLt rs[j].want.copy a.want.copy<;>simp[hq,hr3]
    rw[hY' _ (by simp[head12,hw])]
  ·simp[head12]
  ·exact hl
 ·have h20':20<(rs.length:Int):=by omega
  simp[h20,h20']
def head11(rs:List Run)(c:Int)(i:Nat):St:=hd [(0,.sl .bor 11 (rs.map Run.c)),(1,.int .i64 c),(10,.sl .bor 11 (rs.map Run.c)),(11,.int .i64 rs.length),(12,.int .i64 i)] [] 0
theorem law11(rs:List Run)(c:Int)(hl:rs.length<big):F 11 [.sl .bor 11 (rs.map Run.c),.int .i64 c] []=some (.bool (runsOk rs c),[]):=by
 refine Zah fn11 rfl ?_
 have hm:rs.length<=9223372036854775807:=by unfold big at hl;omega
 simp[c11,runsOk]
 by_cases h20:rs.length<=20
 ·have h20':¬ (20<(rs.length:Int)):=by omega
  simp[h20,h20']
  refine (Zab rs (fun i (_:Unit)=>head11 rs c i) (fun _ _=>True) (fun i r _=>(.bool (runsGo c (rs.take i) r),[])) (fun acc Y _=>?_) (fun i a r acc Y ha hi hr _ hY=>?_) () ?_ trivial ?_).trans rfl
  ·simp[head11,c11b0,runsGo]
  ·have hw:IntKind.i64.wrap ((i:Int)+1)=(i:Int)+1:=i64w (by omega) (by omega)
   obtain⟨_,hg⟩:=List.getElem?_eq_some_iff.1 ha
   have hs:=Zao ha
   have hY':∀ s',s'.norm [0,1,10,11,12]=head11 rs c (i+1)->fin [CRes.tmp 4] 0 (Y s')=some (.bool (runsGo c (rs.take i++[a]) r),[]):=fun s' h=>by rw[<- hs];exact hY () s' trivial h
   by_cases hz:i=0
   ·have hp:¬ 0<i:=by omega
    have ht:rs.take i=[]:=by rw[hz];rfl
    simp[head11,c11b0,runsGo,hg,hi,ascR,hp,ht,runOk,alive,leased,leasedB]
    cases q1:wantOk a.want<;>simp[q1]
    cases q2:inR a.state 1 6<;>simp[q2]
    cases q3:inR a.left 0 100<;>simp[q3]
    cases q5:inR a.falls 0 1000
    ·by_cases h4:a.state=2<;>by_cases h5:a.left=0<;>simp[h4,h5]
    cases q6:inR a.til 0 1000016
    ·by_cases h4:a.state=2<;>by_cases h5:a.left=0<;>simp[h4,h5]
    cases q7:sEq a.want.hold ⟨#[]⟩<;>simp
    ·by_cases h8:IntKind.i64.wrap (c+4)<=a.til
     ·have h9:¬ (a.til<IntKind.i64.wrap (c+4)):=by omega
      simp[h8,h9]
      by_cases h4:a.state=2<;>by_cases h5:a.left=0<;>simp[h4,h5]
      all_goals
       rw[hY' _ (by simp[head11,hw])]
       simp[ht,h4,h5]
     ·have h9:a.til<IntKind.i64.wrap (c+4):=by omega
      simp[h8,h9]
      by_cases h4:a.state=2<;>by_cases h5:a.left=0<;>simp[h4,h5]
      ·rw[hY' _ (by simp[head11,hw])]
       simp[ht,h4,h5]
      all_goals
       cases q10:aliveS a.state<;>simp[q10]
       rw[hY' _ (by simp[head11,hw])]
       simp[ht,h4,h5,q10]
    ·by_cases h8:a.til=0<;>simp[h8]
     ·by_cases h4:a.state=2<;>by_cases h5:a.left=0<;>simp[h4,h5]
      all_goals
       rw[hY' _ (by simp[head11,hw])]
       simp[ht,h4,h5]
   ·obtain⟨j,hp,hw1,hj,hlast⟩:=prev hi hm hz
    simp[head11,c11b0,runsGo,hg,hi,ascR,hp,hw1,hj,hlast,runOk,alive,leased,leasedB]
    cases q1:wantOk a.want<;>simp[q1]
    cases hr3:sLt rs[j].want.copy a.want.copy<;>simp[hr3]
    cases q2:inR a.state 1 6<;>simp[q2]
    cases q3:inR a.left 0 100<;>simp[q3]
    cases q5:inR a.falls 0 1000
    ·by_cases h4:a.state=2<;>by_cases h5:a.left=0<;>simp[h4,h5]
    cases q6:inR a.til 0 1000016
    ·by_cases h4:a.state=2<;>by_cases h5:a.left=0<;>simp[h4,h5]
    cases q7:sEq a.want.hold ⟨#[]⟩<;>simp
    ·by_cases h8:IntKind.i64.wrap (c+4)<=a.til
     ·have h9:¬ (a.til<IntKind.i64.wrap (c+4)):=by omega
      simp[h8,h9]
      by_cases h4:a.state=2<;>by_cases h5:a.left=0<;>simp[h4,h5]
      all_goals
       rw[hY' _ (by simp[head11,hw])]
       try simp[h4,h5]
     ·have h9:a.til<IntKind.i64.wrap (c+4):=by omega
      simp[h8,h9]
      by_cases h4:a.state=2<;>by_cases h5:a.left=0<;>simp[h4,h5]
      ·rw[hY' _ (by simp[head11,hw])]
       try simp[h4,h5]
      all_goals
       cases q10:aliveS a.state<;>simp[q10]
       rw[hY' _ (by simp[head11,hw])]
       try simp[h4,h5,q10]
    ·by_cases h8:a.til=0<;>simp[h8]
     ·by_cases h4:a.state=2<;>by_cases h5:a.left=0<;>simp[h4,h5]
      all_goals
       rw[hY' _ (by simp[head11,hw])]
       try simp[h4,h5]
  ·simp[head11]
  ·exact hl
 ·have h20':20<(rs.length:Int):=by omega
  simp[h20,h20']
def wd(c:Int)(r:Run):Run:=if alive r && !leased r c then { r with state:=2,left:=0 } else r
def ownV(sz:Nat)(xs:List (List AV)):AV:=match xs with
 | []=>.sl .own sz []
 | _=>.ref 0
def ownH(sz:Nat)(xs:List (List AV)):List AO:=match xs with
 | []=>[]
 | xs=>[.arr sz xs]
@[simp] theorem ownV_nil(sz:Nat):ownV sz []=.sl .own sz []:=rfl
@[simp] theorem ownH_nil(sz:Nat):ownH sz []=[]:=rfl
@[simp] theorem ownV_cons(sz:Nat)(x:List AV)(xs:List (List AV)):ownV sz (x::xs)=.ref 0:=rfl
@[simp] theorem ownH_cons(sz:Nat)(x:List AV)(xs:List (List AV)):ownH sz (x::xs)=[.arr sz (x::xs)]:=rfl
@[simp] theorem ownV_snoc(sz:Nat)(x:List AV)(xs:List (List AV)):ownV sz (xs++[x])=.ref 0:=by cases xs<;>rfl
@[simp] theorem ownH_snoc(sz:Nat)(x:List AV)(xs:List (List AV)):ownH sz (xs++[x])=[.arr sz (xs++[x])]:=by cases xs<;>rfl
def head18(rs:List Run)(c:Int)(i:Nat)(acc:List Run):St:=hd [(1,.int .i64 c),(5,ownV 11 (acc.map Run.c)),(8,.sl .bor 11 (rs.map Run.c)),(9,.int .i64 rs.length),(10,.int .i64 i)] (ownH 11 (acc.map Run.c)) 0
theorem law18(rs:List Run)(c:Int)(hl:rs.length<=1048576):F 18 [.sl .bor 11 (rs.map Run.c),.int .i64 c] []=some (.sl .own 11 ((rs.map (wd c)).map Run.c),[]):=by
 refine Zah fn18 rfl ?_
 simp[c18]
 refine (Zab rs (fun i (acc:List Run)=>head18 rs c i acc) (fun i acc=>acc.length=i) (fun _ r acc=>(.sl .own 11 ((acc++r.map (wd c)).map Run.c),[])) (fun acc Y hacc=>?_) (fun i a r acc Y ha hi hr hacc hY=>?_) [] ?_ rfl ?_).trans ?_
 ·rcases acc with _|⟨b,acc⟩
  ·simp[head18,c18b0]
  ·simp[head18,c18b0]
 ·have hw:IntKind.i64.wrap ((i:Int)+1)=(i:Int)+1:=i64w (by omega) (by omega)
  obtain⟨_,hg⟩:=List.getElem?_eq_some_iff.1 ha
  have hb1:((acc.length:Int)+1)*104<=140737488355328:=by omega
  have hb2:(acc.length:Int)+1<=140737488355328:=by omega
  have hb3:(acc.length+1)*104<=140737488355328:=by omega
  have hb4:acc.length+1<=140737488355328:=by omega
  have hfin:∀ x:Run,wd c a=x->∀ s':St,s'.norm [1,5,8,9,10]=head18 rs c (i+1) (acc++[x])->fin [CRes.tmp 4] 0 (Y s')=some (.sl .own 11 ((acc++(wd c a::r.map (wd c))).map Run.c),[]):=fun x hx s' h=>by
   rw[hY _ s' (by simp[hacc]) h,<- hx];simp
  rcases acc with _|⟨b,acc⟩
  ·simp[head18,c18b0,hi,hg,rowsPlain,takeRows]
   cases q1:aliveS a.state<;>simp
   ·exact (hfin a (by simp[wd,alive,q1]) _ (by simp[head18,hw])).trans (by simp)
   cases q2:sEq a.want.hold ⟨#[]⟩<;>simp
   ·by_cases q3:a.til<IntKind.i64.wrap (c+4)
    ·have q4:¬ (IntKind.i64.wrap (c+4)<=a.til):=by omega
     simp[q3]
     exact (hfin { a with state:=2,left:=0 } (by simp[wd,alive,leased,leasedB,q1,q2,q4]) _ (by simp[head18,hw])).trans (by simp)
    ·have q4:IntKind.i64.wrap (c+4)<=a.til:=by omega
     simp[q3]
     exact (hfin a (by simp[wd,alive,leased,leasedB,q1,q2,q4]) _ (by simp[head18,hw])).trans (by simp)
   ·exact (hfin a (by simp[wd,alive,leased,leasedB,q1,q2]) _ (by simp[head18,hw])).trans (by simp)
  ·simp only[List.length_cons]at hb3 hb4
   simp[head18,c18b0,hi,hg,rowsPlain,takeRows,hb3,hb4]
   cases q1:aliveS a.state<;>simp
   ·exact (hfin a (by simp[wd,alive,q1]) _ (by simp[head18,hw])).trans (by simp)
   cases q2:sEq a.want.hold ⟨#[]⟩<;>simp
   ·by_cases q3:a.til<IntKind.i64.wrap (c+4)
    ·have q4:¬ (IntKind.i64.wrap (c+4)<=a.til):=by omega
     simp[q3]
     exact (hfin { a with state:=2,left:=0 } (by simp[wd,alive,leased,leasedB,q1,q2,q4]) _ (by simp[head18,hw])).trans (by simp)
    ·have q4:IntKind.i64.wrap (c+4)<=a.til:=by omega
     simp[q3]
     exact (hfin a (by simp[wd,alive,leased,leasedB,q1,q2,q4]) _ (by simp[head18,hw])).trans (by simp)
   ·exact (hfin a (by simp[wd,alive,leased,leasedB,q1,q2]) _ (by simp[head18,hw])).trans (by simp)
 ·simp[head18]
 ·unfold big;omega
 ·simp
def askAtGo(h:T):List Ask->Nat->Int
 | [],_=>-1
 | a::r,i=>if sEq a.hold h then i else askAtGo h r (i+1)
def askAt(l:List Ask)(h:T):Int:=askAtGo h l 0
def head113(l:List Ask)(h:T)(i:Nat):St:=hd [(1,.str h),(7,.sl .bor 4 (l.map Ask.c)),(8,.int .i64 l.length),(9,.int .i64 i)] [] 0
theorem law113(l:List Ask)(h:T)(hl:l.length<=1048576):F 113 [.sl .bor 4 (l.map Ask.c),.str h] []=some (.int .i64 (askAt l h),[]):=by
 refine Zah fn113 rfl ?_
 simp[c113,askAt]
 refine (Zab l (fun i (_:Unit)=>head113 l h i) (fun _ _=>True) (fun i r _=>(.int .i64 (askAtGo h r i),[])) (fun acc Y _=>?_) (fun i a r acc Y ha hi hr _ hY=>?_) () ?_ trivial ?_).trans rfl
 ·simp[head113,c113b0,askAtGo]
 ·have hw:IntKind.i64.wrap ((i:Int)+1)=(i:Int)+1:=i64w (by omega) (by omega)
  obtain⟨_,hg⟩:=List.getElem?_eq_some_iff.1 ha
  simp[head113,c113b0,askAtGo,hi,hg]
  cases q:sEq a.hold h<;>simp
  rw[hY () _ trivial (by simp[head113,hw])]
 ·simp[head113]
 ·unfold big;omega
def head110(l:List Ask)(h:T)(i:Nat):St:=hd [(0,.sl .bor 4 (l.map Ask.c)),(1,.str h),(5,.int .i64 i)] [] 0
theorem law110(l:List Ask)(h:T)(hl:l.length<=1048576):F 110 [.sl .bor 4 (l.map Ask.c),.str h] []=some (.int .i64 (askAt l h),[]):=by
 refine Zah fn110 rfl ?_
 simp[c110,askAt]
 refine (Zab l (fun i (_:Unit)=>head110 l h i) (fun _ _=>True) (fun i r _=>(.int .i64 (askAtGo h r i),[])) (fun acc Y _=>?_) (fun i a r acc Y ha hi hr _ hY=>?_) () ?_ trivial ?_).trans rfl
 ·simp[head110,c110b0,askAtGo]
 ·have hw:IntKind.i64.wrap ((i:Int)+1)=(i:Int)+1:=i64w (by omega) (by omega)
  obtain⟨_,hg⟩:=List.getElem?_eq_some_iff.1 ha
  simp[head110,c110b0,askAtGo,hi,hg]
  cases q:sEq a.hold h<;>simp
  rw[hY () _ trivial (by simp[head110,hw])]
 ·simp[head110]
 ·unfold big;omega
def askOk(c:Int)(a:Ask):Bool:=isHold a.hold && (isName a.copy && (decide (0<=a.first) && (decide (a.first<=a.at_) && decide (a.at_<=c))))
def ascA(pre:List Ask)(a:Ask):Bool :=
 match pre.getLast? with
 | none=>true
 | some p=>sLt p.hold a.hold
def asksGo(c:Int)(pre:List Ask):List Ask->Bool
 | []=>true
 | a::r=>askOk c a && (ascA pre a && asksGo c (pre++[a]) r)
def asksOk(l:List Ask)(c:Int):Bool:=decide (l.length<=40) && asksGo c [] l
def head114(l:List Ask)(c:Int)(i:Nat):St:=hd [(0,.sl .bor 4 (l.map Ask.c)),(1,.int .i64 c),(7,.sl .bor 4 (l.map Ask.c)),(8,.int .i64 l.length),(9,.int .i64 i)] [] 0
theorem law114(l:List Ask)(c:Int)(hl:l.length<=1048576):F 114 [.sl .bor 4 (l.map Ask.c),.int .i64 c] []=some (.bool (asksOk l c),[]):=by
 refine Zah fn114 rfl ?_
 have hm:l.length<=9223372036854775807:=by omega
 simp[c114,asksOk]
 refine (Zab l (fun i (_:Unit)=>head114 l c i) (fun _ _=>True) (fun i r _=>(.bool (decide (l.length<=40) && asksGo c (l.take i) r),[])) (fun acc Y _=>?_) (fun i a r acc Y ha hi hr _ hY=>?_) () ?_ trivial ?_).trans rfl
 ·simp[head114,c114b0,asksGo]
  omega
 ·have hw:IntKind.i64.wrap ((i:Int)+1)=(i:Int)+1:=i64w (by omega) (by omega)
  obtain⟨_,hg⟩:=List.getElem?_eq_some_iff.1 ha
  have hs:=Zao ha
  have hY':∀ s',s'.norm [0,1,7,8,9]=head114 l c (i+1)->fin [CRes.tmp 4] 0 (Y s')=some (.bool (decide (l.length<=40) && asksGo c (l.take i++[a]) r),[]):=fun s' h=>by rw[<- hs];exact hY () s' trivial h
  by_cases hz:i=0
  ·have hp:¬ 0<i:=by omega
   have ht:l.take i=[]:=by rw[hz];rfl
   simp[head114,c114b0,asksGo,hg,hi,ascA,hp,ht,askOk]
   cases q1:isHold a.hold<;>simp
   cases q2:isName a.copy<;>simp
   rcases Int.lt_or_le a.first 0 with h|h
   ·have h':¬ (0<=a.first):=by omega
    simp[h,h']
   have h':¬ (a.first<0):=by omega
   simp[h,h']
   rcases Int.lt_or_le a.at_ a.first with h2|h2
   ·have h2':¬ (a.first<=a.at_):=by omega
    simp[h2,h2']
   have h2':¬ (a.at_<a.first):=by omega
   simp[h2,h2']
   rcases Int.lt_or_le c a.at_ with h3|h3
   ·have h3':¬ (a.at_<=c):=by omega
    simp[h3,h3']
   have h3':¬ (c<a.at_):=by omega
   simp[h3,h3']
   rw[hY' _ (by simp[head114,hw])]
   simp[ht]
  ·obtain⟨j,hp,hw1,hj,hlast⟩:=prev hi hm hz
   simp[head114,c114b0,asksGo,hg,hi,ascA,hp,hw1,hj,hlast,askOk]
   cases q1:isHold a.hold<;>simp
   cases q2:isName a.copy<;>simp
   cases q3:sLt l[j].hold a.hold<;>simp
   rcases Int.lt_or_le a.first 0 with h|h
   ·have h':¬ (0<=a.first):=by omega
    simp[h,h']
   have h':¬ (a.first<0):=by omega
   simp[h,h']
   rcases Int.lt_or_le a.at_ a.first with h2|h2
   ·have h2':¬ (a.first<=a.at_):=by omega
    simp[h2,h2']
   have h2':¬ (a.at_<a.first):=by omega
   simp[h2,h2']
   rcases Int.lt_or_le c a.at_ with h3|h3
   ·have h3':¬ (a.at_<=c):=by omega
    simp[h3,h3']
   have h3':¬ (c<a.at_):=by omega
   simp[h3,h3']
   rw[hY' _ (by simp[head114,hw])]
 ·simp[head114]
 ·unfold big;omega
def head111(l:List Ask)(c:Int)(i:Nat):St:=hd [(0,.sl .bor 4 (l.map Ask.c)),(1,.int .i64 c),(5,.int .i64 i)] [] 0
theorem law111(l:List Ask)(c:Int)(hl:l.length<=1048576):F 111 [.sl .bor 4 (l.map Ask.c),.int .i64 c] []=some (.bool (asksOk l c),[]):=by
 refine Zah fn111 rfl ?_
 have hm:l.length<=9223372036854775807:=by omega
 simp[c111,asksOk]
 by_cases h40:l.length<=40
 ·have h40':¬ (40<(l.length:Int)):=by omega
  simp[h40,h40']
  refine (Zab l (fun i (_:Unit)=>head111 l c i) (fun _ _=>True) (fun i r _=>(.bool (asksGo c (l.take i) r),[])) (fun acc Y _=>?_) (fun i a r acc Y ha hi hr _ hY=>?_) () ?_ trivial ?_).trans rfl
  ·simp[head111,c111b0,asksGo]
  ·have hw:IntKind.i64.wrap ((i:Int)+1)=(i:Int)+1:=i64w (by omega) (by omega)
   obtain⟨_,hg⟩:=List.getElem?_eq_some_iff.1 ha
   have hs:=Zao ha
   have hY':∀ s',s'.norm [0,1,5]=head111 l c (i+1)->fin [CRes.tmp 4] 0 (Y s')=some (.bool (asksGo c (l.take i++[a]) r),[]):=fun s' h=>by rw[<- hs];exact hY () s' trivial h
   have q4:∀ b:Bool,(askOk c a && b)=(isHold a.hold && (isName a.copy && (inR a.at_ 0 c && (inR a.first 0 a.at_ && b)))):=fun b=>by
    unfold askOk inR
    cases isHold a.hold<;>cases isName a.copy<;>simp
    by_cases h1:0<=a.first<;>by_cases h2:a.first<=a.at_<;>by_cases h3:a.at_<=c<;>simp[h1,h2,h3]
    omega
   by_cases hz:i=0
   ·have hp:¬ 0<i:=by omega
    have ht:l.take i=[]:=by rw[hz];rfl
    simp[head111,c111b0,asksGo,hg,hi,ascA,hp,ht,q4]
    cases q1:isHold a.hold<;>simp
    cases q2:isName a.copy<;>simp
    cases q5:inR a.at_ 0 c<;>simp
    cases q6:inR a.first 0 a.at_<;>simp
    rw[hY' _ (by simp[head111,hw])]
    simp[ht]
   ·obtain⟨j,hp,hw1,hj,hlast⟩:=prev hi hm hz
    simp[head111,c111b0,asksGo,hg,hi,ascA,hp,hw1,hj,hlast,q4]
    cases q1:isHold a.hold<;>simp
    cases q2:isName a.copy<;>simp
    cases q5:inR a.at_ 0 c<;>simp
    cases q6:inR a.first 0 a.at_<;>simp
    cases q3:sLt l[j].hold a.hold<;>simp
    rw[hY' _ (by simp[head111,hw])]
  ·simp[head111]
  ·unfold big;omega
 ·have h40':40<(l.length:Int):=by omega
  simp[h40,h40']
structure Mate.small(m:Mate):Prop where
 wants:m.wants.length<=1048576
 runs:m.runs.length<=1048576
 asks:m.asks.length<=1048576
 gives:m.gives.length<=1048576
def mateParts(m:Mate):Bool :=
 isName m.name && (inR m.clock 0 1000000 && (inR m.seen 0 1000000 && (wantsOk m.wants && ((m.known || m.wants.isEmpty) && (runsOk m.runs m.clock && (asksOk m.asks m.clock && asksOk m.gives m.clock))))))
def apartGo(gives:List Ask)(l:List Ask):Bool:=l.all fun a=>decide (askAt gives a.hold<0)
def downRuns(l:List Run):Bool:=l.all fun r=>alive r || !sEq r.want.hold ⟨#[]⟩
def mateDown(m:Mate):Bool:=!m.known && ((m.asks.isEmpty && m.gives.isEmpty) && (m.seen == 0 && downRuns m.runs))
def mateValid(m:Mate):Bool:=mateParts m && (apartGo m.gives m.asks && (m.up || mateDown m))
def head28a(m:Mate)(i:Nat):St:=hd [(1,.ptr 0 0 0),(65,.sl .bor 4 (m.asks.map Ask.c)),(66,.int .i64 m.asks.length),(67,.int .i64 i)] [.box (m.c .bor)] 0
def head28b(m:Mate)(i:Nat):St:=hd [(99,.sl .bor 11 (m.runs.map Run.c)),(100,.int .i64 m.runs.length),(101,.int .i64 i)] [] 0
theorem law28(m:Mate)(hm:m.small):F 28 [.agg (m.c .bor)] []=some (.bool (mateValid m),[]):=by
 refine Zah fn28 rfl ?_
 have hr:=hm.runs
 have ha:=hm.asks
 have l6:=law6 m.wants (by unfold big;have:=hm.wants;omega)
 have l11:=law11 m.runs m.clock (by unfold big;omega)
 have l114a:=law114 m.asks m.clock hm.asks
 have l114g:=law114 m.gives m.clock hm.gives
 simp[c28,mateValid,mateParts,l6,l11,l114a,l114g]
 cases q1:isName m.name<;>simp
 cases q2:inR m.clock 0 1000000<;>simp
 cases q3:inR m.seen 0 1000000<;>simp
 cases q4:wantsOk m.wants<;>simp
 have q5:(m.known=false/\m.wants≠[])\/(m.known=false/\m.wants=[])\/(m.known=true/\(m.wants=[]\/m.wants≠[])):=by
  cases m.known<;>by_cases q6:m.wants=[]<;>simp[q6]
 rcases q5 with ⟨q5,q6⟩|⟨q5,q6⟩|⟨q5,q6⟩
 ·simp[q5,q6]
 all_goals
  simp[q5,q6]
  cases q7:runsOk m.runs m.clock<;>simp
  cases q8:asksOk m.asks m.clock<;>simp
  cases q9:asksOk m.gives m.clock<;>simp
  refine (Zab m.asks (fun i (_:Unit)=>head28a m i) (fun _ _=>True) (fun _ r _=>(.bool (apartGo m.gives r && (m.up || mateDown m)),[])) (fun acc Y _=>?_) (fun i a r acc Y ha hi hr _ hY=>?_) () ?_ trivial ?_).trans ?_
  ·simp[head28a,c28b0,apartGo,q5]
   cases q10:m.up<;>simp[mateDown,q5]
   try
    have hsum:IntKind.i64.wrap ((m.asks.length:Int)+m.gives.length)=(m.asks.length:Int)+m.gives.length:=i64w (by omega) (by have:=hm.gives;omega)
    rw[hsum]
    by_cases e1:m.asks=[]/\m.gives=[]
    ·obtain⟨e1,e2⟩:=e1
     simp[e1,e2]
     by_cases e3:m.seen=0<;>simp[e3]
     refine (Zab m.runs (fun i (_:Unit)=>head28b m i) (fun _ _=>True) (fun _ r _=>(.bool (downRuns r),[])) (fun acc Y _=>?_) (fun i a r acc Y ha hi hr _ hY=>?_) () ?_ trivial ?_).trans ?_
     ·simp[head28b,c28b1,downRuns]
     ·have hw:IntKind.i64.wrap ((i:Int)+1)=(i:Int)+1:=i64w (by omega) (by omega)
      obtain⟨_,hg⟩:=List.getElem?_eq_some_iff.1 ha
      simp[head28b,c28b1,downRuns,hi,hg,alive]
      cases q11:aliveS a.state<;>cases q12:sEq a.want.hold ⟨#[]⟩<;>simp
      all_goals
       rw[hY () _ trivial (by simp[head28b,hw])]
       simp[downRuns,alive]
     ·simp[head28b]
     ·unfold big;omega
     ·simp
    ·have e2:¬ ((m.asks.length:Int)+m.gives.length<=0):=by
      intro h
      apply e1
      constructor
      ·exact List.length_eq_zero_iff.1 (by omega)
      ·exact List.length_eq_zero_iff.1 (by omega)
     simp[e2]
     intro h1 h2
     exact absurd ⟨h1,h2⟩ e1
  ·have hw:IntKind.i64.wrap ((i:Int)+1)=(i:Int)+1:=i64w (by omega) (by omega)
   obtain⟨_,hg⟩:=List.getElem?_eq_some_iff.1 ha
   have l113:=law113 m.gives a.hold hm.gives
   simp[head28a,c28b0,apartGo,hi,hg,l113]
   rcases Int.lt_or_le (askAt m.gives a.hold) 0 with h|h
   ·have h':¬ (0<=askAt m.gives a.hold):=by omega
    simp[h,h']
    rw[hY () _ trivial (by simp[head28a,hw])]
    simp[apartGo]
   ·have h':¬ (askAt m.gives a.hold<0):=by omega
    simp[h,h']
  ·simp[head28a,q5,q6]
  ·unfold big;omega
  ·simp[apartGo,q5]
def head29a(m:Mate)(i:Nat):St:=hd [(1,.ptr 0 0 0),(3,.int .i64 i)] [.box (m.c .bor)] 0
def head29b(m:Mate)(i:Nat):St:=hd [(1,.ptr 0 0 0),(4,.int .i64 i)] [.box (m.c .bor)] 0
theorem law29(m:Mate)(hm:m.small):F 29 [.agg (m.c .bor)] []=some (.bool (mateValid m),[]):=by
 refine Zah fn29 rfl ?_
 have hr:=hm.runs
 have ha:=hm.asks
 have l6:=law7 m.wants (by unfold big;have:=hm.wants;omega)
 have l11:=law12 m.runs m.clock (by unfold big;omega)
 have l114a:=law111 m.asks m.clock hm.asks
 have l114g:=law111 m.gives m.clock hm.gives
 simp[c29,mateValid,mateParts,l6,l11,l114a,l114g]
 cases q1:isName m.name<;>simp
 cases q2:inR m.clock 0 1000000<;>simp
 cases q3:inR m.seen 0 1000000<;>simp
 cases q4:wantsOk m.wants<;>simp
 have q5':(m.known=false/\m.wants≠[])\/(m.known=false/\m.wants=[])\/(m.known=true/\m.wants=[])\/(m.known=true/\m.wants≠[]):=by
  cases m.known<;>by_cases q6:m.wants=[]<;>simp[q6]
 rcases q5' with ⟨q5,q6⟩|⟨q5,q6⟩|⟨q5,q6⟩|⟨q5,q6⟩
 ·simp[q5,q6,List.length_pos_iff]
 all_goals
  simp[q5,q6,List.length_pos_iff]
  cases q7:runsOk m.runs m.clock<;>simp
  cases q8:asksOk m.asks m.clock<;>simp
  cases q9:asksOk m.gives m.clock<;>simp
  refine (Zab m.asks (fun i (_:Unit)=>head29a m i) (fun _ _=>True) (fun _ r _=>(.bool (apartGo m.gives r && (m.up || mateDown m)),[])) (fun acc Y _=>?_) (fun i a r acc Y ha hi hr _ hY=>?_) () ?_ trivial ?_).trans ?_
  ·simp[head29a,c29b0,apartGo]
   cases q10:m.up<;>simp
   refine (Zab m.runs (fun i (_:Unit)=>head29b m i) (fun _ _=>True) (fun _ r _=>(.bool (!m.known && ((m.asks.isEmpty && m.gives.isEmpty) && (m.seen == 0 && downRuns r))),[])) (fun acc Y _=>?_) (fun i a r acc Y ha hi hr _ hY=>?_) () ?_ trivial ?_).trans ?_
   ·have hsum:IntKind.i64.wrap ((m.asks.length:Int)+m.gives.length)=(m.asks.length:Int)+m.gives.length:=i64w (by omega) (by have:=hm.gives;omega)
    have hemp:(((m.asks.length:Int)+m.gives.length) == 0)=(m.asks.isEmpty && m.gives.isEmpty):=by
     cases h1:m.asks<;>cases h2:m.gives<;>simp
     all_goals omega
    simp[head29b,c29b1,downRuns,q5,hsum,hemp]
    try
     by_cases e3:m.seen=0<;>simp[e3]
   ·have hw:IntKind.i64.wrap ((i:Int)+1)=(i:Int)+1:=i64w (by omega) (by omega)
    obtain⟨_,hg⟩:=List.getElem?_eq_some_iff.1 ha
    simp[head29b,c29b1,downRuns,hi,hg,alive]
    cases q11:aliveS a.state<;>cases q12:sEq a.want.hold ⟨#[]⟩<;>simp
    all_goals
     rw[hY () _ trivial (by simp[head29b,hw])]
     simp[downRuns,alive]
   ·simp[head29b,q5,q6,q10]
   ·unfold big;omega
   ·simp[mateDown]
  ·have hw:IntKind.i64.wrap ((i:Int)+1)=(i:Int)+1:=i64w (by omega) (by omega)
   obtain⟨_,hg⟩:=List.getElem?_eq_some_iff.1 ha
   have l113:=law110 m.gives a.hold hm.gives
   simp[head29a,c29b0,apartGo,hi,hg,l113]
   rcases Int.lt_or_le (askAt m.gives a.hold) 0 with h|h
   ·have h':¬ (0<=askAt m.gives a.hold):=by omega
    simp[h,h']
    rw[hY () _ trivial (by simp[head29a,hw])]
    simp[apartGo]
   ·have h':¬ (askAt m.gives a.hold<0):=by omega
    simp[h,h']
  ·simp[head29a,q5,q6]
  ·unfold big;omega
  ·simp[apartGo,q5]
@[simp] theorem plain_want(ws:List Want):rowsPlain (ws.map Want.c)=true:=by simp[rowsPlain]
@[simp] theorem plain_run(ws:List Run):rowsPlain (ws.map Run.c)=true:=by simp[rowsPlain]
@[simp] theorem plain_ask(ws:List Ask):rowsPlain (ws.map Ask.c)=true:=by simp[rowsPlain]
@[simp] theorem plain_grant(ws:List Grant):rowsPlain (ws.map Grant.c)=true:=by simp[rowsPlain]
@[simp] theorem plain_text(ws:List T):rowsPlain (ws.map fun s=>[.str s])=true:=by simp[rowsPlain]
theorem law117(m:Mate)(hm:m.small):F 117 [.agg (m.c .bor)] []=some (.agg (m.c .own),[]):=by
 refine Zah fn117 rfl ?_
 obtain⟨h1,h2,h3,h4⟩:=hm
 have e1:m.wants.length*72<=140737488355328:=by omega
 have e2:m.runs.length*104<=140737488355328:=by omega
 have e3:m.asks.length*48<=140737488355328:=by omega
 have e4:m.gives.length*48<=140737488355328:=by omega
 have f1:m.wants.length<=140737488355328:=by omega
 have f2:m.runs.length<=140737488355328:=by omega
 have f3:m.asks.length<=140737488355328:=by omega
 have f4:m.gives.length<=140737488355328:=by omega
 simp[c117,takeRows,e1,e2,e3,e4,f1,f2,f3,f4]
def Mate.zero:Mate:=⟨⟨#[]⟩,false,0,false,0,[],[],[],[]⟩
def mateRise(m:Mate):Mate:=if mateValid m then { m with up:=m.up || decide (m.clock<1000000) } else .zero
theorem Zlu{m:Mate}(h:mateValid m=true):0<=m.clock/\m.clock<=1000000:=by
 unfold mateValid mateParts at h
 simp only[Bool.and_eq_true]at h
 have:=h.1.2.1
 simpa [inR] using this
theorem law35(m:Mate)(hm:m.small):F 35 [.agg (m.c .bor)] []=some (.agg ((mateRise m).c .own),[]):=by
 refine Zah fn35 rfl ?_
 have w1:=law28 m hm
 have w2:=law117 m hm
 simp only[Mate.c]at w1 w2
 simp[c35,w1,mateRise]
 cases hv:mateValid m
 ·simp[Mate.zero]
 ·have hc:=Zlu hv
  simp[w2]
  by_cases h:m.clock=1000000
  ·simp[h]
  ·have h2:m.clock<1000000:=by omega
   simp[h,h2]
def fallRun(machine:Bool)(r:Run):Option Run :=
 if alive r then (if machine then (if sEq r.want.hold ⟨#[]⟩ then none else some { r with state:=2,left:=0 }) else some r) else none
def mateFall(m:Mate)(machine:Bool):Mate:=if mateValid m then { Mate.zero with name:=m.name,clock:=m.clock,runs:=m.runs.filterMap (fallRun machine) } else .zero
def ownVi(id sz:Nat)(xs:List (List AV)):AV:=match xs with
 | []=>.sl .own sz []
 | _=>.ref id
@[simp] theorem ownVi_nil(id sz:Nat):ownVi id sz []=.sl .own sz []:=rfl
@[simp] theorem ownVi_cons(id sz:Nat)(x:List AV)(xs:List (List AV)):ownVi id sz (x::xs)=.ref id:=rfl
@[simp] theorem ownVi_snoc(id sz:Nat)(x:List AV)(xs:List (List AV)):ownVi id sz (xs++[x])=.ref id:=by cases xs<;>rfl
def zeroCells:List AV:=[.str ⟨#[]⟩,.bool false,.int .i64 0,.bool false,.int .i64 0,.sl .own 7 [],.sl .own 11 [],.sl .own 4 [],.sl .own 4 []]
def fallCells(m:Mate)(acc:List Run):List AV:=[.str m.name,.bool false,.int .i64 m.clock,.bool false,.int .i64 0,.sl .own 7 [],ownVi 2 11 (acc.map Run.c),.sl .own 4 [],.sl .own 4 []]
def head36(m:Mate)(b:Bool)(i:Nat)(acc:List Run):St:=hd [(1,.bool b),(4,.ptr 0 0 0),(5,.ptr 1 0 0),(18,.sl .bor 11 (m.runs.map Run.c)),(19,.int .i64 m.runs.length),(20,.int .i64 i)] (.box zeroCells::.box (fallCells m acc)::ownH 11 (acc.map Run.c)) 0
theorem law36(m:Mate)(b:Bool)(hm:m.small):F 36 [.agg (m.c .bor),.bool b] []=some (.agg ((mateFall m b).c .own),[]):=by
 refine Zah fn36 rfl ?_
 have hr:=hm.runs
 have w1:=law28 m hm
 simp only[Mate.c]at w1
 simp[c36,w1,mateFall]
 cases hv:mateValid m<;>simp
 ·simp[Mate.zero]
 refine (Zab m.runs (fun i (acc:List Run)=>head36 m b i acc) (fun i acc=>acc.length<=i) (fun _ r acc=>(.agg (({ Mate.zero with name:=m.name,clock:=m.clock,runs:=acc++r.filterMap (fallRun b) }:Mate).c .own),[])) (fun acc Y hacc=>?_) (fun i a r acc Y ha hi hr hacc hY=>?_) [] ?_ (Nat.le_refl _) ?_).trans ?_
 ·rcases acc with _|⟨x,acc⟩
  ·simp[head36,c36b0,zeroCells,fallCells,Mate.zero]
  ·simp[head36,c36b0,zeroCells,fallCells,Mate.zero]
 ·have hw:IntKind.i64.wrap ((i:Int)+1)=(i:Int)+1:=i64w (by omega) (by omega)
  obtain⟨_,hg⟩:=List.getElem?_eq_some_iff.1 ha
  have hb3:(acc.length+1)*104<=140737488355328:=by omega
  have hb4:acc.length+1<=140737488355328:=by omega
  have hno:fallRun b a=none->∀ s':St,s'.norm [1,4,5,18,19,20]=head36 m b (i+1) acc->fin [CRes.cell 4 9 true] 0 (Y s')=some (.agg (({ Mate.zero with name:=m.name,clock:=m.clock,runs:=acc++(a::r).filterMap (fallRun b) }:Mate).c .own),[]):=fun hx s' h=>by
   rw[hY acc s' (by omega) h];simp[hx]
  have hyes:∀ x,fallRun b a=some x->∀ s':St,s'.norm [1,4,5,18,19,20]=head36 m b (i+1) (acc++[x])->fin [CRes.cell 4 9 true] 0 (Y s')=some (.agg (({ Mate.zero with name:=m.name,clock:=m.clock,runs:=acc++(a::r).filterMap (fallRun b) }:Mate).c .own),[]):=fun x hx s' h=>by
   rw[hY (acc++[x]) s' (by simp;omega) h];simp[hx]
  rcases acc with _|⟨x,acc⟩
  ·simp[head36,c36b0,zeroCells,fallCells,hi,hg,takeRows,rowsPlain]
   cases q1:aliveS a.state<;>simp
   ·exact (hno (by simp[fallRun,alive,q1]) _ (by simp[head36,hw,zeroCells,fallCells])).trans (by simp)
   cases q2:b<;>simp
   ·exact (hyes a (by simp[fallRun,alive,q1,q2]) _ (by simp[head36,hw,zeroCells,fallCells,q2])).trans (by simp[q2])
   cases q3:sEq a.want.hold ⟨#[]⟩<;>simp
   ·exact (hyes { a with state:=2,left:=0 } (by simp[fallRun,alive,q1,q2,q3]) _ (by simp[head36,hw,zeroCells,fallCells,q2])).trans (by simp[q2])
   ·exact (hno (by simp[fallRun,alive,q1,q2,q3]) _ (by simp[head36,hw,zeroCells,fallCells,q2])).trans (by simp[q2])
  ·simp only[List.length_cons]at hb3 hb4
   simp[head36,c36b0,zeroCells,fallCells,hi,hg,takeRows,rowsPlain,hb3,hb4]
   cases q1:aliveS a.state<;>simp
   ·exact (hno (by simp[fallRun,alive,q1]) _ (by simp[head36,hw,zeroCells,fallCells])).trans (by simp)
   cases q2:b<;>simp
   ·exact (hyes a (by simp[fallRun,alive,q1,q2]) _ (by simp[head36,hw,zeroCells,fallCells,q2])).trans (by simp[q2])
   cases q3:sEq a.want.hold ⟨#[]⟩<;>simp
   ·exact (hyes { a with state:=2,left:=0 } (by simp[fallRun,alive,q1,q2,q3]) _ (by simp[head36,hw,zeroCells,fallCells,q2])).trans (by simp[q2])
   ·exact (hno (by simp[fallRun,alive,q1,q2,q3]) _ (by simp[head36,hw,zeroCells,fallCells,q2])).trans (by simp[q2])
 ·simp[head36,zeroCells,fallCells]
 ·unfold big;omega
 ·simp[Mate.zero]
end Go.Proofs.YtfemiipgkhekiaaGreatDoor
namespace Go.Proofs.YtfemiipgkhekiaaGreatDoor
open Go
set_option linter.unusedSimpArgs false
set_option maxRecDepth 100000
def off(l:Int)(n:Nat):Int:=if IntKind.i64.wrap (l-n)<0 then -1 else IntKind.i64.wrap (l-n)
def fillU{α:Type}(c:α->List AV)(z:List AV)(ws:List α)(i:Nat):List (List AV):=(ws.take i).map c++List.replicate (ws.length-i) z
section
variable {α:Type} (c:α->List AV) (z:List AV) {ws:List α} {i:Nat}
@[simp] theorem fillU_len:(fillU c z ws i).length=ws.length:=by simp[fillU];omega
theorem Zp2(h:i<ws.length):(fillU c z ws i)[i]?=some z:=by
 have:(List.map c (ws.take i)).length=i:=by simp;omega
 rw[fillU,List.getElem?_append_right (by omega),this,Nat.sub_self,List.getElem?_replicate,if_pos (by omega)]
@[simp] theorem fillU_at(h:i<(fillU c z ws i).length):(fillU c z ws i)[i]=z:=by
 have:=Zp2 c z (ws:=ws) (i:=i) (by simpa using h)
 rw[List.getElem?_eq_getElem h]at this
 exact Option.some.inj this
end
end Go.Proofs.YtfemiipgkhekiaaGreatDoor
namespace Go.Proofs.YtfemiipgkhekiaaGreatDoor
open Go
set_option linter.unusedSimpArgs false
set_option maxRecDepth 100000
end Go.Proofs.YtfemiipgkhekiaaGreatDoor
namespace Go.Proofs.YtfemiipgkhekiaaGreatDoor
open Go
set_option linter.unusedSimpArgs false
set_option maxRecDepth 100000
def up(k:Int):Int:=IntKind.i64.wrap (k+1)
def it(f:Int->Int):Nat->Int->Int
 | 0,k=>k
 | n+1,k=>f (it f n k)
def mixU{α:Type}(c:α->List AV)(ws ms:List α)(i:Nat):List (List AV):=(ms.take i).map c++(ws.drop i).map c
section
variable {α:Type} (c:α->List AV) {ws ms:List α} {i:Nat}
theorem Znb(h:ms.length=ws.length)(hi:i<=ws.length):(mixU c ws ms i).length=ws.length:=by simp[mixU];omega
theorem Zsr{a:α}(ha:ws[i]?=some a)(h:ms.length=ws.length):(mixU c ws ms i)[i]?=some (c a):=by
 obtain⟨hi,hg⟩:=List.getElem?_eq_some_iff.1 ha
 have h1:(List.map c (ms.take i)).length=i:=by simp;omega
 rw[mixU,List.getElem?_append_right (by omega),h1,Nat.sub_self,List.getElem?_map,List.getElem?_drop]
 simp[ha]
theorem Zmw{b:α}(hb:ms[i]?=some b)(h:ms.length=ws.length):(mixU c ws ms i).set i (c b)=mixU c ws ms (i+1):=by
 obtain⟨hi,hg⟩:=List.getElem?_eq_some_iff.1 hb
 have h1:(List.map c (ms.take i)).length=i:=by simp;omega
 rw[mixU,mixU,List.set_append_right _ _ (by omega),h1,Nat.sub_self,List.drop_eq_getElem_cons (show i<ws.length by omega),List.map_cons,List.set_cons_zero,Zao hb]
 simp
theorem Zqv{a:α}(ha:ws[i]?=some a)(h:ms.length=ws.length)(hl:i<(mixU c ws ms i).length):(mixU c ws ms i)[i]=c a:=by
 have:=Zsr c ha h
 rw[List.getElem?_eq_getElem hl]at this
 exact Option.some.inj this
theorem Zrj{a:α}(ha:ws[i]?=some a)(hb:ms[i]?=some a)(h:ms.length=ws.length):mixU c ws ms i=mixU c ws ms (i+1):=by
 have hi:=(List.getElem?_eq_some_iff.1 ha).1
 have hl:i<(mixU c ws ms i).length:=by rw[Znb c h (by omega)];exact hi
 have:=List.set_getElem_self (as:=mixU c ws ms i) (i:=i) hl
 rw[Zqv c ha h hl]at this
 rw[<- Zmw c hb h,this]
theorem Zqm:mixU c ws ms 0=ws.map c:=by simp[mixU]
theorem Zsg(h:ms.length=ws.length):mixU c ws ms ws.length=ms.map c:=by simp[mixU,<- h]
end
end Go.Proofs.YtfemiipgkhekiaaGreatDoor
namespace Go.Proofs.YtfemiipgkhekiaaGreatDoor
open Go
set_option linter.unusedSimpArgs false
set_option maxRecDepth 100000
end Go.Proofs.YtfemiipgkhekiaaGreatDoor
namespace Go.Proofs.YtfemiipgkhekiaaGreatDoor
open Go Go.RowKit
def cellAt(xs:List (List AV))(i j:Nat):Option AV:=(xs[i]?).bind (·[j]?)
theorem Zaa{xs:List (List AV)}{i j:Nat}{c:AV}:cellAt xs i j=some c↔∃ row,xs[i]?=some row/\row[j]?=some c:=by
 unfold cellAt
 cases h:xs[i]?<;>simp
def Same(w w':World)(S:Nat->Prop):Prop:=∀ b,S b->w'.heap[b]?=w.heap[b]?
theorem Same.refl(w:World)(S:Nat->Prop):Same w w S:=fun _ _=>rfl
theorem Same.mono{w w':World}{S T:Nat->Prop}(h:Same w w' S)(hs:∀ b,T b->S b):Same w w' T:=fun b hb=>h b (hs b hb)
theorem Same.trans{a b c:World}{S:Nat->Prop}(h:Same a b S)(k:Same b c S):Same a c S:=fun x hx=>(k x hx).trans (h x hx)
theorem Same.cell{w w':World}{S:Nat->Prop}(h:Same w w' S){a:Addr}(ha:S a.block):w'.cell? a=w.cell? a:=World.cell?_of_block (h _ ha)
/-! ### What is on loan -/
inductive Bor (w:World) (R:Nat->Prop):Value->AV->Prop
 | any (v:Value) (h:v.oneCell'=true):Bor w R v .any
 | bool (b:Bool):Bor w R (.bool b) (.bool b)
 | int (k:IntKind) (n:Int):Bor w R (.int k n) (.int k n)
 | str (s:ByteArray):Bor w R (.string s) (.str s)
 | nil (m:Md) (sz:Nat) (a:Option Addr) (cap:Nat):Bor w R (.slice a 0 cap) (.sl m sz [])
 | sl (m:Md) (sz:Nat) (xs:List (List AV)) (b o cap:Nat) (us:Nat->Nat->Value) (hcap:xs.length<=cap) (hb:R b) (hrow:∀ row∈xs,row.length=sz)
   (hcell:∀ i j c,cellAt xs i j=some c->w.cell? ⟨b,o+i*sz+j,none⟩=some (us i j)) (hin:∀ i j c,cellAt xs i j=some c->Bor w R (us i j) c) :
   Bor w R (.slice (some ⟨b,o,none⟩) xs.length cap) (.sl m sz xs)
theorem Bor.mono{w w':World}{R R':Nat->Prop}{v:Value}{c:AV}(h:Bor w R v c)(hs:Same w w' R)(hr:∀ b,R b->R' b):Bor w' R' v c:=by
 induction h with
 | any v h=>exact .any v h
 | bool b=>exact .bool b
 | int k n=>exact .int k n
 | str s=>exact .str s
 | nil m sz a cap=>exact .nil m sz a cap
 | sl m sz xs b o cap us hcap hb hrow hcell _ ih=>exact .sl m sz xs b o cap us hcap (hr b hb) hrow (fun i j c hc=>by rw[hs.cell (by exact hb)];exact hcell i j c hc) ih
theorem Bor.one{w:World}{R:Nat->Prop}{v:Value}{c:AV}(h:Bor w R v c):v.oneCell'=true:=by
 cases h<;>first|rfl|assumption
theorem Bor.md{w:World}{R:Nat->Prop}{v:Value}{m m':Md}{sz:Nat}{xs:List (List AV)}(h:Bor w R v (.sl m sz xs)):Bor w R v (.sl m' sz xs):=by
 cases h with
 | nil m sz a cap=>exact .nil _ _ _ _
 | sl m sz xs b o cap us hcap hb hrow hcell hin=>exact .sl _ _ _ b o cap us hcap hb hrow hcell hin
theorem Bor.lend{w:World}{R:Nat->Prop}{v:Value}{c:AV}(m:Md)(h:Bor w R v c):Bor w R v (c.lend m):=by
 cases c<;>first|exact h|exact h.md
/-! ### What is owned, with its blocks -/
inductive Cl (w:World) (I:Nat->Prop):Value->AV->(Nat->Prop)->Prop
 | any (v:Value) (S:Nat->Prop) (h:v.oneCell'=true) (hS:∀ b,¬ S b):Cl w I v .any S
 | bool (b:Bool) (S:Nat->Prop) (hS:∀ b,¬ S b):Cl w I (.bool b) (.bool b) S
 | int (k:IntKind) (n:Int) (S:Nat->Prop) (hS:∀ b,¬ S b):Cl w I (.int k n) (.int k n) S
 | str (s:ByteArray) (S:Nat->Prop) (hS:∀ b,¬ S b):Cl w I (.string s) (.str s) S
 | imm (v:Value) (sz:Nat) (xs:List (List AV)) (S:Nat->Prop) (h:Bor w I v (.sl .imm sz xs)) (hS:∀ b,¬ S b):Cl w I v (.sl .imm sz xs) S
 | nil (sz:Nat) (S:Nat->Prop) (hS:∀ b,¬ S b):Cl w I (.slice none 0 0) (.sl .own sz []) S
 | own (sz:Nat) (xs:List (List AV)) (b cap:Nat) (cur:Array Value) (e:TypeId) (us:Nat->Nat->Value) (fs:Nat->Nat->Nat->Prop) (S:Nat->Prop)
   (hheap:w.heap[b]?=some (.cells cur e (0,0))) (hcap:xs.length<=cap) (hmax:cap<=maxLen) (hcur:cap*sz<=cur.size) (hrow:∀ row∈xs,row.length=sz)
   (hcell:∀ i j c,cellAt xs i j=some c->cur[i*sz+j]?=some (us i j)) (hin:∀ i j c,cellAt xs i j=some c->Cl w I (us i j) c (fs i j))
   (hdis:∀ i j c i' j' c' x,cellAt xs i j=some c->cellAt xs i' j'=some c'->fs i j x->fs i' j' x->i=i'/\j=j')
   (hnot:∀ i j c,cellAt xs i j=some c->¬ fs i j b) (hS:∀ x,S x↔x=b\/∃ i j c,cellAt xs i j=some c/\fs i j x) :
   Cl w I (.slice (some ⟨b,0,none⟩) xs.length cap) (.sl .own sz xs) S
theorem Cl.one{w:World}{I:Nat->Prop}{v:Value}{c:AV}{S:Nat->Prop}(h:Cl w I v c S):v.oneCell'=true:=by
 cases h with
 | imm _ _ _ _ h=>exact h.one
 | _=>first|rfl|assumption
theorem Cl.mono{w w':World}{I I':Nat->Prop}{v:Value}{c:AV}{S:Nat->Prop}(h:Cl w I v c S)(hs:Same w w' S)(hi:Same w w' I)(hI:∀ b,I b->I' b):Cl w' I' v c S:=by
 induction h with
 | any v S h hS=>exact .any v S h hS
 | bool b S hS=>exact .bool b S hS
 | int k n S hS=>exact .int k n S hS
 | str s S hS=>exact .str s S hS
 | imm v sz xs S h hS=>exact .imm v sz xs S (h.mono hi hI) hS
 | nil sz S hS=>exact .nil sz S hS
 | own sz xs b cap cur e us fs S hheap hcap hmax hcur hrow hcell _ hdis hnot hS ih =>
  refine .own sz xs b cap cur e us fs S ?_ hcap hmax hcur hrow hcell ?_ hdis hnot hS
  ·rw[hs b ((hS b).2 (.inl rfl))];exact hheap
  ·exact fun i j c hc=>ih i j c hc (hs.mono fun x hx=>(hS x).2 (.inr ⟨i,j,c,hc,hx⟩))
theorem Cl.blocks{w:World}{I:Nat->Prop}{v:Value}{c:AV}{S S':Nat->Prop}(h:Cl w I v c S)(hs:∀ b,S' b↔S b):Cl w I v c S':=by
 have he:S'=S:=funext fun b=>propext (hs b)
 rw[he];exact h
theorem Cl.lt{w:World}{I:Nat->Prop}{v:Value}{c:AV}{S:Nat->Prop}(h:Cl w I v c S):∀ b,S b->b<w.heap.size:=by
 induction h with
 | own sz xs b cap cur e us fs S hheap hcap hmax hcur hrow hcell _ hdis hnot hS ih =>
  intro x hx
  rcases (hS x).1 hx with rfl|⟨i,j,c,hc,hf⟩
  ·exact (Array.getElem?_eq_some_iff.1 hheap).1
  ·exact ih i j c hc x hf
 | any _ S _ hS=>exact fun b hb=>absurd hb (hS b)
 | bool _ S hS=>exact fun b hb=>absurd hb (hS b)
 | int _ _ S hS=>exact fun b hb=>absurd hb (hS b)
 | str _ S hS=>exact fun b hb=>absurd hb (hS b)
 | imm _ _ _ S _ hS=>exact fun b hb=>absurd hb (hS b)
 | nil _ S hS=>exact fun b hb=>absurd hb (hS b)
theorem Zae{w:World}{b o:Nat}{cur:Array Value}{e:TypeId}{f:Nat×Nat}(h:w.heap[b]?=some (.cells cur e f)):w.cell? ⟨b,o,none⟩=cur[o]?:=by
 simp[World.cell?,h]
theorem Cl.bor{w:World}{I R:Nat->Prop}{v:Value}{c:AV}{S:Nat->Prop}(h:Cl w I v c S)(hs:∀ b,S b->R b)(hi:∀ b,I b->R b):Bor w R v c:=by
 induction h with
 | any v S h hS=>exact .any v h
 | bool b S hS=>exact .bool b
 | int k n S hS=>exact .int k n
 | str s S hS=>exact .str s
 | imm v sz xs S h hS=>exact h.mono (Same.refl _ _) hi
 | nil sz S hS=>exact .nil _ _ _ _
 | own sz xs b cap cur e us fs S hheap hcap hmax hcur hrow hcell _ hdis hnot hS ih =>
  refine .sl _ _ _ b 0 cap us hcap (hs b ((hS b).2 (.inl rfl))) hrow ?_ ?_
  ·intro i j c hc
   rw[Zae hheap,Nat.zero_add]
   exact hcell i j c hc
  ·exact fun i j c hc=>ih i j c hc (fun x hx=>hs x ((hS x).2 (.inr ⟨i,j,c,hc,hx⟩)))
/-! ### The ghost: which value each number stands for, and its blocks -/
structure Gh where
 v:Nat->Value
 fp:Nat->Nat->Prop
 I:Nat->Prop
 N:Nat->Prop
 used:Nat->Prop
def rdSet(R:Nat->Prop)(g:Gh):Md->Nat->Prop
 | .own=>fun _=>False
 | .imm=>g.I
 | .bor=>R
 | .snap _=>g.N
def SliceAt(gv:Value)(sz lo len:Nat)(v:Value):Prop :=
 ∃ a cap,v=.slice a len cap/\len<=cap/\(len≠0->∃ b n c,gv=.slice (some ⟨b,0,none⟩) n c/\a=some ⟨b,lo*sz,none⟩)
def CutAt(gv:Value)(n:Nat)(v:Value):Prop :=
 (∃ b len cap,gv=.slice (some ⟨b,0,none⟩) len cap/\v=.slice (some ⟨b,0,none⟩) n n)\/(gv=.slice none 0 0/\n=0/\v=.slice none 0 0)
def PtrAt(gv:Value)(i off:Nat)(v:Value):AO->Prop
 | .box _=>∃ b,gv=.pointer (some ⟨b,0,none⟩)/\v=.pointer (some ⟨b,off,none⟩)
 | .arr sz _=>∃ b n c,gv=.slice (some ⟨b,0,none⟩) n c/\v=.pointer (some ⟨b,i*sz+off,none⟩)
 | .map _ _=>True
def keyV(kb:Bool)(k:ByteArray):Value:=if kb then .bool (sEq k (bkey true)) else .string k
def keyIs(kb:Bool)(k:ByteArray):Prop:=kb=true->k=bkey true\/k=bkey false
def AO.alike:AO->AO->Prop
 | .box _,.box _=>True
 | .arr sz _,.arr sz' _=>sz=sz'
 | .map kb _,.map kb' _=>kb=kb'
 | _,_=>False
theorem AO.alike_refl(o:AO):o.alike o:=by cases o<;>simp[AO.alike]
theorem AO.alike.trans{o p q:AO}(h:o.alike p)(k:p.alike q):o.alike q:=by cases o<;>cases p<;>cases q<;>simp_all[AO.alike]
inductive SRel (num:Nat->Option FuncId) (w:World) (R:Nat->Prop) (g:Gh) (h:Nat->Option AO) (ep:Nat):Value->AV->Prop
 | any (v:Value):SRel num w R g h ep v .any
 | bool (b:Bool):SRel num w R g h ep (.bool b) (.bool b)
 | int (k:IntKind) (n:Int):SRel num w R g h ep (.int k n) (.int k n)
 | str (s:ByteArray):SRel num w R g h ep (.string s) (.str s)
 | nil (sz:Nat):SRel num w R g h ep (.slice none 0 0) (.sl .own sz [])
 | sl (v:Value) (m:Md) (sz:Nat) (xs:List (List AV)) (h1:v.oneCell'=true) (hm:m.ok ep=true->Bor w (rdSet R g m) v (.sl m sz xs)) (hlim:∀ e,m=.snap e->e<=ep) (hown:m≠.own):SRel num w R g h ep v (.sl m sz xs)
 | ref (id:Nat) (v:Value) (h1:v.oneCell'=true) (hu:g.used id) (hv:∀ o,h id=some o->v=g.v id):SRel num w R g h ep v (.ref id)
 | view (id lo len:Nat) (v:Value) (h1:v.oneCell'=true) (hu:g.used id) (hv:∀ sz xs,h id=some (.arr sz xs)->SliceAt (g.v id) sz lo len v):SRel num w R g h ep v (.view id lo len)
 | ptr (id i off:Nat) (v:Value) (h1:v.oneCell'=true) (hu:g.used id) (hv:∀ o,h id=some o->PtrAt (g.v id) i off v o):SRel num w R g h ep v (.ptr id i off)
 | bptr (m:Md) (row:List AV) (off:Nat) (v:Value) (h1:v.oneCell'=true)
   (hlim:∀ e,m=.snap e->e<=ep)
   (hm:m.ok ep=true->∃ (b o:Nat) (us:Nat->Value),v=.pointer (some ⟨b,o,none⟩)/\rdSet R g m b/\∀ (j:Nat) (c:AV),row[off+j]?=some c->w.cell? ⟨b,o+j,none⟩=some (us j)/\Bor w (rdSet R g m) (us j) c) :
   SRel num w R g h ep v (.bptr m row off)
 | mapr (id:Nat) (v:Value) (h1:v.oneCell'=true) (hu:g.used id) (hv:∀ o,h id=some o->v=g.v id):SRel num w R g h ep v (.mapr id)
 | fn (k:Nat) (f:FuncId) (hk:num k=some f):SRel num w R g h ep (.func (.func f) #[] #[]) (.fn k)
 | inn (e id i off:Nat) (v:Value) (h1:v.oneCell'=true) (hu:g.used id) (hle:e<=ep)
   (hv:e=ep->∀ sz xs,h id=some (.arr sz xs)->∃ b n c,g.v id=.slice (some ⟨b,0,none⟩) n c/\g.N b/\w.cell? ⟨b,i*sz+off,none⟩=some v):SRel num w R g h ep v (.inn e id i off)
 | inp (e id i off j sz:Nat) (v:Value) (h1:v.oneCell'=true) (hu:g.used id) (hle:e<=ep)
   (hv:e=ep->∀ sz1 xs,h id=some (.arr sz1 xs)->∃ b n c b2 n2 c2,g.v id=.slice (some ⟨b,0,none⟩) n c/\g.N b/\w.cell? ⟨b,i*sz1+off,none⟩=some (.slice (some ⟨b2,0,none⟩) n2 c2)/\v=.pointer (some ⟨b2,j*sz,none⟩)):SRel num w R g h ep v (.inp e id i off j sz)
 | ifs (kl id:Nat) (v:Value) (h1:v.oneCell'=true) (hu:g.used id) (hv:∀ o,h id=some o->∃ t,num (1000+kl)=some t/\v=.iface t (g.v id)):SRel num w R g h ep v (.ifs kl id)
 | clo (kl id:Nat) (v:Value) (h1:v.oneCell'=true) (hu:g.used id) (hv:∀ o,h id=some o->∃ f b,num kl=some f/\g.v id=.pointer (some ⟨b,0,none⟩)/\v=.func (.func f) #[] #[.pointer (some ⟨b,0,none⟩)]):SRel num w R g h ep v (.clo kl id)
 | cut (id n:Nat) (v:Value) (h1:v.oneCell'=true) (hu:g.used id) (hv:∀ o,h id=some o->CutAt (g.v id) n v):SRel num w R g h ep v (.cut id n)
 | agg (vs:Array Value) (cs:List AV) (hl:vs.size=cs.length) (h1:∀ (i:Nat) (v:Value),vs[i]?=some v->v.oneCell'=true) (hc:∀ (i:Nat) (v:Value) (c:AV),vs[i]?=some v->cs[i]?=some c->SRel num w R g h ep v c) :
   SRel num w R g h ep (.agg vs) (.agg cs)
 | tup (vs:Array Value) (cs:List AV) (hl:vs.size=cs.length) (hc:∀ (i:Nat) (v:Value) (c:AV),vs[i]?=some v->cs[i]?=some c->SRel num w R g h ep v c):SRel num w R g h ep (.tuple vs) (.tup cs)
structure Keeps(w:World)(R:Nat->Prop)(g:Gh)(h:Nat->Option AO)(ep:Nat)(w':World)(g':Gh)(h':Nat->Option AO)(ep':Nat):Prop where
 R:Same w w' R
 I:Same w w' g.I
 Iup:∀ b,g.I b->g'.I b
 N:ep'=ep->Same w w' g.N
 Nup:∀ b,g.N b->g'.N b
 epup:ep<=ep'
 used:∀ id,g.used id->g'.used id
 objs:∀ id o',g.used id->h' id=some o'->∃ o,h id=some o/\o.alike o'/\g'.v id=g.v id
theorem Md.ok_later{m:Md}{ep ep':Nat}(hlim:∀ e,m=.snap e->e<=ep)(hep:ep<=ep')(h:m.ok ep'=true):m.ok ep=true/\(∀ e,m=.snap e->ep'=ep):=by
 cases m with
 | own=>simp[Md.ok]at h
 | imm=>exact⟨rfl,fun e he=>by cases he⟩
 | bor=>exact⟨rfl,fun e he=>by cases he⟩
 | snap e =>
  simp only[Md.ok,beq_iff_eq]at h
  have:=hlim e rfl
  have he:ep'=ep:=by omega
  exact⟨by simp[Md.ok];omega,fun _ _=>he⟩
section
variable {num:Nat->Option FuncId} {w:World} {R:Nat->Prop} {g:Gh} {h:Nat->Option AO} {ep:Nat} {w':World} {g':Gh} {h':Nat->Option AO} {ep':Nat}
theorem Keeps.same(k:Keeps w R g h ep w' g' h' ep'){m:Md}(hm:m.ok ep'=true)(he:∀ e,m=.snap e->ep'=ep):Same w w' (rdSet R g m)/\∀ b,rdSet R g m b->rdSet R g' m b:=by
 cases m with
 | own=>simp[Md.ok]at hm
 | imm=>exact⟨k.I,k.Iup⟩
 | bor=>exact⟨k.R,fun _ h=>h⟩
 | snap e=>exact⟨k.N (he e rfl),k.Nup⟩
theorem SRel.mono{v:Value}{c:AV}(hr:SRel num w R g h ep v c)(k:Keeps w R g h ep w' g' h' ep'):SRel num w' R g' h' ep' v c:=by
 induction hr with
 | any v=>exact .any v
 | bool b=>exact .bool b
 | int k n=>exact .int k n
 | str s=>exact .str s
 | nil sz=>exact .nil sz
 | sl v m sz xs h1 hm hlim hown =>
  refine .sl v m sz xs h1 (fun hok=>?_) (fun e he=>Nat.le_trans (hlim e he) k.epup) hown
  obtain⟨ho,he⟩:=Md.ok_later hlim k.epup hok
  obtain⟨hs,hup⟩:=k.same hok he
  exact (hm ho).mono hs hup
 | ref id v h1 hu hv =>
  refine .ref id v h1 (k.used id hu) (fun o' ho'=>?_)
  obtain⟨o,ho,_,hg⟩:=k.objs id o' hu ho'
  rw[hg];exact hv o ho
 | view id lo len v h1 hu hv =>
  refine .view id lo len v h1 (k.used id hu) (fun sz xs ho'=>?_)
  obtain⟨o,ho,ha,hg⟩:=k.objs id _ hu ho'
  rw[hg]
  cases o with
  | arr sz' xs'=>simp only[AO.alike]at ha;subst ha;exact hv _ _ ho
  | box _=>exact ha.elim
  | map _ _=>exact ha.elim
 | ptr id i off v h1 hu hv =>
  refine .ptr id i off v h1 (k.used id hu) (fun o' ho'=>?_)
  obtain⟨o,ho,ha,hg⟩:=k.objs id _ hu ho'
  have hp:=hv o ho
  rw[hg]
  cases o<;>cases o'<;>simp only[AO.alike]at ha<;>first|exact hp|(subst ha;exact hp)
 | bptr m row off v h1 hlim hm =>
  refine .bptr m row off v h1 (fun e he=>Nat.le_trans (hlim e he) k.epup) (fun hok=>?_)
  obtain⟨ho,he⟩:=Md.ok_later hlim k.epup hok
  obtain⟨hs,hup⟩:=k.same hok he
  obtain⟨b,o,us,hv,hb,hc⟩:=hm ho
  refine⟨b,o,us,hv,hup b hb,fun j c hj=>?_⟩
  obtain⟨h1,h2⟩:=hc j c hj
  exact⟨by rw[hs.cell (by exact hb)];exact h1,h2.mono hs hup⟩
 | mapr id v h1 hu hv =>
  refine .mapr id v h1 (k.used id hu) (fun o' ho'=>?_)
  obtain⟨o,ho,_,hg⟩:=k.objs id o' hu ho'
  rw[hg];exact hv o ho
 | fn k f hk=>exact .fn k f hk
 | inn e id i off v h1 hu hle hv =>
  refine .inn e id i off v h1 (k.used id hu) (Nat.le_trans hle k.epup) (fun he sz xs ho'=>?_)
  have h3:=k.epup
  have h4:ep'=ep:=by omega
  obtain⟨o,ho,ha,hg⟩:=k.objs id _ hu ho'
  cases o with
  | arr sz' xs' =>
   simp only[AO.alike]at ha;subst ha
   obtain⟨b,n,c,h5,h6,h7⟩:=hv (by omega) _ _ ho
   exact⟨b,n,c,hg.trans h5,k.Nup b h6,((k.N h4).cell (by exact h6)).trans h7⟩
  | box _=>exact ha.elim
  | map _ _=>exact ha.elim
 | inp e id i off j sz2 v h1 hu hle hv =>
  refine .inp e id i off j sz2 v h1 (k.used id hu) (Nat.le_trans hle k.epup) (fun he sz xs ho'=>?_)
  have h3:=k.epup
  have h4:ep'=ep:=by omega
  obtain⟨o,ho,ha,hg⟩:=k.objs id _ hu ho'
  cases o with
  | arr sz' xs' =>
   simp only[AO.alike]at ha;subst ha
   obtain⟨b,n,c,b2,n2,c2,h5,h6,h7,h8⟩:=hv (by omega) _ _ ho
   exact⟨b,n,c,b2,n2,c2,hg.trans h5,k.Nup b h6,((k.N h4).cell (by exact h6)).trans h7,h8⟩
  | box _=>exact ha.elim
  | map _ _=>exact ha.elim
 | ifs kl id v h1 hu hv =>
  refine .ifs kl id v h1 (k.used id hu) (fun o' ho'=>?_)
  obtain⟨o,ho,_,hg⟩:=k.objs id o' hu ho'
  rw[hg];exact hv o ho
 | clo kl id v h1 hu hv =>
  refine .clo kl id v h1 (k.used id hu) (fun o' ho'=>?_)
  obtain⟨o,ho,_,hg⟩:=k.objs id o' hu ho'
  rw[hg];exact hv o ho
 | cut id n v h1 hu hv =>
  refine .cut id n v h1 (k.used id hu) (fun o' ho'=>?_)
  obtain⟨o,ho,_,hg⟩:=k.objs id o' hu ho'
  rw[hg];exact hv o ho
 | agg vs cs hl h1 _ ih=>exact .agg vs cs hl h1 ih
 | tup vs cs hl _ ih=>exact .tup vs cs hl ih
theorem SRel.one{v:Value}{c:AV}(hr:SRel num w R g h ep v c)(hp:c.parts=some [c]):v.oneCell'=true:=by
 cases hr<;>first|rfl|assumption|(simp[AV.parts]at hp;done)|(simp only[AV.parts,Option.some.injEq]at hp;have:=congrArg SizeOf.sizeOf hp;simp at this;omega)
/-! ### The objects -/
def ORel(num:Nat->Option FuncId)(w:World)(R:Nat->Prop)(g:Gh)(h:Nat->Option AO)(ep:Nat)(v:Value)(S:Nat->Prop):AO->Prop
 | .box cells=>∃ b cur e,v=.pointer (some ⟨b,0,none⟩)/\w.heap[b]?=some (.cells cur e (0,0))/\cur.size=cells.length/\(∀ x,S x↔x=b)/\¬ g.N b /\
   ∀ (i:Nat) (u:Value) (c:AV),cur[i]?=some u->cells[i]?=some c->u.oneCell'=true/\SRel num w R g h ep u c
 | .arr sz xs=>Cl w g.I v (.sl .own sz xs) S/\∀ x,S x->g.N x
 | .map kb kvs=>∃ (b:Nat) (es:Array MapEntry) (clock:Nat) (l:List (ByteArray×AV)),v=.map (some b)/\w.heap[b]?=some (.map es clock)/\(∀ x,S x↔x=b)/\¬ g.N b/\(∀ k,listGet k l=kvs k)/\es.size=l.length /\
   ∀ (i:Nat) (m:MapEntry) (k:ByteArray) (c:AV),es[i]?=some m->l[i]?=some (k,c)->m.key=keyV kb k/\keyIs kb k/\c.plain=true/\SRel num w R g h ep m.val c
theorem ORel.mono{v:Value}{S:Nat->Prop}{o:AO}(hr:ORel num w R g h ep v S o)(k:Keeps w R g h ep w' g' h' ep')(hs:Same w w' S)(hN:∀ b,S b->g'.N b->g.N b):ORel num w' R g' h' ep' v S o:=by
 cases o with
 | box cells =>
  obtain⟨b,cur,e,hv,hh,hsz,hS,hn,hc⟩:=hr
  have hb:=(hS b).2 rfl
  exact⟨b,cur,e,hv,(hs b hb).trans hh,hsz,hS,fun h=>hn (hN b hb h),fun i u c hu hi=>⟨(hc i u c hu hi).1,(hc i u c hu hi).2.mono k⟩⟩
 | arr sz xs=>exact⟨hr.1.mono hs k.I k.Iup,fun x hx=>k.Nup x (hr.2 x hx)⟩
 | map kb kvs =>
  obtain⟨b,es,cl,l,hv,hh,hS,hn,hkl,hsz,hc⟩:=hr
  have hb:=(hS b).2 rfl
  exact⟨b,es,cl,l,hv,(hs b hb).trans hh,hS,fun h=>hn (hN b hb h),hkl,hsz,fun i m k' c hm hi=>⟨(hc i m k' c hm hi).1,(hc i m k' c hm hi).2.1,(hc i m k' c hm hi).2.2.1,(hc i m k' c hm hi).2.2.2.mono k⟩⟩
theorem ORel.lt{v:Value}{S:Nat->Prop}{o:AO}(hr:ORel num w R g h ep v S o):∀ b,S b->b<w.heap.size:=by
 cases o with
 | box cells =>
  obtain⟨b,cur,e,hv,hh,hsz,hS,hn,hc⟩:=hr
  intro x hx
  rw[(hS x).1 hx]
  exact (Array.getElem?_eq_some_iff.1 hh).1
 | arr sz xs=>exact hr.1.lt
 | map kb kvs =>
  obtain⟨b,es,cl,l,hv,hh,hS,hn,hkl,hsz,hc⟩:=hr
  intro x hx
  rw[(hS x).1 hx]
  exact (Array.getElem?_eq_some_iff.1 hh).1
theorem ORel.one{v:Value}{S:Nat->Prop}{o:AO}(hr:ORel num w R g h ep v S o):v.oneCell'=true:=by
 cases o with
 | box cells=>obtain⟨b,cur,e,rfl,_⟩:=hr;rfl
 | arr sz xs=>exact hr.1.one
 | map kb kvs=>obtain⟨b,es,cl,l,rfl,_⟩:=hr;rfl
end
/-! ### A call's frame, and all of its memory -/
structure FrameW(w w':World)(M:Nat->Prop):Prop where
 os:w'.os=w.os
 tape:w'.tape=w.tape
 output:w'.output=w.output
 size:w.heap.size<=w'.heap.size
 block:∀ b,b<w.heap.size->¬ M b->w'.heap[b]?=w.heap[b]?
theorem FrameW.refl(w:World)(M:Nat->Prop):FrameW w w M:=⟨rfl,rfl,rfl,Nat.le_refl _,fun _ _ _=>rfl⟩
structure Cx where
 P:Program
 num:Nat->Option FuncId
 R:Nat->Prop
 M:Nat->Prop
 I0:Nat->Prop
 N0:Nat->Prop
 w0:World
 base:Nat
 h0:Nat->Option AO
 v0:Nat->Value
 fz:List (Nat×Obj)
def Callable(P:Program)(f:FuncId)(vs:Array Value)(w:World)(R:Value->World->Prop):Prop :=
 ∀ (o:Oper) (a:Act) (next:Act->World->Prop) (Q:Exit->Act->World->Prop),(∀ v w',R v w'->next (a.put o.dst v) w')->o.upon P a next Q ((callFunc f vs).run P w)
def SortOk(P:Program)(fs f:FuncId)(t:TypeId)(o c sz:Nat):Prop :=
 ∀ (w:World) (blk cap Bs n:Nat) (cur:Array Value) (e:TypeId) (us:Nat->Nat->Value) (ks:Nat->ByteArray),
  w.heap[blk]?=some (.cells cur e (0,0))->1<=n->n<4611686018427387904->n<=cap->cap<=maxLen->cap*sz<=cur.size->(∀ i j,i<n->j<sz->cur[i*sz+j]?=some (us i j)/\(us i j).oneCell'=true) ->
  c<sz->(∀ i,i<n->us i c=.string (ks i))->Bs≠blk->Bs<w.heap.size->w.cell? ⟨Bs,o,none⟩=some (.slice (some ⟨blk,0,none⟩) n cap) ->
  Callable P fs #[.iface t (.slice (some ⟨blk,0,none⟩) n cap),.func (.func f) #[] #[.pointer (some ⟨Bs,0,none⟩)]] w fun v w' =>
   v=.tuple #[]/\∃ (p:List Nat) (cur':Array Value),p.Perm (List.range n)/\p.Pairwise (fun a b=>sLt (ks b) (ks a)=false)/\w'.os=w.os/\w'.tape=w.tape/\w'.output=w.output/\w.heap.size<=w'.heap.size /\
    (∀ b,b<w.heap.size->b≠blk->w'.heap[b]?=w.heap[b]?)/\w'.heap[blk]?=some (.cells cur' e (0,0))/\cur'.size=cur.size/\∀ i j a,p[i]?=some a->j<sz->cur'[i*sz+j]?=some (us a j)
def kSort:Nat:=310
def SrtAll(P:Program)(num:Nat->Option FuncId):Prop :=
 ∀ kl o c sz,sortTab.contains (kl,o,c,sz)=true->∀ f t fs,num kl=some f->num (1000+kl)=some t->num kSort=some fs->SortOk P fs f t o c sz
structure Mem(cx:Cx)(h:Nat->Option AO)(ep:Nat)(g:Gh)(w:World):Prop where
 objs:∀ id o,h id=some o->ORel cx.num w cx.R g h ep (g.v id) (g.fp id) o
 used:∀ id o,h id=some o->g.used id
 disj:∀ id id' o o' b,h id=some o->h id'=some o'->g.fp id b->g.fp id' b->id=id'
 mine:∀ id o b,h id=some o->g.fp id b->(cx.M b\/cx.w0.heap.size<=b)/\¬ g.I b
 I_lt:∀ b,g.I b->b<w.heap.size
 I_up:∀ b,cx.I0 b->g.I b
 I_new:∀ b,g.I b->cx.I0 b\/(cx.M b\/cx.w0.heap.size<=b)
 I_N:∀ b,g.I b->g.N b
 N_up:∀ b,cx.N0 b->g.N b
 N_new:∀ b,g.N b->cx.N0 b\/cx.w0.heap.size<=b
 usedB:∀ id,id<cx.base->g.used id
 given:∀ id o',id<cx.base->h id=some o'->∃ o,cx.h0 id=some o/\o.alike o'/\g.v id=cx.v0 id
 N_lt:∀ b,g.N b->b<w.heap.size
 R_old:∀ b,cx.R b->b<cx.w0.heap.size/\¬ cx.M b
 I_old:∀ b,cx.I0 b->b<cx.w0.heap.size/\¬ cx.M b
 frame:FrameW cx.w0 w cx.M
 fz:∀ p∈cx.fz,cx.R p.1/\cx.w0.heap[p.1]?=some p.2
 srt:SrtAll cx.P cx.num
structure Corr(cx:Cx)(nt:Nat)(s:St)(g:Gh)(a:Act)(w:World):Prop where
 size:a.tmps.size=nt
 defers:a.defers=[]
 slots:∀ t,SRel cx.num w cx.R g s.heap s.ep (a.tmps.getD t undef) (s.slots t)
 mem:Mem cx s.heap s.ep g w
section
variable {cx:Cx} {h h':Nat->Option AO} {ep ep':Nat} {g g':Gh} {w w':World}
def Of(T:Nat->Prop)(h:Nat->Option AO)(g:Gh)(b:Nat):Prop:=∃ id o,T id/\h id=some o/\g.fp id b
theorem Mem.fz_now{cx:Cx}{h:Nat->Option AO}{ep:Nat}{g:Gh}{w:World}(m:Mem cx h ep g w){p:Nat×Obj}(hp:p∈cx.fz):p.1<w.heap.size/\w.heap[p.1]?=some p.2/\∀ id o,h id=some o->¬ g.fp id p.1:=by
 obtain⟨h1,h2⟩:=m.fz p hp
 obtain⟨h3,h4⟩:=m.R_old p.1 h1
 refine⟨Nat.lt_of_lt_of_le h3 m.frame.size,by rw[m.frame.block p.1 h3 h4];exact h2,fun id o ho hf=>?_⟩
 rcases (m.mine id o p.1 ho hf).1 with h5|h5
 ·exact h4 h5
 ·omega
structure Touch(cx:Cx)(T:Nat->Prop)(h:Nat->Option AO)(ep:Nat)(g:Gh)(w:World)(h':Nat->Option AO)(ep':Nat)(g':Gh)(w':World):Prop where
 os:w'.os=w.os
 tape:w'.tape=w.tape
 output:w'.output=w.output
 size:w.heap.size<=w'.heap.size
 epup:ep<=ep'
 rest:∀ id,¬ T id->h' id=h id/\(h id≠none->g'.v id=g.v id/\g'.fp id=g.fp id)
 block:∀ b,b<w.heap.size->¬ Of T h g b->w'.heap[b]?=w.heap[b]?
 used:∀ id,g.used id->g'.used id
 used':∀ id o,T id->h' id=some o->g'.used id
 alive:∀ id o',T id->g.used id->h' id=some o'->∃ o,h id=some o/\o.alike o'/\g'.v id=g.v id
 fps:∀ id o b,T id->h' id=some o->g'.fp id b->(w.heap.size<=b\/Of T h g b)/\¬ g'.I b
 dis:∀ id id' o o' b,T id->T id'->h' id=some o->h' id'=some o'->g'.fp id b->g'.fp id' b->id=id'
 Iup:∀ b,g.I b->g'.I b
 Inew:∀ b,g'.I b->g.I b\/Of T h g b\/(w.heap.size<=b/\b<w'.heap.size)
 IN:∀ b,g'.I b->g'.N b
 Nup:∀ b,g.N b->g'.N b
 Nnew:∀ b,g'.N b->g.N b\/(w.heap.size<=b/\b<w'.heap.size)
 Nsame:ep'=ep->Same w w' g.N
theorem Touch.keeps{T:Nat->Prop}(t:Touch cx T h ep g w h' ep' g' w')(m:Mem cx h ep g w):Keeps w cx.R g h ep w' g' h' ep':=by
 refine⟨?_,?_,t.Iup,t.Nsame,t.Nup,t.epup,t.used,?_⟩
 ·intro b hb
  obtain⟨h1,h2⟩:=m.R_old b hb
  refine t.block b (Nat.lt_of_lt_of_le h1 m.frame.size) ?_
  rintro⟨id,o,_,ho,hf⟩
  rcases (m.mine id o b ho hf).1 with h3|h3
  ·exact h2 h3
  ·omega
 ·intro b hb
  refine t.block b (m.I_lt b hb) ?_
  rintro⟨id,o,_,ho,hf⟩
  exact (m.mine id o b ho hf).2 hb
 ·intro id o' hu ho'
  by_cases hT:T id
  ·exact t.alive id o' hT hu ho'
  ·obtain⟨h1,h2⟩:=t.rest id hT
   rw[h1]at ho'
   exact⟨o',ho',AO.alike_refl _,(h2 (by rw[ho'];simp)).1⟩
theorem Touch.mem{T:Nat->Prop}(t:Touch cx T h ep g w h' ep' g' w')(m:Mem cx h ep g w)
  (hobj:∀ id o,T id->h' id=some o->ORel cx.num w' cx.R g' h' ep' (g'.v id) (g'.fp id) o):Mem cx h' ep' g' w':=by
 have k:=t.keeps m
 have hrest:∀ id o,¬ T id->h' id=some o->h id=some o/\g'.v id=g.v id/\g'.fp id=g.fp id:=fun id o hT ho=>by
  obtain⟨h1,h2⟩:=t.rest id hT
  rw[h1]at ho
  exact⟨ho,h2 (by rw[ho];simp)⟩
 have hapart:∀ id o b,¬ T id->h id=some o->g.fp id b->¬ Of T h g b:=by
  rintro id o b hT ho hf ⟨id0,o0,hT0,ho0,hf0⟩
  exact hT (m.disj id id0 o o0 b ho ho0 hf hf0 ▸ hT0)
 have hsame:∀ id o,¬ T id->h id=some o->Same w w' (g.fp id):=fun id o hT ho b hb =>
  t.block b ((m.objs id o ho).lt b hb) (hapart id o b hT ho hb)
 refine⟨?_,?_,?_,?_,?_,?_,?_,t.IN,fun b hb=>t.Nup b (m.N_up b hb),?_,fun id hid=>t.used id (m.usedB id hid),?_,?_,m.R_old,m.I_old,?_,m.fz,m.srt⟩
 ·intro id o ho
  by_cases hT:T id
  ·exact hobj id o hT ho
  ·obtain⟨h1,h2,h3⟩:=hrest id o hT ho
   rw[h2,h3]
   refine (m.objs id o h1).mono k (hsame id o hT h1) (fun b hb hn=>?_)
   rcases t.Nnew b hn with h4|h4
   ·exact h4
   ·have:=(m.objs id o h1).lt b hb
    omega
 ·intro id o ho
  by_cases hT:T id
  ·exact t.used' id o hT ho
  ·exact t.used id (m.used id o (hrest id o hT ho).1)
 ·intro id id' o o' b ho ho' hf hf'
  by_cases hT:T id<;>by_cases hT':T id'
  ·exact t.dis id id' o o' b hT hT' ho ho' hf hf'
  ·obtain⟨h1,h2,h3⟩:=hrest id' o' hT' ho'
   rw[h3]at hf'
   rcases (t.fps id o b hT ho hf).1 with h4|h4
   ·have:=(m.objs id' o' h1).lt b hf'
    omega
   ·exact absurd h4 (hapart id' o' b hT' h1 hf')
  ·obtain⟨h1,h2,h3⟩:=hrest id o hT ho
   rw[h3]at hf
   rcases (t.fps id' o' b hT' ho' hf').1 with h4|h4
   ·have:=(m.objs id o h1).lt b hf
    omega
   ·exact absurd h4 (hapart id o b hT h1 hf)
  ·obtain⟨h1,h2,h3⟩:=hrest id o hT ho
   obtain⟨h1',h2',h3'⟩:=hrest id' o' hT' ho'
   rw[h3]at hf
   rw[h3']at hf'
   exact m.disj id id' o o' b h1 h1' hf hf'
 ·intro id o b ho hf
  by_cases hT:T id
  ·obtain⟨h1,h2⟩:=t.fps id o b hT ho hf
   refine⟨?_,h2⟩
   rcases h1 with h1|⟨id0,o0,_,ho0,hf0⟩
   ·exact .inr (Nat.le_trans m.frame.size h1)
   ·exact (m.mine id0 o0 b ho0 hf0).1
  ·obtain⟨h1,h2,h3⟩:=hrest id o hT ho
   rw[h3]at hf
   refine⟨(m.mine id o b h1 hf).1,fun hi=>?_⟩
   rcases t.Inew b hi with h4|h4|h4
   ·exact (m.mine id o b h1 hf).2 h4
   ·exact hapart id o b hT h1 hf h4
   ·have:=(m.objs id o h1).lt b hf
    omega
 ·intro b hb
  rcases t.Inew b hb with h1|⟨id,o,_,ho,hf⟩|h1
  ·exact Nat.lt_of_lt_of_le (m.I_lt b h1) t.size
  ·exact Nat.lt_of_lt_of_le ((m.objs id o ho).lt b hf) t.size
  ·exact h1.2
 ·exact fun b hb=>t.Iup b (m.I_up b hb)
 ·intro b hb
  rcases t.Inew b hb with h1|⟨id,o,_,ho,hf⟩|h1
  ·exact m.I_new b h1
  ·exact .inr (m.mine id o b ho hf).1
  ·exact .inr (.inr (Nat.le_trans m.frame.size h1.1))
 ·intro b hb
  rcases t.Nnew b hb with h1|h1
  ·exact m.N_new b h1
  ·exact .inr (Nat.le_trans m.frame.size h1.1)
 ·intro id o' hid ho'
  obtain⟨o,ho,ha,hv⟩:=k.objs id o' (m.usedB id hid) ho'
  obtain⟨o0,ho0,ha0,hv0⟩:=m.given id o hid ho
  exact⟨o0,ho0,ha0.trans ha,hv.trans hv0⟩
 ·intro b hb
  rcases t.Nnew b hb with h1|h1
  ·exact Nat.lt_of_lt_of_le (m.N_lt b h1) t.size
  ·exact h1.2
 ·refine⟨t.os.trans m.frame.os,t.tape.trans m.frame.tape,t.output.trans m.frame.output,Nat.le_trans m.frame.size t.size,fun b hb hM=>?_⟩
  rw[t.block b (Nat.lt_of_lt_of_le hb m.frame.size) ?_]
  ·exact m.frame.block b hb hM
  ·rintro⟨id,o,_,ho,hf⟩
   rcases (m.mine id o b ho hf).1 with h3|h3
   ·exact hM h3
   ·omega
theorem Keeps.refl(w:World)(R:Nat->Prop)(g:Gh)(h:Nat->Option AO)(ep:Nat):Keeps w R g h ep w g h ep :=
 ⟨Same.refl _ _,Same.refl _ _,fun _ h=>h,fun _=>Same.refl _ _,fun _ h=>h,Nat.le_refl _,fun _ h=>h,fun _ o' _ ho=>⟨o',ho,AO.alike_refl _,rfl⟩⟩
end
/-! ### Slots -/
theorem Zej(a:Array Value)(d t:Nat)(v:Value)(hd:d<a.size):(a.setIfInBounds d v).getD t undef=if t=d then v else a.getD t undef:=by
 simp only[Array.getD_eq_getD_getElem?,Array.getElem?_setIfInBounds]
 by_cases h:t=d
 ·subst h
  simp[hd]
 ·rw[if_neg (fun e=>h e.symm),if_neg h]
theorem Corr.put{cx:Cx}{nt:Nat}{s:St}{g:Gh}{a:Act}{w:World}{h':Nat->Option AO}{ep':Nat}{g':Gh}{w':World}{nx bs:Nat}(c:Corr cx nt s g a w)(k:Keeps w cx.R g s.heap s.ep w' g' h' ep')(m:Mem cx h' ep' g' w')
  (dst:Option Nat) (hd:∀ d,dst=some d->d<nt) (v:Value) (x:AV) (hv:SRel cx.num w' cx.R g' h' ep' v x):Corr cx nt ⟨putTo s.slots dst x,h',ep',nx,bs⟩ g' (a.put dst v) w':=by
 cases dst with
 | none=>exact⟨c.size,c.defers,fun t=>(c.slots t).mono k,m⟩
 | some d =>
  have hd':d<a.tmps.size:=by rw[c.size];exact hd d rfl
  refine⟨by simp[Act.put,c.size],c.defers,fun t=>?_,m⟩
  simp only[Act.put,putTo,upd,Zej _ _ _ _ hd']
  split
  ·exact hv
  ·exact (c.slots t).mono k
end Go.Proofs.YtfemiipgkhekiaaGreatDoor
namespace Go.Proofs.YtfemiipgkhekiaaGreatDoor
open Go Go.RowKit
set_option linter.unusedSimpArgs false
def Done(cx:Cx)(s:St)(g:Gh)(a:Act)(w:World)(o:Oper)(key:Nat)(out:Out):Prop :=
 ∃ n v w' g',(execOp a.eval o).run cx.P w=.ok n w'/\(n=.value v\/n=.skip/\v=undef) /\
  Keeps w cx.R g s.heap s.ep w' g' (wsOn s.heap out.ws) (if out.bump then s.ep+1 else s.ep)/\Mem cx (wsOn s.heap out.ws) (if out.bump then s.ep+1 else s.ep) g' w' /\
  SRel cx.num w' cx.R g' (wsOn s.heap out.ws) (if out.bump then s.ep+1 else s.ep) v out.v/\(∀ id,g'.used id->g.used id\/(key<=id/\id<key+64))
section
variable {cx:Cx} {nt:Nat} {s:St} {g:Gh} {a:Act} {w:World} {o:Oper} {key:Nat} {out:Out} {cl:Callee}
theorem Zag(m:Mem cx s.heap s.ep g w){v:Value}{x:AV}(hrun:(execOp a.eval o).run cx.P w=.ok (.value v) w)(hr:SRel cx.num w cx.R g s.heap s.ep v x)
  (ho:Out.val x=some out):Done cx s g a w o key out:=by
 obtain rfl:=Option.some.inj ho
 exact⟨_,v,w,g,hrun,.inl rfl,Keeps.refl _ _ _ _ _,m,hr,fun _ h=>.inl h⟩
theorem Zm1(m:Mem cx s.heap s.ep g w){x:Operand}{y:Opd}(ho:o.op=.move x\/o.op=.assign x)(hx:SRel cx.num w cx.R g s.heap s.ep (a.eval x) (y.ev s.slots))
  (h:sem cl (.mov y) key s.slots s.heap s.ep=some out):Done cx s g a w o key out:=by
 refine Zag m (v:=a.eval x) ?_ hx h
 rcases ho with ho|ho<;>simp[execOp,ho]
theorem Zp7(m:Mem cx s.heap s.ep g w){x1 x2 x3:Operand}{y1 y2 y3:Opd}(ho:o.op=.pick x1 x2 x3)(h1:SRel cx.num w cx.R g s.heap s.ep (a.eval x1) (y1.ev s.slots))
  (h2:SRel cx.num w cx.R g s.heap s.ep (a.eval x2) (y2.ev s.slots)) (h3:SRel cx.num w cx.R g s.heap s.ep (a.eval x3) (y3.ev s.slots))
  (h:sem cl (.pick y1 y2 y3) key s.slots s.heap s.ep=some out):Done cx s g a w o key out:=by
 simp only[sem]at h
 generalize e1:y1.ev s.slots=c1 at h h1
 cases c1<;>simp only[reduceCtorEq]at h
 rename_i t
 generalize e:a.eval x1=v1 at h1
 cases h1
 refine Zag m (v:=if t then a.eval x2 else a.eval x3) ?_ ?_ h
 ·simp[execOp,ho,e,asBool]
 ·cases t
  ·exact h3
  ·exact h2
theorem Zob{P:Program}{w:World}{op:BinOp}{k:IntKind}{t:TypeId}{x y:Int}{r:AV}(h:binInt op k x y=some r) :
  ∃ v,(binOp op t (.int k x) (.int k y)).run P w=.ok v w/\((∃ n,v=.int k n/\r=.int k n)\/(∃ b,v=.bool b/\r=.bool b)):=by
 cases op<;>simp only[binInt,reduceCtorEq,Option.some.injEq]at h
 case quo =>
  split at h
  ·cases h
  ·obtain rfl:=Option.some.inj h
   rename_i hy
   exact⟨_,by simp[binOp,Op.intDiv,hy],.inl ⟨_,rfl,rfl⟩⟩
 case rem =>
  split at h
  ·cases h
  ·obtain rfl:=Option.some.inj h
   rename_i hy
   exact⟨_,by simp[binOp,Op.intDiv,hy],.inl ⟨_,rfl,rfl⟩⟩
 all_goals subst h
 case add=>exact⟨_,by simp[binOp,Op.intArith],.inl ⟨_,rfl,rfl⟩⟩
 case sub=>exact⟨_,by simp[binOp,Op.intArith],.inl ⟨_,rfl,rfl⟩⟩
 case mul=>exact⟨_,by simp[binOp,Op.intArith],.inl ⟨_,rfl,rfl⟩⟩
 case xor=>exact⟨_,by simp[binOp,Op.intBits],.inl ⟨_,rfl,rfl⟩⟩
 all_goals exact⟨_,by simp[binOp,Op.intCmp],.inr ⟨_,rfl,rfl⟩⟩
theorem Zo4{P:Program}{w:World}{op:BinOp}{t:TypeId}{x y:ByteArray}{r:AV}(h:binStr op x y=some r) :
  ∃ v,(binOp op t (.string x) (.string y)).run P w=.ok v w/\((∃ s,v=.string s/\r=.str s)\/(∃ b,v=.bool b/\r=.bool b)):=by
 cases op<;>simp only[binStr,reduceCtorEq,Option.some.injEq]at h
 case add =>
  split at h
  ·obtain rfl:=Option.some.inj h
   rename_i hs
   refine⟨_,?_,.inl ⟨_,rfl,rfl⟩⟩
   have hn:¬ (((x.size+y.size:Nat):Int) > IntKind.i64.max):=by
    have:IntKind.i64.max=9223372036854775807:=by decide
    rw[this]
    omega
   simp only[binOp,Op.stringOp]
   rw[if_neg hn]
   rfl
  ·cases h
 all_goals subst h
 all_goals exact⟨_,by simp[binOp,Op.stringOp,sEq,sLt],.inr ⟨_,rfl,rfl⟩⟩
theorem Zbx{P:Program}{w:World}(op:BinOp)(t:TypeId)(x y:Operand)(k k':IntKind)(n m:Int):(eqGuard op t x y (.int k n) (.int k' m)).run P w=.ok () w:=by
 cases op<;>rfl
theorem Zgy{P:Program}{w:World}(op:BinOp)(t:TypeId)(x y:Operand)(n m:ByteArray):(eqGuard op t x y (.string n) (.string m)).run P w=.ok () w:=by
 cases op<;>rfl
theorem Zf6{P:Program}{w:World}(op:BinOp)(t:TypeId)(x y:Operand)(n m:Bool):(eqGuard op t x y (.bool n) (.bool m)).run P w=.ok () w:=by
 cases op<;>rfl
theorem Zse(m:Mem cx s.heap s.ep g w){x1 x2:Operand}{t t':TypeId}{op:BinOp}{y1 y2:Opd}(ho:o.op=.binOp op t x1 x2 t')(h1:SRel cx.num w cx.R g s.heap s.ep (a.eval x1) (y1.ev s.slots))
  (h2:SRel cx.num w cx.R g s.heap s.ep (a.eval x2) (y2.ev s.slots)) (h:sem cl (.bin op y1 y2) key s.slots s.heap s.ep=some out):Done cx s g a w o key out:=by
 simp only[sem]at h
 generalize y1.ev s.slots=c1 at h h1
 generalize y2.ev s.slots=c2 at h h2
 generalize e1:a.eval x1=v1 at h1
 generalize e2:a.eval x2=v2 at h2
 have key1:∀ (r:AV) (v:Value),binAV op c1 c2=some r->(execOp a.eval o).run cx.P w=.ok (.value v) w->SRel cx.num w cx.R g s.heap s.ep v r->Done cx s g a w o key out:=by
  intro r v hb hrun hr
  rw[hb]at h
  exact Zag m hrun hr h
 have h0:=h
 cases c1<;>cases c2<;>simp only[binAV,Out.opt,reduceCtorEq]at h
 ·rename_i k n k' n'
  cases h1
  cases h2
  by_cases hsl:op=.shl
  ·subst hsl
   by_cases hneg:n'<0
   ·simp[hneg,Out.opt]at h
   ·simp only[hneg,if_false,Out.opt]at h
    refine Zag m ?_ (.int _ _) h
    simp[execOp,ho,e1,e2,Zbx,binOp,Op.shift,hneg]
  by_cases hsr:op=.shr
  ·subst hsr
   by_cases hneg:n'<0
   ·simp[hneg,Out.opt]at h
   ·simp only[hneg,if_false,Out.opt]at h
    refine Zag m ?_ (.int _ _) h
    simp[execOp,ho,e1,e2,Zbx,binOp,Op.shift,hneg]
  have hb:binAV op (.int k n) (.int k' n')=if k=k' then binInt op k n n' else none:=by
   cases op<;>first|rfl|exact absurd rfl hsl|exact absurd rfl hsr
  by_cases hk:k=k'
  ·subst hk
   rw[if_pos rfl]at hb
   cases hbi:binInt op k n n' with
   | none =>
    rw[hb,hbi]at h0
    cases h0
   | some r =>
    obtain⟨v,hrun,hr⟩:=Zob (P:=cx.P) (w:=w) (t:=t) hbi
    refine key1 r v (by rw[hb,hbi]) ?_ ?_
    ·simp[execOp,ho,e1,e2,Zbx,hrun]
    ·rcases hr with ⟨_,rfl,rfl⟩|⟨_,rfl,rfl⟩
     ·exact .int _ _
     ·exact .bool _
  ·rw[if_neg hk]at hb
   rw[hb]at h0
   cases h0
 ·cases h1
  cases h2
  rename_i x y
  cases hbi:binStr op x y with
  | none =>
   rw[hbi]at h
   cases h
  | some r =>
   obtain⟨v,hrun,hr⟩:=Zo4 (P:=cx.P) (w:=w) (t:=t) hbi
   refine key1 r v (by simp only[binAV,hbi]) ?_ ?_
   ·simp[execOp,ho,e1,e2,Zgy,hrun]
   ·rcases hr with ⟨_,rfl,rfl⟩|⟨_,rfl,rfl⟩
    ·exact .str _
    ·exact .bool _
theorem Zhs{P:Program}{w:World}{t:TypeId}(ht:P.underlying t=some .bool)(x y:Bool):(Op.equal t (.bool x) (.bool y)).run P w=.ok (x == y) w:=by
 have h:∀ d:Nat,(Op.equalIn (d+1) t (.bool x) (.bool y)).run P w=.ok (x == y) w:=fun d=>by simp[Op.equalIn,run_underlying ht]
 exact h 9999
theorem Zsj(m:Mem cx s.heap s.ep g w){x1 x2:Operand}{t t':TypeId}{op:BinOp}{neg:Bool}{y1 y2:Opd}(ho:o.op=.binOp op t x1 x2 t')(hop:op=if neg then .neq else .eql)
  (ht:cx.P.underlying t=some .bool) (h1:SRel cx.num w cx.R g s.heap s.ep (a.eval x1) (y1.ev s.slots)) (h2:SRel cx.num w cx.R g s.heap s.ep (a.eval x2) (y2.ev s.slots))
  (h:sem cl (.beq neg y1 y2) key s.slots s.heap s.ep=some out):Done cx s g a w o key out:=by
 simp only[sem]at h
 generalize y1.ev s.slots=c1 at h h1
 generalize y2.ev s.slots=c2 at h h2
 generalize e1:a.eval x1=v1 at h1
 generalize e2:a.eval x2=v2 at h2
 cases c1<;>cases c2<;>simp only[reduceCtorEq]at h
 cases h1
 cases h2
 refine Zag m ?_ (.bool _) h
 subst hop
 cases neg<;>simp[execOp,ho,e1,e2,Zf6,binOp,Zhs ht]
theorem Zt9(m:Mem cx s.heap s.ep g w){x:Operand}{t:TypeId}{op:UnOp}{y:Opd}(ho:o.op=.unOp op t x)(h1:SRel cx.num w cx.R g s.heap s.ep (a.eval x) (y.ev s.slots))
  (h:sem cl (.un op y) key s.slots s.heap s.ep=some out):Done cx s g a w o key out:=by
 simp only[sem]at h
 generalize y.ev s.slots=c1 at h h1
 generalize e1:a.eval x=v1 at h1
 cases op<;>cases c1<;>simp only[reduceCtorEq]at h
 ·cases h1
  exact Zag m (by simp[execOp,ho,e1,Op.unary,Op.intArith]) (.int _ _) h
 ·cases h1
  exact Zag m (by simp[execOp,ho,e1,Op.unary]) (.bool _) h
theorem Zrn(m:Mem cx s.heap s.ep g w){x:Operand}{t t':TypeId}{k:IntKind}{y:Opd}(ho:o.op=.convert t t' x)(ht:(cx.P.underlying t).isSome=true)(ht':cx.P.underlying t'=some (.int k))
  (h1:SRel cx.num w cx.R g s.heap s.ep (a.eval x) (y.ev s.slots)) (h:sem cl (.conv k y) key s.slots s.heap s.ep=some out):Done cx s g a w o key out:=by
 simp only[sem]at h
 generalize y.ev s.slots=c1 at h h1
 generalize e1:a.eval x=v1 at h1
 cases c1<;>simp only[reduceCtorEq]at h
 cases h1
 obtain⟨d,hd⟩:=Option.isSome_iff_exists.1 ht
 refine Zag m ?_ (.int _ _) h
 simp[execOp,ho,e1,convert,run_underlying hd,run_underlying ht',Conv.intToInt]
theorem Ztu(m:Mem cx s.heap s.ep g w){x1 x2:Operand}{t t':TypeId}{hi:Bool}{y1 y2:Opd}(ho:o.op=.call { callee:=.builtin (if hi then .max else .min),args:=#[x1,x2],argTypes:=#[t,t'] })(h1:SRel cx.num w cx.R g s.heap s.ep (a.eval x1) (y1.ev s.slots))
  (h2:SRel cx.num w cx.R g s.heap s.ep (a.eval x2) (y2.ev s.slots)) (h:sem cl (.mx hi y1 y2) key s.slots s.heap s.ep=some out):Done cx s g a w o key out:=by
 simp only[sem]at h
 generalize y1.ev s.slots=c1 at h h1
 generalize y2.ev s.slots=c2 at h h2
 generalize e1:a.eval x1=v1 at h1
 generalize e2:a.eval x2=v2 at h2
 cases c1<;>cases c2<;>simp only[reduceCtorEq]at h
 cases h1;cases h2
 cases hi
 ·simp only[Bool.false_eq_true,if_false]at h ho
  refine Zag m ?_ (.int _ _) h
  simp[execOp,ho,resolve,invoke,builtin,e1,e2,Builtin.min_,Builtin.min2]
 ·simp only[if_true]at h ho
  refine Zag m ?_ (.int _ _) h
  simp[execOp,ho,resolve,invoke,builtin,e1,e2,Builtin.max_,Builtin.max2]
theorem Zoh(m:Mem cx s.heap s.ep g w){x:Operand}{y:Opd}(ho:o.op=.nilCheck x)(h1:SRel cx.num w cx.R g s.heap s.ep (a.eval x) (y.ev s.slots))
  (h:sem cl (.nilck y) key s.slots s.heap s.ep=some out):Done cx s g a w o key out:=by
 simp only[sem]at h
 generalize y.ev s.slots=c1 at h h1
 generalize e1:a.eval x=v1 at h1
 have fin:∀ (p:Addr) (r:AV),v1=.pointer (some p)->SRel cx.num w cx.R g s.heap s.ep v1 r->Out.val r=some out->Done cx s g a w o key out:=by
  intro p r hp hr hv
  subst hp
  exact Zag m (by simp[execOp,ho,e1]) hr hv
 cases c1<;>simp only[reduceCtorEq]at h
 ·rename_i id i off
  cases hh:s.heap id with
  | none=>rw[hh]at h;cases h
  | some ob =>
   rw[hh]at h
   have h1':=h1
   cases h1 with
   | ptr _ _ _ _ _ _ hv =>
    have hp:=hv ob hh
    cases ob with
    | box _=>obtain⟨b,_,he⟩:=hp;exact fin _ _ he h1' h
    | arr _ _=>obtain⟨b,_,_,_,he⟩:=hp;exact fin _ _ he h1' h
    | map _ _=>cases h
 ·rename_i md row off
  split at h
  ·rename_i hok
   have h1':=h1
   cases h1 with
   | bptr _ _ _ _ _ _ hm =>
    obtain⟨b,o',us,he,_⟩:=hm hok
    exact fin _ _ he h1' h
  ·cases h
theorem Znj(m:Mem cx s.heap s.ep g w){x:Operand}{t:TypeId}{fi:Nat}{fs:Array Field}{f:Field}{i0:TypeInfo}{y:Opd}(ho:o.op=.fieldAddr t x fi)(ht:cx.P.underlying t=some (.struct fs))
  (hf:fs[fi]?=some f) (hi:cx.P.info? f.type=some i0) (hsz:i0.size≠0) (h1:SRel cx.num w cx.R g s.heap s.ep (a.eval x) (y.ev s.slots))
  (h:sem cl (.faddr y f.offset) key s.slots s.heap s.ep=some out):Done cx s g a w o key out:=by
 simp only[sem]at h
 generalize y.ev s.slots=c1 at h h1
 generalize e1:a.eval x=v1 at h1
 have fin:∀ (b off:Nat) (r:AV),v1=.pointer (some ⟨b,off,none⟩)->SRel cx.num w cx.R g s.heap s.ep (.pointer (some ⟨b,off+f.offset,none⟩)) r->Out.val r=some out->Done cx s g a w o key out:=by
  intro b off r hp hr hv
  subst hp
  refine Zag m ?_ hr hv
  have ha:(⟨b,off,none⟩:Addr).add f.offset=⟨b,off+f.offset,none⟩:=by
   unfold Addr.add
   split
   ·rename_i h0;rw[h0];rfl
   ·rfl
  simp[execOp,ho,e1,Instr.fieldAt,run_underlying ht,hf,Instr.sureAddr,fieldPlace,sizeOf,typeInfo,hi,hsz,ha]
 cases c1<;>simp only[reduceCtorEq]at h
 ·rename_i id i off
  cases hh:s.heap id with
  | none=>rw[hh]at h;cases h
  | some ob =>
   rw[hh]at h
   cases h1 with
   | ptr _ _ _ _ _ hu hv =>
    have hp:=hv ob hh
    cases ob with
    | box cs =>
     obtain⟨b,hg,he⟩:=hp
     refine fin b off _ he (.ptr _ _ _ _ rfl hu fun o' ho'=>?_) h
     rw[hh]at ho'
     obtain rfl:=Option.some.inj ho'
     exact⟨b,hg,rfl⟩
    | arr sz xs =>
     obtain⟨b,n,cp,hg,he⟩:=hp
     refine fin b _ _ he (.ptr _ _ _ _ rfl hu fun o' ho'=>?_) h
     rw[hh]at ho'
     obtain rfl:=Option.some.inj ho'
     exact⟨b,n,cp,hg,by rw[Nat.add_assoc]⟩
    | map _ _=>cases h
 ·rename_i md row off
  split at h
  ·rename_i hok
   cases h1 with
   | bptr _ _ _ _ _ hlim hm =>
    obtain⟨b,o',us,he,hb,hc⟩:=hm hok
    refine fin b o' _ he (.bptr _ _ _ _ rfl hlim fun _=>⟨b,o'+f.offset,fun j=>us (f.offset+j),rfl,hb,fun j c hj=>?_⟩) h
    have:=hc (f.offset+j) c (by rw[<- Nat.add_assoc];exact hj)
    rw[Nat.add_assoc]
    exact this
  ·cases h
theorem Zbq(b off n:Nat):(⟨b,off,none⟩:Addr).add n=⟨b,off+n,none⟩:=by
 unfold Addr.add
 split
 ·rename_i h0;rw[h0];rfl
 ·rfl
theorem Zau{P:Program}{w:World}{t:TypeId}{i0:TypeInfo}(hi:P.info? t=some i0):(sizeOf t).run P w=.ok i0.size w:=by
 simp[sizeOf,typeInfo,hi]
theorem Zhz{P:Program}{w:World}{t e:TypeId}{i0:TypeInfo}(ht:P.underlying t=some (.slice e))(hi:P.info? e=some i0)(b off len cap:Nat)(k:IntKind)(n:Int)(h0:0<=n)(h1:n.toNat<len) :
  (Instr.indexAt t (.slice (some ⟨b,off,none⟩) len cap) (.int k n)).run P w=.ok (.pointer (some ⟨b,off+n.toNat*i0.size,none⟩)) w:=by
 have he:P.elem t=e:=by simp[Program.elem,ht]
 rw[run_indexAt_slice w t _ len cap k n (by rw[he];exact ht),if_pos ⟨h0,by omega⟩,he,Zau hi]
 simp[Zbq]
theorem Cl.open_own{w:World}{I:Nat->Prop}{v:Value}{sz:Nat}{xs:List (List AV)}{S:Nat->Prop}(h:Cl w I v (.sl .own sz xs) S) :
  (v=.slice none 0 0/\xs=[])\/∃ b cap cur e,v=.slice (some ⟨b,0,none⟩) xs.length cap/\w.heap[b]?=some (.cells cur e (0,0))/\S b/\xs.length<=cap/\cap<=maxLen/\cap*sz<=cur.size /\
   (∀ row∈xs,row.length=sz)/\∀ i j c,cellAt xs i j=some c->∃ u T,cur[i*sz+j]?=some u/\Cl w I u c T/\∀ x,T x->S x:=by
 cases h with
 | nil=>exact .inl ⟨rfl,rfl⟩
 | own _ _ b cap cur e us fs _ hheap hcap hmax hcur hrow hcell hin hdis hnot hS =>
  exact .inr ⟨b,cap,cur,e,rfl,hheap,(hS b).2 (.inl rfl),hcap,hmax,hcur,hrow,fun i j c hc=>⟨_,_,hcell i j c hc,hin i j c hc,fun x hx=>(hS x).2 (.inr ⟨i,j,c,hc,hx⟩)⟩⟩
theorem Zou(m:Mem cx s.heap s.ep g w){x j:Operand}{t e:TypeId}{i0:TypeInfo}{y z:Opd}(ho:o.op=.indexAddr t x j)(ht:cx.P.underlying t=some (.slice e))(hi:cx.P.info? e=some i0)
  (h1:SRel cx.num w cx.R g s.heap s.ep (a.eval x) (y.ev s.slots)) (h2:SRel cx.num w cx.R g s.heap s.ep (a.eval j) (z.ev s.slots))
  (h:sem cl (.iaddr i0.size y z) key s.slots s.heap s.ep=some out):Done cx s g a w o key out:=by
 simp only[sem]at h
 generalize y.ev s.slots=c1 at h h1
 generalize z.ev s.slots=c2 at h h2
 generalize e1:a.eval x=v1 at h1
 generalize e2:a.eval j=v2 at h2
 cases c2<;>simp only[reduceCtorEq]at h
 rename_i k n
 cases h2
 split at h
 case isFalse=>cases h
 rename_i h0
 have fin:∀ (b off len cap:Nat) (r:AV),v1=.slice (some ⟨b,off,none⟩) len cap->n.toNat<len->SRel cx.num w cx.R g s.heap s.ep (.pointer (some ⟨b,off+n.toNat*i0.size,none⟩)) r ->
   Out.val r=some out->Done cx s g a w o key out:=by
  intro b off len cap r hp hn hr hv
  subst hp
  refine Zag m ?_ hr hv
  have hrun:=Zhz (w:=w) ht hi b off len cap k n h0 hn
  simp[execOp,ho,e1,e2,hrun]
 cases c1<;>simp only[reduceCtorEq]at h
 case inn ee id kk off =>
  split at h
  case isFalse=>cases h
  rename_i hee
  subst hee
  cases hh:s.heap id with
  | none=>rw[hh]at h;cases h
  | some ob =>
   rw[hh]at h
   cases ob<;>simp only[reduceCtorEq]at h
   rename_i sz1 xs
   cases hx:xs[kk]? with
   | none=>rw[hx]at h;cases h
   | some row =>
    rw[hx]at h
    simp only at h
    split at h
    case h_2=>cases h
    rename_i sz2 ys hro
    split at h
    case isFalse=>cases h
    rename_i hlt
    obtain⟨hlt,rfl⟩:=hlt
    cases h1 with
    | inn _ _ _ _ _ _ hu _ hv =>
     obtain⟨b,nn,c,hg,hNb,hcell⟩:=hv rfl _ _ hh
     rcases (m.objs id _ hh).1.open_own with ⟨_,h5⟩|⟨b',cap,cur,e',h5,hheap,_,_,_,_,_,hcells⟩
     ·rw[h5]at hx;simp at hx
     ·have hg0:=hg
      rw[hg]at h5
      simp only[Value.slice.injEq,Option.some.injEq,Addr.mk.injEq,and_true]at h5
      obtain⟨rfl,_⟩:=h5
      obtain⟨u,T,hu',hcl',hT⟩:=hcells kk off _ (Zaa.2 ⟨row,hx,hro⟩)
      have huv:u=v1:=by
       rw[Zae hheap,hu']at hcell
       exact Option.some.inj hcell
      subst huv
      rcases hcl'.open_own with ⟨_,h6⟩|⟨b2,cap2,cur2,e2',h6,_⟩
      ·rw[h6]at hlt;simp at hlt
      ·refine fin b2 0 _ cap2 _ h6 hlt (.inp _ _ _ _ _ _ _ rfl hu (Nat.le_refl _) fun _ sz3 xs3 h3=>?_) h
       rw[hh]at h3
       simp only[Option.some.injEq,AO.arr.injEq]at h3
       obtain⟨rfl,rfl⟩:=h3
       exact⟨b,nn,c,b2,_,cap2,hg0,hNb,by rw[hcell,h6],by simp⟩
 ·rename_i md sz' xs
  split at h
  case isFalse=>cases h
  rename_i hok
  obtain⟨hok,rfl⟩:=hok
  cases hx:xs[n.toNat]? with
  | none=>rw[hx]at h;cases h
  | some row =>
   rw[hx]at h
   have hlt:=(List.getElem?_eq_some_iff.1 hx).1
   cases h1 with
   | nil=>simp at hlt
   | sl _ _ _ _ _ hm hlim hown =>
    have hb:=hm hok
    cases hb with
    | nil=>simp at hlt
    | sl _ _ _ b off cap us hcap hb hrow hcell hin =>
     refine fin b off _ cap _ rfl hlt (.bptr _ _ _ _ rfl hlim fun _=>⟨b,off+n.toNat*i0.size,fun j=>us n.toNat j,rfl,hb,fun j c hj=>?_⟩) h
     have hc:cellAt xs n.toNat j=some c:=Zaa.2 ⟨row,hx,by simpa using hj⟩
     exact⟨hcell _ _ _ hc,hin _ _ _ hc⟩
 ·rename_i id
  cases hh:s.heap id with
  | none=>rw[hh]at h;cases h
  | some ob =>
   rw[hh]at h
   cases ob<;>simp only[reduceCtorEq]at h
   rename_i sz' xs
   split at h
   case isFalse=>cases h
   rename_i hlt
   obtain⟨hlt,rfl⟩:=hlt
   cases h1 with
   | ref _ _ _ hu hv =>
    have hv':=hv _ hh
    rcases (m.objs id _ hh).1.open_own with ⟨_,h5⟩|⟨b,cap,cur,e',h5,_⟩
    ·rw[h5]at hlt;simp at hlt
    ·refine fin b 0 _ cap _ (hv'.trans h5) hlt (.ptr _ _ _ _ rfl hu fun o' ho'=>?_) h
     rw[hh]at ho'
     obtain rfl:=Option.some.inj ho'
     exact⟨b,_,cap,h5,by simp⟩
 ·rename_i id lo len
  cases hh:s.heap id with
  | none=>rw[hh]at h;cases h
  | some ob =>
   rw[hh]at h
   cases ob<;>simp only[reduceCtorEq]at h
   rename_i sz' xs
   split at h
   case isFalse=>cases h
   rename_i hlt
   obtain⟨hlt,hle,rfl⟩:=hlt
   cases h1 with
   | view _ _ _ _ _ hu hv =>
    obtain⟨a',cap,h5,_,h6⟩:=hv _ _ hh
    obtain⟨b,n',c',h7,h8⟩:=h6 (by omega)
    rw[h8]at h5
    refine fin b _ _ cap _ h5 hlt (.ptr _ _ _ _ rfl hu fun o' ho'=>?_) h
    rw[hh]at ho'
    obtain rfl:=Option.some.inj ho'
    exact⟨b,n',c',h7,by rw[Nat.add_mul];rfl⟩
theorem Zpf(m:Mem cx s.heap s.ep g w){x j:Operand}{t:TypeId}{y z:Opd}(ho:o.op=.index t x j)(ht:cx.P.underlying t=some .string)
  (h1:SRel cx.num w cx.R g s.heap s.ep (a.eval x) (y.ev s.slots)) (h2:SRel cx.num w cx.R g s.heap s.ep (a.eval j) (z.ev s.slots))
  (h:sem cl (.sidx y z) key s.slots s.heap s.ep=some out):Done cx s g a w o key out:=by
 simp only[sem]at h
 generalize y.ev s.slots=c1 at h h1
 generalize z.ev s.slots=c2 at h h2
 generalize e1:a.eval x=v1 at h1
 generalize e2:a.eval j=v2 at h2
 cases c1<;>cases c2<;>simp only[reduceCtorEq]at h
 rename_i b k n
 cases h1
 cases h2
 split at h
 case isFalse=>cases h
 rename_i h0
 cases hb:b.data.toList[n.toNat]? with
 | none=>rw[hb]at h;cases h
 | some u =>
  rw[hb]at h
  refine Zag m ?_ (.int _ _) h
  have hb':b[n.toNat]?=some u:=by
   have hlt:n.toNat<b.size:=by
    have:=(List.getElem?_eq_some_iff.1 hb).1
    simpa using this
   have hget:=(List.getElem?_eq_some_iff.1 hb).2
   rw[getElem?_pos b n.toNat hlt]
   simp only[Option.some.injEq]
   rw[<- hget]
   rfl
  simp[execOp,ho,e1,e2,Instr.index,asIntOf,run_underlying ht,h0,hb']
theorem Zr1(m:Mem cx s.heap s.ep g w){x:Operand}{i:Nat}{y:Opd}(ho:o.op=.extract x i)(h1:SRel cx.num w cx.R g s.heap s.ep (a.eval x) (y.ev s.slots))
  (h:sem cl (.ext y i) key s.slots s.heap s.ep=some out):Done cx s g a w o key out:=by
 simp only[sem]at h
 generalize y.ev s.slots=c1 at h h1
 generalize e1:a.eval x=v1 at h1
 cases c1<;>simp only[reduceCtorEq]at h
 rename_i cs
 cases h1 with
 | tup vs _ hl hc =>
  cases hci:cs[i]? with
  | none=>rw[hci]at h;cases h
  | some c =>
   rw[hci]at h
   have hlt:=(List.getElem?_eq_some_iff.1 hci).1
   have hv:vs[i]?=some vs[i]:=Array.getElem?_eq_getElem (by omega)
   refine Zag m ?_ (hc i _ c hv hci) h
   simp[execOp,ho,e1,Instr.extract,hv]
theorem Zml(m:Mem cx s.heap s.ep g w){v:Value}{x:AV}{sz:Nat}{xs:List (List AV)}(hr:SRel cx.num w cx.R g s.heap s.ep v x)(h:content s.heap s.ep x=some (sz,xs)) :
  ∃ ad cap,v=.slice ad xs.length cap/\xs.length<=cap:=by
 cases x<;>simp only[content,reduceCtorEq]at h
 ·rename_i md sz' ys
  cases hr with
  | nil=>simp only[Option.some.injEq,Prod.mk.injEq]at h;obtain⟨_,rfl⟩:=h;exact⟨none,0,rfl,Nat.le_refl _⟩
  | sl _ _ _ _ _ hm hlim hown =>
   have h':md.ok s.ep=true/\ys=xs:=by
    cases md<;>cases ys<;>simp_all[Md.ok]<;>(split at h<;>simp_all)
   obtain⟨hok,rfl⟩:=h'
   have hb:=hm hok
   cases hb with
   | nil=>exact⟨_,_,rfl,Nat.zero_le _⟩
   | sl _ _ _ b off cap us hcap=>exact⟨_,_,rfl,hcap⟩
 ·rename_i id
  cases hh:s.heap id with
  | none=>rw[hh]at h;cases h
  | some ob =>
   rw[hh]at h
   cases ob<;>simp only[reduceCtorEq,Option.some.injEq,Prod.mk.injEq]at h
   obtain⟨rfl,rfl⟩:=h
   cases hr with
   | ref _ _ _ hu hv =>
    rw[hv _ hh]
    rcases (m.objs id _ hh).1.open_own with ⟨h5,h6⟩|⟨b,cap,cur,e',h5,_,_,h6,_⟩
    ·rw[h5,h6];exact⟨none,0,rfl,Nat.le_refl _⟩
    ·exact⟨_,cap,h5,h6⟩
 ·rename_i id lo len
  cases hh:s.heap id with
  | none=>rw[hh]at h;cases h
  | some ob =>
   rw[hh]at h
   cases ob<;>simp only[reduceCtorEq]at h
   split at h
   case isFalse=>cases h
   rename_i hle
   simp only[Option.some.injEq,Prod.mk.injEq]at h
   obtain⟨rfl,rfl⟩:=h
   cases hr with
   | view _ _ _ _ _ hu hv =>
    obtain⟨a',cap,h5,h6,_⟩:=hv _ _ hh
    have hlen:(List.take len (List.drop lo ‹_›)).length=len:=by simp;omega
    rw[hlen]
    exact⟨a',cap,h5,h6⟩
theorem Zs3(m:Mem cx s.heap s.ep g w){x:Operand}{t e:TypeId}{y:Opd}(ho:o.op=.call { callee:=.builtin .len,args:=#[x],argTypes:=#[t] })(ht:cx.P.underlying t=some (.slice e))
  (h1:SRel cx.num w cx.R g s.heap s.ep (a.eval x) (y.ev s.slots)) (h:sem cl (.len false y) key s.slots s.heap s.ep=some out):Done cx s g a w o key out:=by
 simp only[sem]at h
 cases hc:content s.heap s.ep (y.ev s.slots) with
 | none=>rw[hc]at h;cases h
 | some p =>
  rw[hc]at h
  obtain⟨sz,xs⟩:=p
  obtain⟨ad,cap,hv,_⟩:=Zml m h1 hc
  refine Zag m ?_ (.int _ _) h
  simp[execOp,ho,resolve,invoke,builtin,hv,Builtin.len_,run_underlying ht,goInt]
theorem Zqq(m:Mem cx s.heap s.ep g w){x:Operand}{t:TypeId}{y:Opd}(ho:o.op=.call { callee:=.builtin .len,args:=#[x],argTypes:=#[t] })(ht:cx.P.underlying t=some .string)
  (h1:SRel cx.num w cx.R g s.heap s.ep (a.eval x) (y.ev s.slots)) (h:sem cl (.len true y) key s.slots s.heap s.ep=some out):Done cx s g a w o key out:=by
 simp only[sem]at h
 generalize y.ev s.slots=c1 at h h1
 generalize e1:a.eval x=v1 at h1
 cases c1<;>simp only[reduceCtorEq]at h
 cases h1
 refine Zag m ?_ (.int _ _) h
 simp[execOp,ho,resolve,invoke,builtin,e1,Builtin.len_,run_underlying ht,goInt]
theorem Zft{P:Program}{w:World}{isSlice:Bool}{lo hi:Option Value}{lo' hi':Option AV}{len cap p q:Nat}(hlc:len<=cap)(hlo:∀ u c,lo=some u->lo'=some c->∀ k n,c=.int k n->u=.int k n)
  (hhi:∀ u c,hi=some u->hi'=some c->∀ k n,c=.int k n->u=.int k n) (h1:lo.isSome=lo'.isSome) (h2:hi.isSome=hi'.isSome) (h:slBounds lo' hi' len=some (p,q)) :
  (Instr.sliceBounds isSlice len cap lo hi none).run P w=.ok (p,q,cap) w/\p<=q/\q<=len:=by
 cases lo<;>cases lo'<;>simp at h1<;>cases hi<;>cases hi'<;>simp at h2
 ·simp only[slBounds,Option.some.injEq,Prod.mk.injEq]at h
  obtain⟨rfl,rfl⟩:=h
  exact⟨by simp[Instr.sliceBounds],Nat.zero_le _,Nat.le_refl _⟩
 ·rename_i u c
  cases c<;>simp only[slBounds,reduceCtorEq]at h
  rename_i k n
  obtain rfl:=hhi u _ rfl rfl k n rfl
  split at h
  case isFalse=>cases h
  rename_i hb
  simp only[Option.some.injEq,Prod.mk.injEq]at h
  obtain⟨rfl,rfl⟩:=h
  refine⟨?_,Nat.zero_le _,by omega⟩
  have hc:n<=(cap:Int):=by omega
  simp[Instr.sliceBounds,Instr.sliceBound,asIntOf,hb.1,hc]
 ·rename_i u c
  cases c<;>simp only[slBounds,reduceCtorEq]at h
  rename_i k n
  obtain rfl:=hlo u _ rfl rfl k n rfl
  split at h
  case isFalse=>cases h
  rename_i hb
  simp only[Option.some.injEq,Prod.mk.injEq]at h
  obtain⟨rfl,rfl⟩:=h
  refine⟨?_,by omega,Nat.le_refl _⟩
  simp[Instr.sliceBounds,Instr.sliceBound,asIntOf,hb.1,hb.2]
 ·rename_i u c u' c'
  cases c'<;>simp only[slBounds,reduceCtorEq]at h
  rename_i k' n'
  cases c<;>simp only[reduceCtorEq]at h
  rename_i k n
  obtain rfl:=hlo u _ rfl rfl k n rfl
  obtain rfl:=hhi u' _ rfl rfl k' n' rfl
  split at h
  case isFalse=>cases h
  rename_i hb
  simp only[Option.some.injEq,Prod.mk.injEq]at h
  obtain⟨rfl,rfl⟩:=h
  refine⟨?_,by omega,by omega⟩
  have hc:n'<=(cap:Int):=by omega
  have h0:0<=n':=by omega
  have h3:n<=((n'.toNat:Nat):Int):=by omega
  simp[Instr.sliceBounds,Instr.sliceBound,asIntOf,hb.1,hc,h0,h3]
  intro hgt
  exfalso
  omega
def OptRel(a:Act)(g:Nat->AV)(R:Value->AV->Prop):Option Operand->Option Opd->Prop
 | none,none=>True
 | some x,some y=>R (a.eval x) (y.ev g)
 | _,_=>False
theorem OptRel.some{R:Value->AV->Prop}{x:Option Operand}{y:Option Opd}{gs:Nat->AV}(h:OptRel a gs R x y):(x.map a.eval).isSome=(y.map (·.ev gs)).isSome /\
  ∀ u c,x.map a.eval=some u->y.map (·.ev gs)=some c->R u c:=by
 cases x<;>cases y<;>simp_all[OptRel]
theorem SRel.int_of{num:Nat->Option FuncId}{w:World}{R:Nat->Prop}{g:Gh}{h:Nat->Option AO}{ep:Nat}{u:Value}{c:AV}(hr:SRel num w R g h ep u c):∀ k n,c=.int k n->u=.int k n:=by
 rintro k n rfl
 cases hr
 rfl
theorem Zlb(m:Mem cx s.heap s.ep g w){x:Operand}{lo hi:Option Operand}{t:TypeId}{y:Opd}{lo' hi':Option Opd}(ho:o.op=.slice t x lo hi none)(ht:cx.P.underlying t=some .string)
  (h1:SRel cx.num w cx.R g s.heap s.ep (a.eval x) (y.ev s.slots)) (h2:OptRel a s.slots (SRel cx.num w cx.R g s.heap s.ep) lo lo') (h3:OptRel a s.slots (SRel cx.num w cx.R g s.heap s.ep) hi hi')
  (h:sem cl (.sslice y lo' hi') key s.slots s.heap s.ep=some out):Done cx s g a w o key out:=by
 simp only[sem]at h
 generalize y.ev s.slots=c1 at h h1
 generalize e1:a.eval x=v1 at h1
 cases c1<;>simp only[reduceCtorEq]at h
 rename_i b
 cases h1
 cases hb:slBounds (lo'.map (·.ev s.slots)) (hi'.map (·.ev s.slots)) b.size with
 | none=>rw[hb]at h;cases h
 | some pq =>
  obtain⟨p,q⟩:=pq
  rw[hb]at h
  obtain⟨hl1,hl2⟩:=h2.some
  obtain⟨hh1,hh2⟩:=h3.some
  obtain⟨hrun,hpq,hq⟩:=Zft (P:=cx.P) (w:=w) (isSlice:=false) (Nat.le_refl b.size) (fun u c hu hc=>(hl2 u c hu hc).int_of) (fun u c hu hc=>(hh2 u c hu hc).int_of) hl1 hh1 hb
  refine Zag m ?_ (.str _) h
  simp[execOp,ho,e1,Instr.sliceAt,Instr.slice,run_underlying ht,hrun]
theorem Zqp(m:Mem cx s.heap s.ep g w){x hi mx:Operand}{t e:TypeId}{i0:TypeInfo}{y hi' mx':Opd}(ho:o.op=.slice t x none (some hi) (some mx))(ht:cx.P.underlying t=some (.slice e))(hi0:cx.P.info? e=some i0)
  (h1:SRel cx.num w cx.R g s.heap s.ep (a.eval x) (y.ev s.slots)) (h2:SRel cx.num w cx.R g s.heap s.ep (a.eval hi) (hi'.ev s.slots)) (h3:SRel cx.num w cx.R g s.heap s.ep (a.eval mx) (mx'.ev s.slots))
  (h:sem cl (.cut3 i0.size y hi' mx') key s.slots s.heap s.ep=some out):Done cx s g a w o key out:=by
 simp only[sem]at h
 generalize y.ev s.slots=c1 at h h1
 generalize hi'.ev s.slots=c2 at h h2
 generalize mx'.ev s.slots=c3 at h h3
 generalize e1:a.eval x=v1 at h1
 generalize e2:a.eval hi=v2 at h2
 generalize e3:a.eval mx=v3 at h3
 cases c1<;>try (cases h;done)
 rename_i id
 simp only at h
 cases hh:s.heap id with
 | none=>rw[hh]at h;cases h
 | some ob =>
  rw[hh]at h
  cases ob<;>simp only[reduceCtorEq]at h
  rename_i sz' xs
  cases c2<;>try (cases h;done)
  cases c3<;>try (cases h;done)
  rename_i k2 n k3 n3
  simp only at h
  split at h
  case isFalse=>cases h
  rename_i hb
  obtain⟨rfl,rfl,hb0,hb1⟩:=hb
  cases h2;cases h3
  cases h1 with
  | ref _ _ _ hu hv =>
   have hv':=hv _ hh
   subst hv'
   have ho2:=(m.objs id _ hh).1
   obtain⟨k,rfl⟩:∃ k:Nat,n=k:=⟨n.toNat,by omega⟩
   have hkn:((k:Int)).toNat=k:=rfl
   rw[hkn]at h
   generalize hgv:g.v id=gv at *
   cases ho2 with
   | nil =>
    have hk0:k=0:=by simp at hb1;omega
    subst hk0
    refine Zag m ?_ (.cut id 0 (.slice none 0 0) rfl hu fun _ _=>.inr ⟨hgv,rfl,rfl⟩) h
    simp[execOp,ho,e1,e2,e3,Instr.sliceAt,Instr.slice,run_underlying ht,Instr.sliceBounds,Instr.sliceBound,asIntOf,Zau hi0]
   | own _ _ b cap cur e us fs S hheap hcap hmax hcur hrow hcell hin hdis hnot hS =>
    have hc:(k:Int)<=(cap:Int):=by omega
    refine Zag m (v:=.slice (some ⟨b,0,none⟩) k k) ?_ (.cut id k _ rfl hu fun _ _=>.inl ⟨b,_,cap,hgv,rfl⟩) h
    by_cases hk0:k=0
    ·subst hk0
     simp[execOp,ho,e1,e2,e3,Instr.sliceAt,Instr.slice,run_underlying ht,Instr.sliceBounds,Instr.sliceBound,asIntOf,Zau hi0]
    ·simp[execOp,ho,e1,e2,e3,Instr.sliceAt,Instr.slice,run_underlying ht,Instr.sliceBounds,Instr.sliceBound,asIntOf,Zau hi0,hc,hk0,Addr.add]
     intro hlt
     omega
theorem Zoa(m:Mem cx s.heap s.ep g w){x:Operand}{lo hi:Option Operand}{t e:TypeId}{i0:TypeInfo}{y:Opd}{lo' hi':Option Opd}(ho:o.op=.slice t x lo hi none)(ht:cx.P.underlying t=some (.slice e))(hi0:cx.P.info? e=some i0)
  (h1:SRel cx.num w cx.R g s.heap s.ep (a.eval x) (y.ev s.slots)) (h2:OptRel a s.slots (SRel cx.num w cx.R g s.heap s.ep) lo lo') (h3:OptRel a s.slots (SRel cx.num w cx.R g s.heap s.ep) hi hi')
  (h:sem cl (.slice i0.size y lo' hi') key s.slots s.heap s.ep=some out):Done cx s g a w o key out:=by
 simp only[sem]at h
 generalize y.ev s.slots=c1 at h h1
 generalize e1:a.eval x=v1 at h1
 obtain⟨hl1,hl2⟩:=h2.some
 obtain⟨hh1,hh2⟩:=h3.some
 -- the run,and where the piece lies
 have fin:∀ (ad:Option Addr) (len cap p q:Nat) (r:AV),v1=.slice ad len cap->len<=cap->slBounds (lo'.map (·.ev s.slots)) (hi'.map (·.ev s.slots)) len=some (p,q) ->
   (p<=q->q<=len->SRel cx.num w cx.R g s.heap s.ep (.slice (if cap=p then ad else ad.map (·.add (p*i0.size))) (q-p) (cap-p)) r)->Out.val r=some out->Done cx s g a w o key out:=by
  intro ad len cap p q r hp hlc hb hr hv
  subst hp
  obtain⟨hrun,hpq,hq⟩:=Zft (P:=cx.P) (w:=w) (isSlice:=true) hlc (fun u c hu hc=>(hl2 u c hu hc).int_of) (fun u c hu hc=>(hh2 u c hu hc).int_of) hl1 hh1 hb
  refine Zag m ?_ (hr hpq hq) hv
  simp[execOp,ho,e1,Instr.sliceAt,Instr.slice,run_underlying ht,hrun,Zau hi0]
 cases c1<;>try simp only[reduceCtorEq]at h
 ·rename_i md sz' xs
  by_cases hn:md=.own/\xs=[]
  ·obtain⟨rfl,rfl⟩:=hn
   simp only at h
   split at h
   case isFalse=>cases h
   rename_i hsz
   subst hsz
   cases hb:slBounds (lo'.map (·.ev s.slots)) (hi'.map (·.ev s.slots)) 0 with
   | none=>rw[hb]at h;cases h
   | some pq =>
    obtain⟨p,q⟩:=pq
    rw[hb]at h
    cases h1 with
    | nil _ =>
     refine fin none 0 0 p q _ rfl (Nat.le_refl _) hb (fun hpq hq=>?_) h
     have hq0:q=0:=by omega
     have hp0:p=0:=by omega
     subst hq0;subst hp0
     exact .nil _
    | sl _ _ _ _ _ hm hlim hown=>exact absurd rfl hown
  have h:=(show (if md.ok s.ep/\sz'=i0.size then match slBounds (lo'.map (·.ev s.slots)) (hi'.map (·.ev s.slots)) xs.length with
   | some (a,b)=>Out.val (.sl md sz' ((xs.drop a).take (b-a)))
   | none=>none
   else none)=some out by
    cases md with
    | own=>cases xs with
     | nil=>exact absurd ⟨rfl,rfl⟩ hn
     | cons _ _=>exact h
    | _=>exact h)
  split at h
  case isFalse=>cases h
  rename_i hok
  obtain⟨hok,rfl⟩:=hok
  cases hb:slBounds (lo'.map (·.ev s.slots)) (hi'.map (·.ev s.slots)) xs.length with
  | none=>rw[hb]at h;cases h
  | some pq =>
   obtain⟨p,q⟩:=pq
   rw[hb]at h
   cases h1 with
   | nil=>simp[Md.ok]at hok
   | sl _ _ _ _ _ hm hlim hown =>
    have hbor:=hm hok
    have hlen:∀ p q,q<=xs.length->(List.take (q-p) (List.drop p xs)).length=q-p:=fun p q hq=>by simp;omega
    cases hbor with
    | nil _ _ ad cap =>
     refine fin ad 0 cap p q _ rfl (Nat.zero_le _) hb (fun hpq hq=>?_) h
     have hq0:q=0:=by simpa using hq
     have hp0:p=0:=by omega
     subst hq0;subst hp0
     exact .sl _ _ _ _ rfl (fun _=>.nil _ _ _ _) hlim hown
    | sl _ _ _ b off cap us hcap hbk hrow hcell hin =>
     refine fin _ _ cap p q _ rfl hcap hb (fun hpq hq=>?_) h
     refine .sl _ _ _ _ rfl (fun _=>?_) hlim hown
     by_cases hz:q-p=0
     ·have:List.take (q-p) (List.drop p xs)=[]:=by rw[hz];rfl
      rw[this,hz]
      exact .nil _ _ _ _
     ·rw[if_neg (by omega)]
      have hl:=hlen p q hq
      have hc2:q-p<=cap-p:=by omega
      have e0:(some (⟨b,off,none⟩:Addr)).map (·.add (p*i0.size))=some ⟨b,off+p*i0.size,none⟩:=by simp[Zbq]
      rw[e0]
      have hat:∀ i j c,cellAt (List.take (q-p) (List.drop p xs)) i j=some c->cellAt xs (p+i) j=some c:=by
       intro i j c hc
       obtain⟨row,hr1,hr2⟩:=Zaa.1 hc
       refine Zaa.2 ⟨row,?_,hr2⟩
       rw[List.getElem?_take]at hr1
       split at hr1
       ·rwa [List.getElem?_drop]at hr1
       ·cases hr1
      have:=Bor.sl (w:=w) (R:=rdSet cx.R g md) md i0.size (List.take (q-p) (List.drop p xs)) b (off+p*i0.size) (cap-p) (fun i j=>us (p+i) j) (by rw[hl];exact hc2) hbk
       (fun row hr=>hrow row (List.mem_of_mem_drop (List.mem_of_mem_take hr)))
       (fun i j c hc=>by rw[show off+p*i0.size+i*i0.size+j=off+(p+i)*i0.size+j by rw[Nat.add_mul];omega];exact hcell _ _ _ (hat i j c hc)) (fun i j c hc=>hin _ _ _ (hat i j c hc))
      rwa [hl]at this
 ·rename_i id
  cases hh:s.heap id with
  | none=>rw[hh]at h;cases h
  | some ob =>
   rw[hh]at h
   cases ob<;>simp only[reduceCtorEq]at h
   rename_i sz' xs
   split at h
   case isFalse=>cases h
   rename_i hsz
   subst hsz
   cases hb:slBounds (lo'.map (·.ev s.slots)) (hi'.map (·.ev s.slots)) xs.length with
   | none=>rw[hb]at h;cases h
   | some pq =>
    obtain⟨p,q⟩:=pq
    rw[hb]at h
    cases h1 with
    | ref _ _ _ hu hv =>
     have hv':=hv _ hh
     rcases (m.objs id _ hh).1.open_own with ⟨h5,h6⟩|⟨b,cap,cur,e',h5,_,_,hcap,_⟩
     ·subst h6
      refine fin none 0 0 p q _ (hv'.trans h5) (Nat.le_refl _) hb (fun hpq hq=>?_) h
      have hq0:q=0:=by simpa using hq
      refine .view _ _ _ _ rfl hu fun _ _ _=>⟨_,_,rfl,by omega,fun hne=>by omega⟩
     ·refine fin _ _ cap p q _ (hv'.trans h5) hcap hb (fun hpq hq=>?_) h
      refine .view _ _ _ _ rfl hu fun sz2 xs2 ho2=>⟨_,_,rfl,by omega,fun hne=>⟨b,_,cap,h5,?_⟩⟩
      rw[hh]at ho2
      simp only[Option.some.injEq,AO.arr.injEq]at ho2
      rw[if_neg (by omega),<- ho2.1]
      simp[Zbq]
 ·rename_i id lo0 len0
  cases hh:s.heap id with
  | none=>rw[hh]at h;cases h
  | some ob =>
   rw[hh]at h
   cases ob<;>simp only[reduceCtorEq]at h
   rename_i sz' xs
   split at h
   case isFalse=>cases h
   rename_i hsz
   obtain⟨hle,rfl⟩:=hsz
   cases hb:slBounds (lo'.map (·.ev s.slots)) (hi'.map (·.ev s.slots)) len0 with
   | none=>rw[hb]at h;cases h
   | some pq =>
    obtain⟨p,q⟩:=pq
    rw[hb]at h
    cases h1 with
    | view _ _ _ _ _ hu hv =>
     obtain⟨ad,cap,h5,h6,h7⟩:=hv _ _ hh
     refine fin ad len0 cap p q _ h5 h6 hb (fun hpq hq=>?_) h
     refine .view _ _ _ _ rfl hu fun sz2 xs2 ho2=>⟨_,_,rfl,by omega,fun hne=>?_⟩
     rw[hh]at ho2
     simp only[Option.some.injEq,AO.arr.injEq]at ho2
     obtain⟨b,n',c',h8,h9⟩:=h7 (by omega)
     refine⟨b,n',c',h8,?_⟩
     rw[if_neg (by omega),h9,<- ho2.1]
     simp[Zbq,Nat.add_mul]
/-! ### Reading memory -/
def aggB:TypeDesc->Bool
 | .struct _=>true
 | .array _ _=>true
 | _=>false
theorem Zee{P:Program}{w:World}{t:TypeId}{d:TypeDesc}(ht:P.underlying t=some d):(isAgg t).run P w=.ok (aggB d) w:=by
 simp only[isAgg,Sem.run_bind,run_underlying ht,Result.andThen]
 cases d<;>rfl
theorem Zcs{P:Program}{w:World}{t:TypeId}{d:TypeDesc}{i0:TypeInfo}(ht:P.underlying t=some d)(hi:P.info? t=some i0)(b off:Nat)(us:Nat->Value)
  (hc:∀ j,j<i0.size->w.cell? ⟨b,off+j,none⟩=some (us j)) (h1:aggB d=false->i0.size=1) :
  (loadVar t ⟨b,off,none⟩).run P w=.ok (if aggB d then .agg ((List.range i0.size).map us).toArray else us 0) w:=by
 cases hd:aggB d with
 | true =>
  have hl:=run_loadCells (P:=P) w ⟨b,off,none⟩ i0.size us (fun j hj=>by rw[Zbq];exact hc j hj)
  simp[loadVar,Zee ht,hd,Zau hi,hl]
 | false =>
  have h0:=hc 0 (by rw[h1 hd];omega)
  simp only[Nat.add_zero]at h0
  simp[loadVar,Zee ht,hd,h0]
theorem Zbh(m:Mem cx s.heap s.ep g w){x:Operand}{t:TypeId}{d:TypeDesc}{i0:TypeInfo}(ho:o.op=.load t x)(ht:cx.P.underlying t=some d)(hi:cx.P.info? t=some i0)(hsz:aggB d=false->i0.size=1)
  {b off:Nat} (hx:a.eval x=.pointer (some ⟨b,off,none⟩)) {cs:List AV} {r:AV} (F:AV->AV)
  (hcell:∀ j c,cs[j]?=some c->∃ u,w.cell? ⟨b,off+j,none⟩=some u/\u.oneCell'=true/\SRel cx.num w cx.R g s.heap s.ep u (F c))
  (hr:r=if aggB d then .agg ((cs.take i0.size).map F) else F (cs.getD 0 .any)) (hlen:i0.size<=cs.length) (h:Out.val r=some out):Done cx s g a w o key out:=by
 have hex:∃ us:Nat->Value,∀ j c,cs[j]?=some c->w.cell? ⟨b,off+j,none⟩=some (us j)/\(us j).oneCell'=true/\SRel cx.num w cx.R g s.heap s.ep (us j) (F c):=by
  have hj:∀ j,∃ u,∀ c,cs[j]?=some c->w.cell? ⟨b,off+j,none⟩=some u/\u.oneCell'=true/\SRel cx.num w cx.R g s.heap s.ep u (F c):=by
   intro j
   cases hj:cs[j]? with
   | none=>exact⟨undef,fun c hc=>by cases hc⟩
   | some c0 =>
    obtain⟨u,hu⟩:=hcell j c0 hj
    exact⟨u,fun c hc=>by rw[<- Option.some.inj hc];exact hu⟩
  exact⟨fun j=>(hj j).choose,fun j=>(hj j).choose_spec⟩
 obtain⟨us,hus⟩:=hex
 have hcs:∀ j,j<i0.size->w.cell? ⟨b,off+j,none⟩=some (us j):=fun j hj=>(hus j _ (List.getElem?_eq_getElem (Nat.lt_of_lt_of_le hj hlen))).1
 have hrun:=Zcs (w:=w) ht hi b off us hcs hsz
 subst hr
 cases hd:aggB d with
 | true =>
  rw[hd]at h hrun
  simp only[if_true]at h hrun
  refine Zag m (v:=.agg ((List.range i0.size).map us).toArray) ?_ ?_ h
  ·simp[execOp,ho,hx,Instr.loadAt,Instr.sureAddr,hrun]
  ·refine .agg _ _ (by simp;omega) ?_ ?_
   ·intro j v hv
    simp only[List.getElem?_toArray,List.getElem?_map]at hv
    cases hj:(List.range i0.size)[j]? with
    | none=>rw[hj]at hv;cases hv
    | some j' =>
     rw[hj]at hv
     simp only[Option.map_some,Option.some.injEq]at hv
     have hj2:=List.getElem?_eq_some_iff.1 hj
     obtain⟨hlt,he⟩:=hj2
     simp only[List.length_range]at hlt
     simp only[List.getElem_range]at he
     subst he
     subst hv
     exact (hus j _ (List.getElem?_eq_getElem (Nat.lt_of_lt_of_le hlt hlen))).2.1
   ·intro j v c hv hc
    simp only[List.getElem?_toArray,List.getElem?_map]at hv hc
    cases hj:(List.range i0.size)[j]? with
    | none=>rw[hj]at hv;cases hv
    | some j' =>
     rw[hj]at hv
     simp only[Option.map_some,Option.some.injEq]at hv
     have hj2:=List.getElem?_eq_some_iff.1 hj
     obtain⟨hlt,he⟩:=hj2
     simp only[List.length_range]at hlt
     simp only[List.getElem_range]at he
     subst he
     subst hv
     have hcj:cs[j]?=some cs[j]:=List.getElem?_eq_getElem (Nat.lt_of_lt_of_le hlt hlen)
     have htk:(List.take i0.size cs)[j]?=some cs[j]:=by rw[List.getElem?_take,if_pos hlt,hcj]
     rw[htk]at hc
     simp only[Option.map_some,Option.some.injEq]at hc
     subst hc
     exact (hus j _ hcj).2.2
 | false =>
  rw[hd]at h hrun
  simp only[Bool.false_eq_true,if_false]at h hrun
  have h0:0<cs.length:=by have:=hsz hd;omega
  have hc0:cs[0]?=some cs[0]:=List.getElem?_eq_getElem h0
  refine Zag m (v:=us 0) ?_ ?_ h
  ·simp[execOp,ho,hx,Instr.loadAt,Instr.sureAddr,hrun]
  ·have:=(hus 0 _ hc0).2.2
   have he:cs.getD 0 .any=cs[0]:=by simp[List.getD,hc0]
   rw[he]
   exact this
theorem Za4{cs:List AV}{off sz:Nat}{agg:Bool}{r:AV}(hsz:agg=false->sz=1)(h:loadFrom cs off sz agg=some r) :
  off+sz<=cs.length/\r=if agg then .agg ((cs.drop off).take sz) else (cs.drop off).getD 0 .any:=by
 cases agg with
 | true =>
  simp only[loadFrom,if_true]at h
  split at h
  ·simp only[Option.some.injEq]at h
   exact⟨‹_›,h.symm⟩
  ·cases h
 | false =>
  simp only[loadFrom,Bool.false_eq_true,if_false]at h
  have:=(List.getElem?_eq_some_iff.1 h).1
  rw[hsz rfl]
  refine⟨by omega,?_⟩
  simp[List.getD,h]
theorem SRel.of_cl{num:Nat->Option FuncId}{w:World}{R:Nat->Prop}{g:Gh}{h:Nat->Option AO}{ep:Nat}{v:Value}{c:AV}{S:Nat->Prop}(hc:Cl w g.I v c S)(hS:∀ x,S x->g.N x)(hI:∀ x,g.I x->g.N x) :
  SRel num w R g h ep v (c.lendO ep):=by
 have hb:=hc.bor hS hI
 have h1:=hc.one
 cases hc with
 | any=>exact .any _
 | bool=>exact .bool _
 | int=>exact .int _ _
 | str=>exact .str _
 | imm _ sz xs _ hbor _=>exact .sl _ _ _ _ h1 (fun _=>hbor) (fun e he=>by cases he) (by simp)
 | nil sz _ _=>exact .sl _ _ _ _ h1 (fun _=>hb.md) (fun e he=>by cases he;exact Nat.le_refl _) (by simp)
 | own sz xs=>exact .sl _ _ _ _ h1 (fun _=>hb.md) (fun e he=>by cases he;exact Nat.le_refl _) (by simp)
theorem Zmz{xs:List (List AV)}{sz:Nat}(hrow:∀ row∈xs,row.length=sz){i:Nat}{row:List AV}(h:xs[i]?=some row):row.length=sz :=
 hrow row (List.mem_of_getElem? h)
theorem SRel.of_bor{num:Nat->Option FuncId}{w:World}{R:Nat->Prop}{g:Gh}{h:Nat->Option AO}{ep:Nat}{v:Value}{c:AV}{m:Md}(hb:Bor w (rdSet R g m) v c)(hlim:∀ e,m=.snap e->e<=ep)(hown:m≠.own) :
  SRel num w R g h ep v (c.lend m):=by
 have h1:=hb.one
 cases hb with
 | any=>exact .any _
 | bool=>exact .bool _
 | int=>exact .int _ _
 | str=>exact .str _
 | nil=>exact .sl _ _ _ _ h1 (fun _=>.nil _ _ _ _) hlim hown
 | sl m' sz xs b o cap us hcap hb hrow hcell hin=>exact .sl _ _ _ _ h1 (fun _=>.sl _ _ _ b o cap us hcap hb hrow hcell hin) hlim hown
theorem Md.not_own{ep:Nat}{m:Md}(h:m.ok ep=true):m≠.own:=by rintro rfl;simp[Md.ok]at h
theorem map_id'(cs:List AV)(n:Nat):(cs.take n).map (fun c=>c)=cs.take n:=by simp
theorem Zcy(m:Mem cx s.heap s.ep g w){x:Operand}{t:TypeId}{d:TypeDesc}{i0:TypeInfo}{y:Opd}(ho:o.op=.load t x)(ht:cx.P.underlying t=some d)(hi:cx.P.info? t=some i0)(hsz:aggB d=false->i0.size=1)
  (h1:SRel cx.num w cx.R g s.heap s.ep (a.eval x) (y.ev s.slots)) (h:sem cl (.load y i0.size (aggB d) .plain) key s.slots s.heap s.ep=some out):Done cx s g a w o key out:=by
 simp only[sem]at h
 generalize y.ev s.slots=c1 at h h1
 generalize e1:a.eval x=v1 at h1
 cases c1<;>simp only[reduceCtorEq]at h
 ·rename_i id i off
  cases hh:s.heap id with
  | none=>rw[hh]at h;cases h
  | some ob =>
   rw[hh]at h
   cases h1 with
   | ptr _ _ _ _ _ hu hv =>
    have hp:=hv ob hh
    cases ob with
    | box cells =>
     simp only at h
     split at h
     case isFalse=>cases h
     obtain⟨b,hg,he⟩:=hp
     obtain⟨b',cur,e',hg',hheap,hsize,hS,hN,hcs⟩:=m.objs id _ hh
     rw[hg]at hg'
     simp only[Value.pointer.injEq,Option.some.injEq,Addr.mk.injEq,and_true]at hg'
     subst hg'
     cases hl:loadFrom cells off i0.size (aggB d) with
     | none=>rw[hl]at h;cases h
     | some r =>
      rw[hl]at h
      obtain⟨hle,hr⟩:=Za4 hsz hl
      refine Zbh m ho ht hi hsz (e1.trans he) (cs:=cells.drop off) (fun c=>c) ?_ (by rw[map_id'];exact hr) (by simp;omega) h
      intro j c hj
      rw[List.getElem?_drop]at hj
      have hlt:=(List.getElem?_eq_some_iff.1 hj).1
      have hcur:cur[off+j]?=some (cur[off+j]'(by omega)):=Array.getElem?_eq_getElem (by omega)
      obtain⟨h2,h3⟩:=hcs _ _ _ hcur hj
      exact⟨_,by rw[Zae hheap];exact hcur,h2,h3⟩
    | arr sz' xs =>
     simp only at h
     obtain⟨b,n',c',hg,he⟩:=hp
     obtain⟨hcl,hN⟩:=m.objs id _ hh
     cases hx:xs[i]? with
     | none=>rw[hx]at h;cases h
     | some row =>
      rw[hx]at h
      simp only at h
      rcases hcl.open_own with ⟨_,h5⟩|⟨b',cap,cur,e',h5,hheap,_,_,_,_,hrow,hcells⟩
      ·rw[h5]at hx;simp at hx
      ·rw[hg]at h5
       simp only[Value.slice.injEq,Option.some.injEq,Addr.mk.injEq,and_true]at h5
       obtain⟨rfl,_⟩:=h5
       cases hl:loadFrom row off i0.size (aggB d) with
       | none=>rw[hl]at h;cases h
       | some r =>
        rw[hl]at h
        obtain⟨hle,hr⟩:=Za4 hsz hl
        refine Zbh m ho ht hi hsz (e1.trans he) (cs:=row.drop off) (AV.lendO s.ep) ?_ (r:=lendAO s.ep r) ?_ (by simp;omega) h
        ·intro j c hj
         rw[List.getElem?_drop]at hj
         obtain⟨u,T,hu',hcl',hT⟩:=hcells i (off+j) c (Zaa.2 ⟨row,hx,hj⟩)
         refine⟨u,?_,hcl'.one,SRel.of_cl hcl' (fun x hx=>hN x (hT x hx)) m.I_N⟩
         rw[Zae hheap,Nat.add_assoc]
         exact hu'
        ·rw[hr]
         cases hd:aggB d with
         | true=>simp[lendAO]
         | false =>
          have h0:off<row.length:=by have:=hsz hd;omega
          have he0:(List.drop off row).getD 0 .any=row[off]:=by simp[List.getD,List.getElem?_eq_getElem h0]
          simp only[Bool.false_eq_true,if_false,he0]
          have hcl0:∃ u T,Cl w g.I u row[off] T:=by
           obtain⟨u,T,_,h6,_⟩:=hcells i off row[off] (Zaa.2 ⟨row,hx,List.getElem?_eq_getElem h0⟩)
           exact⟨u,T,h6⟩
          obtain⟨u,T,h6⟩:=hcl0
          cases hrc:row[off]<;>first|rfl|(rw[hrc]at h6;cases h6)
    | map _ _=>simp only[reduceCtorEq]at h
 ·rename_i md row off
  split at h
  case isFalse=>cases h
  rename_i hok
  cases hl:loadFrom row off i0.size (aggB d) with
  | none=>rw[hl]at h;cases h
  | some r =>
   rw[hl]at h
   obtain⟨hle,hr⟩:=Za4 hsz hl
   cases h1 with
   | bptr _ _ _ _ _ hlim hm =>
    obtain⟨b,o',us,he,hb,hc⟩:=hm hok
    refine Zbh m ho ht hi hsz (e1.trans he) (cs:=row.drop off) (AV.lend md) ?_ (r:=lendA md r) ?_ (by simp;omega) h
    ·intro j c hj
     rw[List.getElem?_drop]at hj
     obtain⟨h2,h3⟩:=hc j c hj
     exact⟨_,h2,h3.one,SRel.of_bor h3 hlim (Md.not_own hok)⟩
    ·rw[hr]
     cases hd:aggB d with
     | true=>simp[lendA]
     | false =>
      have h0:off<row.length:=by have:=hsz hd;omega
      have he0:(List.drop off row).getD 0 .any=row[off]:=by simp[List.getD,List.getElem?_eq_getElem h0]
      simp only[Bool.false_eq_true,if_false,he0]
      have h6:=(hc 0 row[off] (List.getElem?_eq_getElem h0)).2
      generalize us 0=u0 at h6
      cases hrc:row[off]<;>first|rfl|(rw[hrc]at h6;cases h6)
theorem Znq(m:Mem cx s.heap s.ep g w){x:Operand}{t:TypeId}{d:TypeDesc}{i0:TypeInfo}{y:Opd}(ho:o.op=.load t x)(ht:cx.P.underlying t=some d)(hi:cx.P.info? t=some i0)(hag:aggB d=true)
  (h1:SRel cx.num w cx.R g s.heap s.ep (a.eval x) (y.ev s.slots)) (h:sem cl (.blank i0.size y) key s.slots s.heap s.ep=some out):Done cx s g a w o key out:=by
 have hl:∃ cs,sem cl (.load y i0.size (aggB d) .plain) key s.slots s.heap s.ep=Out.val (.agg cs)/\out=⟨.agg (cs.map fun _=>.any),[],false⟩:=by
  simp only[sem]at h ⊢
  rw[hag]
  generalize y.ev s.slots=c1 at h ⊢
  cases c1<;>try (cases h;done)
  rename_i id i off
  cases i with
  | succ i=>cases h
  | zero =>
   simp only at h ⊢
   cases hh:s.heap id with
   | none=>rw[hh]at h;cases h
   | some ob =>
    rw[hh]at h
    cases ob<;>simp only[reduceCtorEq]at h
    rename_i cells
    cases hf:loadFrom cells off i0.size true with
    | none=>rw[hf]at h;cases h
    | some v =>
     rw[hf]at h
     cases v<;>simp only[reduceCtorEq]at h
     rename_i cs
     exact⟨cs,by first|(rw[if_pos rfl,hf];rfl)|(simp only[if_true,hf];rfl),(Option.some.inj h).symm⟩
 obtain⟨cs,h2,rfl⟩:=hl
 obtain⟨n,v,w',g',h3,h4,h5,h6,h7,h8⟩:=Zcy m ho ht hi (by simp[hag]) h1 h2
 refine⟨n,v,w',g',h3,h4,h5,h6,?_,h8⟩
 cases h7 with
 | agg vs _ hl h9 hc =>
  refine .agg vs _ (by simpa using hl) h9 (fun i u c hu hi=>?_)
  rw[List.getElem?_map]at hi
  cases hci:cs[i]? with
  | none=>rw[hci]at hi;cases hi
  | some c0 =>
   rw[hci]at hi
   simp only[Option.map_some,Option.some.injEq]at hi
   subst hi
   exact .any _
theorem Zi3(m:Mem cx s.heap s.ep g w){x:Operand}{t:TypeId}{d:TypeDesc}{i0:TypeInfo}{y:Opd}(ho:o.op=.load t x)(ht:cx.P.underlying t=some d)(hi:cx.P.info? t=some i0)(hag:aggB d=false)(hsz:i0.size=1)
  (h1:SRel cx.num w cx.R g s.heap s.ep (a.eval x) (y.ev s.slots)) (h:sem cl (.load y i0.size (aggB d) .share) key s.slots s.heap s.ep=some out):Done cx s g a w o key out:=by
 simp only[sem]at h
 generalize y.ev s.slots=c1 at h h1
 generalize e1:a.eval x=v1 at h1
 have hs':aggB d=false->i0.size=1:=fun _=>hsz
 cases c1<;>simp only[reduceCtorEq]at h
 ·rename_i id i off
  cases hh:s.heap id with
  | none=>rw[hh]at h;cases h
  | some ob =>
   rw[hh]at h
   cases h1 with
   | ptr _ _ _ _ _ hu hv =>
    have hp:=hv ob hh
    cases ob with
    | box cells =>
     simp only at h
     split at h
     case isFalse=>cases h
     obtain⟨b,hg,he⟩:=hp
     obtain⟨b',cur,e',hg',hheap,hsize,hS,hN,hcs⟩:=m.objs id _ hh
     rw[hg]at hg'
     simp only[Value.pointer.injEq,Option.some.injEq,Addr.mk.injEq,and_true]at hg'
     subst hg'
     cases hl:loadFrom cells off i0.size (aggB d) with
     | none=>rw[hl]at h;cases h
     | some r =>
      rw[hl]at h
      obtain⟨hle,hr⟩:=Za4 hs' hl
      refine Zbh m ho ht hi hs' (e1.trans he) (cs:=cells.drop off) (fun c=>c) ?_ (by rw[map_id'];exact hr) (by simp;omega) h
      intro j c hj
      rw[List.getElem?_drop]at hj
      have hlt:=(List.getElem?_eq_some_iff.1 hj).1
      have hcur:cur[off+j]?=some (cur[off+j]'(by omega)):=Array.getElem?_eq_getElem (by omega)
      obtain⟨h2,h3⟩:=hcs _ _ _ hcur hj
      exact⟨_,by rw[Zae hheap];exact hcur,h2,h3⟩
    | arr sz' xs =>
     simp only at h
     obtain⟨b,n',c',hg,he⟩:=hp
     obtain⟨hcl,hN⟩:=m.objs id _ hh
     cases hx:xs[i]? with
     | none=>rw[hx]at h;cases h
     | some row =>
      rw[hx]at h
      simp only at h
      split at h
      case h_2=>cases h
      rename_i sz2 ys hro
      rcases hcl.open_own with ⟨_,h5⟩|⟨b',cap,cur,e',h5,hheap,hSb,_,_,_,hrow,hcells⟩
      ·rw[h5]at hx;simp at hx
      ·rw[hg]at h5
       simp only[Value.slice.injEq,Option.some.injEq,Addr.mk.injEq,and_true]at h5
       obtain⟨rfl,_⟩:=h5
       obtain⟨u,T,hu',hcl',hT⟩:=hcells i off _ (Zaa.2 ⟨row,hx,hro⟩)
       have hcell:w.cell? ⟨b,i*sz'+off,none⟩=some u:=by rw[Zae hheap];exact hu'
       refine Zbh m ho ht hi hs' (e1.trans he) (cs:=[.any]) (r:=.inn s.ep id i off) (fun _=>.inn s.ep id i off) ?_ (by rw[hag];rfl) (by simp[hsz]) h
       intro j c hj
       cases j with
       | succ j=>simp at hj
       | zero =>
        refine⟨u,hcell,hcl'.one,.inn _ _ _ _ _ hcl'.one hu (Nat.le_refl _) (fun _ sz3 xs3 h3=>?_)⟩
        rw[hh]at h3
        simp only[Option.some.injEq,AO.arr.injEq]at h3
        obtain⟨rfl,rfl⟩:=h3
        exact⟨b,n',c',hg,hN _ hSb,hcell⟩
    | map _ _=>simp only[reduceCtorEq]at h
 ·rename_i md row off
  split at h
  case isFalse=>cases h
  rename_i hok
  cases hl:loadFrom row off i0.size (aggB d) with
  | none=>rw[hl]at h;cases h
  | some r =>
   rw[hl]at h
   exact Zcy (cl:=cl) m ho ht hi hs' (by rw[e1];exact h1) (y:=.const (.bptr md row off)) (by simp only[sem,Opd.ev,hok,if_true,hl];exact h)
end
end Go.Proofs.YtfemiipgkhekiaaGreatDoor
