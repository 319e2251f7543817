/- Worlds: parcels are sent. And what follows from it, part by part, as the proof needs it. -/
import Derived.Test.YtgdfelbedghhnaaGreatDoorB7
import Derived.Test.YtgdfelbedghhnaaGreatDoorB6
import Derived.Test.YtgdfelbedghhnaaGreatDoorB5
import Derived.KernelRfl
namespace Go.Proofs.YtgdfelbedghhnaaGreatDoor
open Go
set_option linter.unusedSimpArgs false
set_option maxRecDepth 100000
def rowT(s:T):List AV:=[.str s]
def Wld.refs(w:Wld)(n:Nat):List AV:=[.int .i64 w.land.time,.ref n,.ref (n+1),.ref (n+2),.ref (n+3)]
def Wld.arrs(w:Wld):List AO:=[.arr 5 (w.land.grants.map Grant.c),.arr 3 (w.land.places.map (Place.c .own)),.arr 9 (w.mates.map (Mate.c .own)),.arr 1 (w.flight.map rowT)]
def sendF(fl:List T)(p:Parcel):List T:=if !sEq (parcelForm p) ⟨#[]⟩ && decide (fl.length<300) then fl++[parcelForm p] else fl
def sendW(w:Wld)(ps:List Parcel):Wld:={ w with flight:=ps.foldl sendF w.flight }
theorem Zhx(fl:List T)(p:Parcel):(sendF fl p).length<=max fl.length 300:=by
 unfold sendF
 split
 ·rename_i h
  simp only[Xc,Xj]at h
  rw[Xs,Xbm]
  omega
 ·omega
theorem Zdg:∀ (ps:List Parcel) (fl:List T),(ps.foldl sendF fl).length<=max fl.length 300
 | [],fl=>by simp only[List.foldl_nil];omega
 | p::ps,fl=>by
  have h1:=Zdg ps (sendF fl p)
  have h2:=Zhx fl p
  rw[Xbl]
  omega
def wcells(f:Bool)(n k:Nat)(w:Wld):List AV:=[.int .i64 w.land.time,.ref n,.ref (n+1),.ref (n+2),if f then .ref k else .ref (n+3)]
def wheap(f:Bool)(w:Wld)(fl:List T):Nat->Option AO :=
 if f then upd (upd (upd (upd (upd (upd (fun _=>none) 5 (some (.arr 1 (fl.map rowT)))) 4 none) 3 (some (.arr 9 (w.mates.map (Mate.c .own))))) 2 (some (.arr 3 (w.land.places.map (Place.c .own))))) 1 (some (.arr 5 (w.land.grants.map Grant.c)))) 0 (some (.box (wcells true 1 5 w)))
 else upd (upd (upd (upd (upd (fun _=>none) 4 (some (.arr 1 (w.flight.map rowT)))) 3 (some (.arr 9 (w.mates.map (Mate.c .own))))) 2 (some (.arr 3 (w.land.places.map (Place.c .own))))) 1 (some (.arr 5 (w.land.grants.map Grant.c)))) 0 (some (.box (wcells false 1 5 w)))
def head205(w:Wld)(ps:List Parcel)(m:Md)(f:Bool)(fl:List T)(i:Nat):St :=
 { hd [(0,.ptr 0 0 0),(7,.sl .bor 7 (ps.map (Parcel.c m))),(8,.int .i64 ps.length),(9,.int .i64 i)] [] 5 with heap:=wheap f w fl,next:=if f then 6 else 5 }
def wgone(w:Wld):AV×List (Option AO):=(.tup [],[some (.box (w.c .own .own)),none,none,none,none])
theorem law205(w:Wld)(ps:List Parcel)(m:Md)(hl:ps.length<=1048576)(hps:∀ p∈ps,p.small)(hf:w.flight.length<=1000):F 205 [.ptr 0 0 0,.sl .bor 7 (ps.map (Parcel.c m))] (.box (w.refs 1)::w.arrs)=some (wgone (sendW w ps)):=by
 refine Zae fn205 rfl ?_
 simp[c205,Wld.refs,Wld.arrs]
 refine (Zaa ps (fun i (z:Bool×List T)=>head205 w ps m z.1 z.2 i) (fun _ z=>(z.1=false->z.2=w.flight)/\z.2.length<=1000) (fun _ r z=>wgone { w with flight:=r.foldl sendF z.2 }) (fun z Y hinv=>?_) (fun i p r z Y hpi hi hr hinv hY=>?_) (false,w.flight) ?_ ⟨fun _=>rfl,hf⟩ (by unfold big;omega)).trans rfl
 ·obtain⟨f,fl⟩:=z
  obtain⟨g3,g4⟩:=hinv
  simp only at g3 g4 ⊢
  have e:(fun s:T=>[AV.str s])=rowT:=rfl
  cases f
  ·obtain rfl:=g3 rfl
   simp[head205,wcells,wheap,c205b0,List.range,List.range.loop,wgone,e]
  ·simp[head205,wcells,wheap,c205b0,List.range,List.range.loop,wgone,e]
 ·obtain⟨f,fl⟩:=z
  obtain⟨g3,g4⟩:=hinv
  simp only at g3 g4 hY ⊢
  have hiI:(i:Int)<ps.length:=by omega
  have hw:IntKind.i64.wrap ((i:Int)+1)=(i:Int)+1:=i64w (by omega) (by omega)
  obtain⟨_,hgp⟩:=Xa.1 hpi
  have w218:=law218 p (hps p (Xe hpi))
  simp only[Parcel.c]at w218
  have hsl:=Zhx fl p
  have hc1:(fl.length+1)*16<=140737488355328:=by omega
  have hc2:fl.length+1<=140737488355328:=by omega
  have rp:rowsPlain [[AV.str (parcelForm p)]]=true:=rfl
  rw[Xbl]
  cases q:sEq (parcelForm p) ⟨#[]⟩
  ·by_cases h3:fl.length<300
   ·have h3I:(fl.length:Int)<300:=by omega
    have hst:sendF fl p=fl++[parcelForm p]:=by unfold sendF;simp[q,h3]
    rw[hst]
    cases f
    ·obtain rfl:=g3 rfl
     simp[head205,wcells,wheap,c205b0,hi,hiI,hgp,w218,q,h3I,takeRows,rp,hc1,hc2]
     refine hY (true,w.flight++[parcelForm p]) _ ⟨(fun h=>nomatch h),by simp;omega⟩ ?_
     simp[head205,wcells,wheap,hw,List.range,List.range.loop,rowT]
    ·simp[head205,wcells,wheap,c205b0,hi,hiI,hgp,w218,q,h3I,takeRows,rp,hc1,hc2]
     refine hY (true,fl++[parcelForm p]) _ ⟨(fun h=>nomatch h),by simp;omega⟩ ?_
     simp[head205,wcells,wheap,hw,List.range,List.range.loop,rowT]
   ·have hst:sendF fl p=fl:=by unfold sendF;simp[h3]
    rw[hst]
    cases f
    ·obtain rfl:=g3 rfl
     have h3I:¬ (w.flight.length:Int)<300:=by omega
     simp[head205,wcells,wheap,c205b0,hi,hiI,hgp,w218,q,h3I]
     refine hY (false,w.flight) _ ⟨fun _=>rfl,hf⟩ ?_
     simp[head205,wcells,wheap,hw,List.range,List.range.loop]
    ·have h3I:¬ (fl.length:Int)<300:=by omega
     simp[head205,wcells,wheap,c205b0,hi,hiI,hgp,w218,q,h3I]
     refine hY (true,fl) _ ⟨(fun h=>nomatch h),g4⟩ ?_
     simp[head205,wcells,wheap,hw,List.range,List.range.loop]
  ·have hst:sendF fl p=fl:=by unfold sendF;simp[q]
   rw[hst]
   cases f
   ·simp[head205,wcells,wheap,c205b0,hi,hiI,hgp,w218,q]
    refine hY (false,fl) _ ⟨g3,g4⟩ ?_
    simp[head205,wcells,wheap,hw,List.range,List.range.loop]
   ·simp[head205,wcells,wheap,c205b0,hi,hiI,hgp,w218,q]
    refine hY (true,fl) _ ⟨g3,g4⟩ ?_
    simp[head205,wcells,wheap,hw,List.range,List.range.loop]
 ·simp[head205,wcells,wheap,List.range,List.range.loop]
def zeroW:List AV:=[.int .i64 0,.sl .own 5 [],.sl .own 3 [],.sl .own 9 [],.sl .own 1 []]
def wheapV(f:Bool)(w:Wld)(fl:List T):Nat->Option AO :=
 if f then upd (upd (upd (upd (upd (upd (upd (fun _=>none) 6 (some (.arr 1 (fl.map rowT)))) 5 (some (.box zeroW))) 4 (some (.box (wcells true 0 6 w)))) 3 none) 2 (some (.arr 9 (w.mates.map (Mate.c .own))))) 1 (some (.arr 3 (w.land.places.map (Place.c .own))))) 0 (some (.arr 5 (w.land.grants.map Grant.c)))
 else upd (upd (upd (upd (upd (upd (fun _=>none) 5 (some (.box zeroW))) 4 (some (.box (wcells false 0 6 w)))) 3 (some (.arr 1 (w.flight.map rowT)))) 2 (some (.arr 9 (w.mates.map (Mate.c .own))))) 1 (some (.arr 3 (w.land.places.map (Place.c .own))))) 0 (some (.arr 5 (w.land.grants.map Grant.c)))
def head233(w:Wld)(ps:List Parcel)(m:Md)(f:Bool)(fl:List T)(i:Nat):St :=
 { hd [(1,.sl .bor 7 (ps.map (Parcel.c m))),(2,.ptr 4 0 0),(4,.ptr 5 0 0),(5,.int .i64 i)] [] 4 with heap:=wheapV f w fl,next:=if f then 7 else 6 }
def wgoneV(w:Wld):AV×List (Option AO):=(.agg (w.c .own .own),[none,none,none,none])
theorem law233(w:Wld)(ps:List Parcel)(m:Md)(hl:ps.length<=1048576)(hps:∀ p∈ps,p.small)(hf:w.flight.length<=1000):F 233 [.agg (w.refs 0),.sl .bor 7 (ps.map (Parcel.c m))] w.arrs=some (wgoneV (sendW w ps)):=by
 refine Zae fn233 rfl ?_
 simp[c233,Wld.refs,Wld.arrs]
 refine (Zaa ps (fun i (z:Bool×List T)=>head233 w ps m z.1 z.2 i) (fun _ z=>(z.1=false->z.2=w.flight)/\z.2.length<=1000) (fun _ r z=>wgoneV { w with flight:=r.foldl sendF z.2 }) (fun z Y hinv=>?_) (fun i p r z Y hpi hi hr hinv hY=>?_) (false,w.flight) ?_ ⟨fun _=>rfl,hf⟩ (by unfold big;omega)).trans rfl
 ·obtain⟨f,fl⟩:=z
  obtain⟨g3,g4⟩:=hinv
  simp only at g3 g4 ⊢
  have e:(fun s:T=>[AV.str s])=rowT:=rfl
  cases f
  ·obtain rfl:=g3 rfl
   simp[head233,wcells,wheapV,zeroW,c233b0,List.range,List.range.loop,wgoneV,e]
  ·simp[head233,wcells,wheapV,zeroW,c233b0,List.range,List.range.loop,wgoneV,e]
 ·obtain⟨f,fl⟩:=z
  obtain⟨g3,g4⟩:=hinv
  simp only at g3 g4 hY ⊢
  have hiI:(i:Int)<ps.length:=by omega
  have hw:IntKind.i64.wrap ((i:Int)+1)=(i:Int)+1:=i64w (by omega) (by omega)
  obtain⟨_,hgp⟩:=Xa.1 hpi
  have w236:=law236 p (hps p (Xe hpi))
  simp only[Parcel.c]at w236
  have hsl:=Zhx fl p
  have hc1:(fl.length+1)*16<=140737488355328:=by omega
  have hc2:fl.length+1<=140737488355328:=by omega
  have rp:rowsPlain [[AV.str (parcelForm p)]]=true:=rfl
  rw[Xbl]
  cases q:sEq (parcelForm p) ⟨#[]⟩
  ·by_cases h3:fl.length<300
   ·have h3I:(fl.length:Int)<300:=by omega
    have hst:sendF fl p=fl++[parcelForm p]:=by unfold sendF;simp[q,h3]
    rw[hst]
    cases f
    ·obtain rfl:=g3 rfl
     simp[head233,wcells,wheapV,zeroW,c233b0,hi,hiI,hgp,w236,q,h3I,takeRows,rp,hc1,hc2]
     refine hY (true,w.flight++[parcelForm p]) _ ⟨(fun h=>nomatch h),by simp;omega⟩ ?_
     simp[head233,wcells,wheapV,zeroW,hw,List.range,List.range.loop,rowT]
    ·simp[head233,wcells,wheapV,zeroW,c233b0,hi,hiI,hgp,w236,q,h3I,takeRows,rp,hc1,hc2]
     refine hY (true,fl++[parcelForm p]) _ ⟨(fun h=>nomatch h),by simp;omega⟩ ?_
     simp[head233,wcells,wheapV,zeroW,hw,List.range,List.range.loop,rowT]
   ·have hst:sendF fl p=fl:=by unfold sendF;simp[h3]
    rw[hst]
    cases f
    ·obtain rfl:=g3 rfl
     have h3I:¬ (w.flight.length:Int)<300:=by omega
     simp[head233,wcells,wheapV,zeroW,c233b0,hi,hiI,hgp,w236,q,h3I]
     refine hY (false,w.flight) _ ⟨fun _=>rfl,hf⟩ ?_
     simp[head233,wcells,wheapV,zeroW,hw,List.range,List.range.loop]
    ·have h3I:¬ (fl.length:Int)<300:=by omega
     simp[head233,wcells,wheapV,zeroW,c233b0,hi,hiI,hgp,w236,q,h3I]
     refine hY (true,fl) _ ⟨(fun h=>nomatch h),g4⟩ ?_
     simp[head233,wcells,wheapV,zeroW,hw,List.range,List.range.loop]
  ·have hst:sendF fl p=fl:=by unfold sendF;simp[q]
   rw[hst]
   cases f
   ·simp[head233,wcells,wheapV,zeroW,c233b0,hi,hiI,hgp,w236,q]
    refine hY (false,fl) _ ⟨g3,g4⟩ ?_
    simp[head233,wcells,wheapV,zeroW,hw,List.range,List.range.loop]
   ·simp[head233,wcells,wheapV,zeroW,c233b0,hi,hiI,hgp,w236,q]
    refine hY (true,fl) _ ⟨g3,g4⟩ ?_
    simp[head233,wcells,wheapV,zeroW,hw,List.range,List.range.loop]
 ·simp[head233,wcells,wheapV,zeroW,List.range,List.range.loop]
theorem Zbc(l:List T):rowsPlain (l.map rowT)=true:=by
 induction l with
 | nil=>rfl
 | cons a l ih=>simp[rowsPlain,rowT]at ih ⊢
def ccells(n:Nat)(w:Wld)(acc:List Mate):List AV:=[.int .i64 w.land.time,.ref n,.ref (n+1),ownVi (n+2) 9 (acc.map (Mate.c .own)),.ref (if acc=[] then n+2 else n+3)]
def carrs(w:Wld)(acc:List Mate):List AO:=[.arr 5 (w.land.grants.map Grant.c),.arr 3 (w.land.places.map (Place.c .own))]++(ownH 9 (acc.map (Mate.c .own))++[.arr 1 (w.flight.map rowT)])
def head223(w:Wld)(mm:Md)(acc:List Mate)(i:Nat):St:=hd [(2,.ptr 0 0 0),(3,.ptr 1 0 0),(14,.sl .bor 9 (w.mates.map (Mate.c mm))),(15,.int .i64 w.mates.length),(16,.int .i64 i)] ([.box zeroW,.box (ccells 2 w acc)]++carrs w acc) 0
theorem law223c(w:Wld)(ml mm:Md)(hw:w.small)(hf:w.flight.length<=1000):F 223 [.agg (w.cc .bor ml mm)] []=some (.agg (w.c .own .own),[]):=by
 refine Zae fn223 rfl ?_
 have w122:=law122 w.land ml hw.land
 simp only[Land.c]at w122
 have e:(fun s:T=>[AV.str s])=rowT:=rfl
 have hc1:w.flight.length*16<=140737488355328:=by omega
 have hc2:w.flight.length<=140737488355328:=by omega
 have hlm:=hw.mates
 have rp:=Zbc w.flight
 simp[c223,w122,e,takeRows,hc1,hc2,rp]
 refine (Zaa w.mates (fun i (acc:List Mate)=>head223 w mm acc i) (fun i acc=>acc.length=i) (fun _ r acc=>(AV.agg (({ w with mates:=acc++r }:Wld).c .own .own),([]:List (Option AO)))) (fun acc Y hacc=>?_) (fun i a r acc Y ha hi hr hacc hY=>?_) [] ?_ rfl ?_).trans ?_
 ·rcases acc with _|⟨x,acc⟩
  ·simp[head223,ccells,carrs,c223b0,zeroW,e]
  ·simp[head223,ccells,carrs,c223b0,zeroW,e]
 ·have hw1:IntKind.i64.wrap ((i:Int)+1)=(i:Int)+1:=i64w (by omega) (by omega)
  obtain⟨_,hg⟩:=Xa.1 ha
  have w117:=law117 a (hw.each a (Xe ha))
  simp only[Mate.c]at w117
  have hb3:(acc.length+1)*144<=140737488355328:=by omega
  have hb4:acc.length+1<=140737488355328:=by omega
  have hY':=fun s' h=>hY (acc++[a]) s' (by simp[hacc]) h
  rcases acc with _|⟨x,acc⟩
  ·simp[head223,ccells,carrs,c223b0,zeroW,hi,hg,w117,takeRows]
   exact (hY' _ (by simp[head223,ccells,carrs,hw1,zeroW])).trans (by simp)
  ·simp at hb3 hb4
   simp[head223,ccells,carrs,c223b0,zeroW,hi,hg,w117,takeRows,hb3,hb4]
   exact (hY' _ (by simp[head223,ccells,carrs,hw1,zeroW])).trans (by simp)
 ·simp[head223,ccells,carrs,zeroW]
 ·unfold big;omega
 ·simp[e]
def head216(w:Wld)(ml mm:Md)(acc:List Mate)(i:Nat):St:=hd [(1,.ptr 0 0 0),(2,.ptr 1 0 0),(3,.ptr 2 0 0),(4,.int .i64 i)] ([.box (w.cc .bor ml mm),.box zeroW,.box (ccells 3 w acc)]++carrs w acc) 0
theorem law216c(w:Wld)(ml mm:Md)(hw:w.small)(hf:w.flight.length<=1000):F 216 [.agg (w.cc .bor ml mm)] []=some (.agg (w.c .own .own),[]):=by
 refine Zae fn216 rfl ?_
 have w121:=law121 w.land ml hw.land
 simp only[Land.c]at w121
 have e:(fun s:T=>[AV.str s])=rowT:=rfl
 have hc1:w.flight.length*16<=140737488355328:=by omega
 have hc2:w.flight.length<=140737488355328:=by omega
 have hlm:=hw.mates
 have rp:=Zbc w.flight
 simp[c216,w121,e,takeRows,hc1,hc2,rp]
 refine (Zaa w.mates (fun i (acc:List Mate)=>head216 w ml mm acc i) (fun i acc=>acc.length=i) (fun _ r acc=>(AV.agg (({ w with mates:=acc++r }:Wld).c .own .own),([]:List (Option AO)))) (fun acc Y hacc=>?_) (fun i a r acc Y ha hi hr hacc hY=>?_) [] ?_ rfl ?_).trans ?_
 ·rcases acc with _|⟨x,acc⟩
  ·simp[head216,ccells,carrs,c216b0,zeroW,e]
  ·simp[head216,ccells,carrs,c216b0,zeroW,e]
 ·have hw1:IntKind.i64.wrap ((i:Int)+1)=(i:Int)+1:=i64w (by omega) (by omega)
  obtain⟨_,hg⟩:=Xa.1 ha
  have hiI:(i:Int)<w.mates.length:=by omega
  have w120:=law120 a (hw.each a (Xe ha))
  simp only[Mate.c]at w120
  have hb3:(acc.length+1)*144<=140737488355328:=by omega
  have hb4:acc.length+1<=140737488355328:=by omega
  have hY':=fun s' h=>hY (acc++[a]) s' (by simp[hacc]) h
  rcases acc with _|⟨x,acc⟩
  ·simp[head216,ccells,carrs,c216b0,zeroW,hi,hiI,hg,w120,takeRows,e]
   exact (hY' _ (by simp[head216,ccells,carrs,hw1,zeroW,e])).trans (by simp[e])
  ·simp at hb3 hb4
   simp[head216,ccells,carrs,c216b0,zeroW,hi,hiI,hg,w120,takeRows,hb3,hb4,e]
   exact (hY' _ (by simp[head216,ccells,carrs,hw1,zeroW,e])).trans (by simp[e])
 ·simp[head216,ccells,carrs,zeroW,e]
 ·unfold big;omega
 ·simp[e]
def outT(l:List T)(k:Nat):List T:=l.take k++l.drop (k+1)
theorem law232(l:List T)(k:Nat)(hk:k<l.length)(hl:l.length<=1000):F 232 [.sl .bor 1 (l.map rowT),.int .i64 k] []=some (.sl .own 1 ((outT l k).map rowT),[]):=by
 refine Zae fn232 rfl ?_
 have hw:IntKind.i64.wrap ((k:Int)+1)=((k+1:Nat):Int):=i64w (by omega) (by omega)
 have h1:(k:Int)<=l.length:=by omega
 have h2:((k+1:Nat):Int)<=l.length:=by omega
 have h3:k<=l.length:=by omega
 have h4:k+1<=l.length:=by omega
 have e1:min k l.length=k:=by omega
 have p1:rowsPlain ((List.map rowT l).take k)=true:=by rw[<- List.map_take];exact Zbc _
 have p2:rowsPlain ((List.map rowT l).drop (k+1))=true:=by rw[<- List.map_drop];exact Zbc _
 have b1:k*16<=140737488355328:=by omega
 have b2:k<=140737488355328:=by omega
 have b3:(k+(l.length-(k+1)))*16<=140737488355328:=by omega
 have b4:k+(l.length-(k+1))<=140737488355328:=by omega
 have t2:List.take (l.length-(k+1)) (List.drop (k+1) (List.map rowT l))=List.drop (k+1) (List.map rowT l):=Xae (by simp)
 simp only[show ((k+1:Nat):Int)=(k:Int)+1 from rfl]at *
 have t3:((k:Int)+1).toNat=k+1:=by omega
 have t4:(0:Int)<=(k:Int)+1:=by omega
 simp[c232,slBounds,hw,h1,h2,h3,h4,t2,t3,t4,takeRows,p1,p2,e1,b1,b2,b3,b4,outT]
 done
theorem law216(w:Wld)(mm:Md)(hw:w.small)(hf:w.flight.length<=1000):F 216 [.agg (w.c .bor mm)] []=some (.agg (w.c .own .own),[]):=law216c w mm mm hw hf
structure RunIs(r:Run)(c:Int):Prop where
 want:wantOk r.want=true
 state:1<=r.state/\r.state<=6
 left:0<=r.left/\r.left<=100
 rest:r.state=2->r.left=0
 falls:0<=r.falls/\r.falls<=1000
 til:0<=r.til/\r.til<=1000016
 free:r.want.hold=⟨#[]⟩->r.til=0
 lease:alive r=true->r.want.hold≠⟨#[]⟩->c+4<=r.til
theorem Zdm{r:Run}{c:Int}(hc:0<=c/\c<=1000000):leased r c=true↔(r.want.hold≠⟨#[]⟩->c+4<=r.til):=by
 have w:IntKind.i64.wrap (c+4)=c+4:=i64w (by omega) (by omega)
 simp only[leased,leasedB,w,Xas,Xj,Zac]
 constructor
 ·intro h hn
  rcases h with h|h
  ·exact absurd h hn
  ·exact h
 ·intro h
  by_cases q:r.want.hold=⟨#[]⟩
  ·exact .inl q
  ·exact .inr (h q)
theorem Zht{r:Run}{c:Int}(hc:0<=c/\c<=1000000):runOk r c=true↔RunIs r c:=by
 have hl:=Zdm (r:=r) hc
 constructor
 ·intro h
  simp only[runOk,Xc,inR,Xj]at h
  obtain⟨h1,h2,h3,h4,h5,h6,h7,h8⟩:=h
  refine⟨h1,h2,h3,fun e=>?_,h5,h6,fun e=>?_,fun e hn=>?_⟩
  ·simpa [e] using h4
  ·simpa [(Zac _ _).2 e] using h7
  ·simp only[e,Xbz,Xbk]at h8
   exact hl.1 h8 hn
 ·intro h
  simp only[runOk,Xc,inR,Xj]
  refine⟨h.want,h.state,h.left,?_,h.falls,h.til,?_,?_⟩
  ·by_cases e:r.state=2
   ·simp[e,h.rest e]
   ·simp[e]
  ·by_cases e:r.want.hold=⟨#[]⟩
   ·simp[h.free e]
   ·simp[Zad e]
  ·cases e:alive r
   ·rfl
   ·simp only[Xbz,Xbk]
    exact hl.2 (h.lease e)
theorem RunIs.wd{r:Run}{c c':Int}(h:RunIs r c)(hc:0<=c'/\c'<=1000000):RunIs (wd c' r) c':=by
 unfold YtgdfelbedghhnaaGreatDoor.wd
 split
 ·exact⟨h.want,by simp,by simp,fun _=>rfl,h.falls,h.til,h.free,fun e=>by simp[alive]at e⟩
 ·rename_i q
  refine⟨h.want,h.state,h.left,h.rest,h.falls,h.til,h.free,fun e=>?_⟩
  simp only[e,Xcd,Xv,Bool.not_eq_false]at q
  exact (Zdm hc).1 q
theorem Zb9{w:Want}(h:wantOk w=true):isName w.copy=true/\(w.hold=⟨#[]⟩\/isHold w.hold=true)/\(0<=w.pull/\w.pull<=100)/\(0<=w.start/\w.start<=100)/\(0<=w.dies/\w.dies<=100)/\(0<=w.grace/\w.grace<=100):=by
 simp only[wantOk,Xc,Xas,inR,Xj,Zac]at h
 obtain⟨⟨⟨⟨⟨⟨h1,h2⟩,h3⟩,h4⟩,h5⟩,h6⟩,h7⟩:=h
 exact⟨h1,h3,h4,h5,h6,h7⟩
theorem Zpn(f:Int):0<=leftOf f/\leftOf f<=100:=by
 unfold leftOf
 repeat' split
 all_goals omega
theorem Znz{f:Int}(h:0<=f/\f<=1000):0<=fallsUp f/\fallsUp f<=1000:=by
 unfold fallsUp
 split<;>omega
theorem RunIs.begin{r:Run}{c:Int}(h:RunIs r c)(hc:0<=c/\c<=1000000):RunIs (beginR r c) c:=by
 obtain⟨_,_,_,hs,_,_⟩:=Zb9 h.want
 unfold beginR
 split
 ·rename_i q
  exact⟨h.want,by simp,hs,fun e=>by simp at e,h.falls,h.til,h.free,fun _=>(Zdm hc).1 q⟩
 ·exact⟨h.want,by simp,by simp,fun _=>rfl,h.falls,h.til,h.free,fun e=>by simp[alive]at e⟩
theorem RunIs.live{r r':Run}{w:Want}{b:Bool}{c:Int}(h:RunIs r c)(hc:0<=c/\c<=1000000)(e:mateLive r w b c=some r'):RunIs r' c/\r'.want=r.want:=by
 obtain⟨_,_,_,_,hd,hg⟩:=Zb9 h.want
 unfold mateLive at e
 split at e
 ·split at e
  ·rename_i ha
   rw[<- Xf e]
   exact⟨⟨h.want,by simp,hg,fun e=>by simp at e,h.falls,h.til,h.free,fun _=>h.lease ha⟩,rfl⟩
  ·cases e
 split at e
 ·rename_i q
  rw[<- Xf e]
  have:=h.left
  exact⟨⟨h.want,h.state,by simp only;omega,fun e=>absurd e q.1,h.falls,h.til,h.free,fun e=>h.lease e⟩,rfl⟩
 split at e
 ·rename_i q
  rw[<- Xf e]
  exact⟨⟨h.want,by simp,hd,fun e=>by simp at e,h.falls,h.til,h.free,fun _=>h.lease (by simp[alive,aliveS,q])⟩,rfl⟩
 split at e
 ·split at e
  ·rw[<- Xf e]
   exact⟨⟨h.want,by simp[dies],Zpn _,fun e=>by simp[dies]at e,Znz h.falls,h.til,h.free,fun e=>by simp[dies,alive,aliveS]at e⟩,rfl⟩
  ·rw[<- Xf e]
   exact⟨h,rfl⟩
 split at e
 ·cases e
 split at e
 ·rw[<- Xf e]
  exact⟨h.begin hc,by unfold beginR;split<;>rfl⟩
 ·rw[<- Xf e]
  exact⟨h,rfl⟩
structure AskIs(a:Ask)(c:Int):Prop where
 hold:isHold a.hold=true
 copy:isName a.copy=true
 first:0<=a.first
 order:a.first<=a.at_
 at_:a.at_<=c
theorem Zj8{a:Ask}{c:Int}:askOk c a=true↔AskIs a c:=by
 simp only[askOk,Xc,Xj]
 exact⟨fun h=>⟨h.1,h.2.1,h.2.2.1,h.2.2.2.1,h.2.2.2.2⟩,fun h=>⟨h.hold,h.copy,h.first,h.order,h.at_⟩⟩
structure AsksIs(l:List Ask)(c:Int):Prop where
 len:l.length<=40
 all:∀ a∈l,AskIs a c
 asc:Asc Ask.k l
theorem Zii{l:List Ask}{c:Int}:asksOk l c=true↔AsksIs l c:=by
 rw[Ze7]
 exact⟨fun h=>⟨h.1,fun a ha=>Zj8.1 (h.2.1 a ha),h.2.2⟩,fun h=>⟨h.len,fun a ha=>Zj8.2 (h.all a ha),h.asc⟩⟩
theorem AsksIs.later{l:List Ask}{c c':Int}(h:AsksIs l c)(hc:c<=c'):AsksIs l c' :=
 ⟨h.len,fun a ha=>⟨(h.all a ha).hold,(h.all a ha).copy,(h.all a ha).first,(h.all a ha).order,Int.le_trans (h.all a ha).at_ hc⟩,h.asc⟩
theorem AsksIs.drop{l:List Ask}{c:Int}(h:AsksIs l c)(k:T):AsksIs (dropHold l k) c :=
 ⟨Xac (Xcf _ _) h.len,fun a ha=>h.all a (Xb9.1 ha).1,h.asc.filter _⟩
theorem AsksIs.put{l:List Ask}{c:Int}(h:AsksIs l c){a:Ask}(ha:AskIs a c)(hl:l.length<40):AsksIs (putBy Ask.k a l) c :=
 ⟨by have:=Za7 Ask.k a l;omega,fun b hb=>by
  rcases Zay Ask.k hb with rfl|hb
  ·exact ha
  ·exact h.all b hb,Zar Ask.k h.asc⟩
def ApartIs(x y:List Ask):Prop:=∀ a∈x,∀ b∈y,a.hold≠b.hold
theorem Zos{x y:List Ask}:apartGo y x=true↔ApartIs x y:=by
 unfold apartGo ApartIs
 rw[Xao]
 constructor
 ·intro h a ha b hb e
  have:=h a ha
  simp only[Xj]at this
  rcases Zbg y a.hold with ⟨_,hno⟩|⟨k,hk,e1,_⟩
  ·have:=hno b hb
   rw[(Zac _ _).2 e.symm]at this
   cases this
  ·omega
 ·intro h a ha
  simp only[Xj]
  rcases Zbg y a.hold with ⟨e1,_⟩|⟨k,hk,e1,e2,_⟩
  ·omega
  ·exact absurd ((Zac _ _).1 e2).symm (h a ha _ (Xbx hk))
structure MateIs(m:Mate):Prop where
 name:isName m.name=true
 clock:0<=m.clock/\m.clock<=1000000
 seen:0<=m.seen/\m.seen<=1000000
 wants:wantsOk m.wants=true
 known:m.known=true\/m.wants=[]
 runsN:m.runs.length<=20
 runs:∀ r∈m.runs,RunIs r m.clock
 asc:Asc Run.k m.runs
 asks:AsksIs m.asks m.clock
 gives:AsksIs m.gives m.clock
 apart:ApartIs m.asks m.gives
 down:m.up=true\/(m.known=false/\m.asks=[]/\m.gives=[]/\m.seen=0/\∀ r∈m.runs,alive r=true\/r.want.hold≠⟨#[]⟩)
theorem Zat{m:Mate}:mateValid m=true↔MateIs m:=by
 rw[Za4,Zbt,Zdr,Zii,Zii,Zos]
 simp only[mateDown,downRuns,Xc,Xv,Xcr,Xan,Xao,Xas,inR,Xj]
 constructor
 ·rintro⟨⟨h1,h2,h3,h4,h5,⟨r1,r2,r3⟩,h7,h8⟩,h9,h10⟩
  refine⟨h1,h2,h3,h4,h5,r1,fun r hr=>(Zht h2).1 (r2 r hr),r3,h7,h8,h9,?_⟩
  rcases h10 with h|⟨a1,⟨a2,a3⟩,a4,a5⟩
  ·exact .inl h
  ·refine .inr ⟨a1,a2,a3,a4,fun r hr=>?_⟩
   rcases a5 r hr with h|h
   ·exact .inl h
   ·refine .inr fun e=>?_
    rw[(Zac _ _).2 e]at h
    cases h
 ·intro h
  refine⟨⟨h.name,h.clock,h.seen,h.wants,h.known,⟨h.runsN,fun r hr=>(Zht h.clock).2 (h.runs r hr),h.asc⟩,h.asks,h.gives⟩,h.apart,?_⟩
  rcases h.down with q|⟨a1,a2,a3,a4,a5⟩
  ·exact .inl q
  ·refine .inr ⟨a1,⟨a2,a3⟩,a4,fun r hr=>?_⟩
   rcases a5 r hr with q|q
   ·exact .inl q
   ·exact .inr (Zad q)
theorem Zp8{m:Mate}{rate:Int}(h:MateIs m)(h0:0<=rate)(hc:m.clock+rate<=1000000):MateIs (tickOn m rate):=by
 have hk:=h.clock
 have hc':0<=m.clock+rate/\m.clock+rate<=1000000:=⟨by omega,hc⟩
 refine⟨h.name,hc',h.seen,h.wants,h.known,by simpa [tickOn] using h.runsN,fun r hr=>?_,Zrp h.asc,h.asks.later (by simp only[tickOn];omega),h.gives.later (by simp only[tickOn];omega),h.apart,?_⟩
 ·obtain⟨r0,k1,rfl⟩:=Xap.1 hr
  exact (h.runs r0 k1).wd hc'
 ·rcases h.down with q|⟨a1,a2,a3,a4,a5⟩
  ·exact .inl q
  ·refine .inr ⟨a1,a2,a3,a4,fun r hr=>?_⟩
   obtain⟨r0,k1,rfl⟩:=Xap.1 hr
   rw[Zmr]
   by_cases q:r0.want.hold=⟨#[]⟩
   ·refine .inl ?_
    have ha:=(a5 r0 k1).resolve_right (fun n=>n q)
    have hl:=(Zdm (r:=r0) hc').2 fun n=>absurd q n
    simp[wd,ha,hl]
   ·exact .inr q
structure LvIs(s:LV)(c:Int):Prop where
 runs:∀ r∈s.runs,RunIs r c
 asks:AsksIs s.asks c
 gives:AsksIs s.gives c
 apart:ApartIs s.asks s.gives
theorem Zpi{h:T}{s:LV}{c:Int}(hs:LvIs s c):LvIs (giveUp h s) c:=by
 unfold giveUp
 split
 ·exact hs
 ·split
  ·exact hs
  ·rename_i a e
   have ha:=List.mem_of_find?_eq_some e
   have hh:a.hold=h:=(Zac _ _).1 (by simpa using List.find?_some e)
   refine⟨hs.runs,hs.asks.drop h,?_,?_⟩
   ·simp only
    split
    ·exact hs.gives.put (hs.asks.all a ha) (by assumption)
    ·exact hs.gives
   ·intro x hx y hy
    obtain⟨x1,x2⟩:=Xb9.1 hx
    simp only at hy
    split at hy
    ·rcases Zay Ask.k hy with rfl|hy
     ·intro q
      rw[(Zac _ _).2 (q.trans hh)]at x2
      cases x2
     ·exact hs.apart x x1 y hy
    ·exact hs.apart x x1 y hy
theorem Zm7{c:Int}(hc:0<=c/\c<=1000000)(ws:List Want):∀ (rs:List Run) (s:LV),(∀ r∈rs,RunIs r c)->LvIs s c->LvIs (rs.foldl (liveStep c ws) s) c
 | [],_,_,h=>h
 | r::rs,s,hr,h=>by
  refine Zm7 hc ws rs _ (fun r hm=>hr r (Xh _ hm)) ?_
  unfold liveStep
  split
  ·rename_i n e
   refine⟨fun x hx=>?_,h.asks,h.gives,h.apart⟩
   rcases Xg.1 hx with hx|hx
   ·exact h.runs x hx
   ·rw[Xn.1 hx]
    exact ((hr r Xi).live hc e).1
  ·exact Zpi h
theorem Zpr{w:Want}{c:Int}(h:wantOk w=true):RunIs (newRun w) c:=by
 obtain⟨_,_,hp,_⟩:=Zb9 h
 exact⟨h,by simp[newRun],hp,fun e=>by simp[newRun]at e,by simp[newRun],by simp[newRun],fun _=>rfl,fun e=>by simp[newRun,alive,aliveS]at e⟩
theorem Zgp{c:Int}:∀ (ws:List Want) (rs:List Run),(∀ w∈ws,wantOk w=true)->(∀ r∈rs,RunIs r c)->∀ r∈ws.foldl addRun rs,RunIs r c
 | [],_,_,h=>h
 | w::ws,rs,hw,h=>by
  refine Zgp ws _ (fun x hx=>hw x (Xh _ hx)) fun r hr=>?_
  unfold addRun at hr
  split at hr
  ·exact h r hr
  ·rcases Zay Run.k hr with rfl|hr
   ·exact Zpr (hw w Xi)
   ·exact h r hr
theorem Zpp{m:Mate}(h:MateIs m)(hu:m.up=true):MateIs (mLives m):=by
 have h0:=Zm7 h.clock m.wants m.runs ⟨[],m.asks,m.gives⟩ h.runs ⟨fun r hr=>by simp at hr,h.asks,h.gives,h.apart⟩
 have h1:=Zd8 m.clock m.wants m.runs ⟨[],m.asks,m.gives⟩
 have r:=h.runsN
 obtain⟨a1,a2⟩:=Ze4 m.wants (livesOf m).runs (by unfold livesOf;simp only[Xb7]at h1;omega) (Zc1 h.asc)
 have hw:=((Zaq _).1 h.wants).2.1
 exact⟨h.name,h.clock,h.seen,h.wants,h.known,a1,Zgp _ _ hw h0.runs,a2,h0.asks,h0.gives,h0.apart,.inl hu⟩
theorem Zng{n:T}{c:Int}{r:Run}(hn:isName n=true)(hc:0<=c/\c<=1000000)(h1:isHold r.want.hold=true)(h2:isName r.want.copy=true):parcelForm (asked n c r)≠⟨#[]⟩:=by
 intro e
 have:=Xct ByteArray.size e
 have z0:(⟨#[]⟩:T).size=0:=rfl
 have z1:(⟨#[10]⟩:T).size=1:=rfl
 simp[parcelForm,formSw,asked,hn,h1,h2,inR,hc.1,hc.2,word,Zap]at this
 omega
theorem Zow{n:T}{c:Int}{a:Ask}(hn:isName n=true)(hc:0<=c/\c<=1000000)(h:AskIs a c):parcelForm (backP n a)≠⟨#[]⟩:=by
 intro e
 have:=Xct ByteArray.size e
 have z0:(⟨#[]⟩:T).size=0:=rfl
 have z1:(⟨#[10]⟩:T).size=1:=rfl
 have h1:=h.first
 have h2:=h.order
 have h3:=h.at_
 have h4:0<=a.at_:=by omega
 have h5:a.at_<=1000000:=by omega
 simp[parcelForm,formSw,backP,hn,h.hold,h.copy,inR,h4,h5,word,Zap]at this
 omega
theorem Zpk{m:Mate}(hn:isName m.name=true)(hs:0<=m.seen/\m.seen<=1000000):parcelForm (hereP m)≠⟨#[]⟩:=by
 intro e
 have:=Xct ByteArray.size e
 have z0:(⟨#[]⟩:T).size=0:=rfl
 have z1:(⟨#[10]⟩:T).size=1:=rfl
 simp[parcelForm,formSw,hereP,hn,noHold,inR,hs.1,hs.2,Zap,(Zac (⟨#[]⟩:T) _).2 rfl]at this
 omega
theorem Zlk{ws:List Want}{gs:List Ask}{r:Run}(h:asksHold ws gs r=true)(hw:wantOk r.want=true):isHold r.want.hold=true/\isName r.want.copy=true/\∀ b∈gs,b.hold≠r.want.hold:=by
 simp only[asksHold,Xc,Xv,Option.isNone_iff_eq_none]at h
 obtain⟨_,h2,h3⟩:=h
 obtain⟨w1,w2,_⟩:=Zb9 hw
 refine⟨w2.resolve_left fun e=>?_,w1,fun b hb e=>?_⟩
 ·rw[(Zac _ _).2 e]at h2;cases h2
 ·have:=Xbw.1 h3 b hb
  exact this ((Zac _ _).2 e)
theorem Zlx{c:Int}{r:Run}{l:List Ask}{a:Ask}(hc:0<=c/\c<=1000000)(e:freshAsk c r l=some a)(hl:AsksIs l c)(h1:isHold r.want.hold=true)(h2:isName r.want.copy=true):AskIs a c/\a.hold=r.want.hold:=by
 unfold freshAsk at e
 split at e
 ·rename_i b eb
  have hb:=hl.all b (List.mem_of_find?_eq_some eb)
  split at e
  ·split at e
   ·cases e
   ·rw[<- Xf e]
    exact⟨⟨h1,h2,hb.first,Int.le_trans hb.order hb.at_,Int.le_refl _⟩,rfl⟩
  ·rw[<- Xf e]
   exact⟨⟨h1,h2,hc.1,Int.le_refl _,Int.le_refl _⟩,rfl⟩
 ·rw[<- Xf e]
  exact⟨⟨h1,h2,hc.1,Int.le_refl _,Int.le_refl _⟩,rfl⟩
theorem Zov{m:Mate}{S:List T}(h:MateIs m)(hS:S.length<=12):∀ (rs:List Run) (s:List Ask×List Parcel),(∀ r∈rs,r∈m.runs)->AskFew S m.runs s.1->AsksIs s.1 m.clock->ApartIs s.1 m.gives->(∀ p∈s.2,parcelForm p≠⟨#[]⟩) ->
  AsksIs (rs.foldl (askStep m) s).1 m.clock/\ApartIs (rs.foldl (askStep m) s).1 m.gives/\∀ p∈(rs.foldl (askStep m) s).2,parcelForm p≠⟨#[]⟩
 | [],_,_,_,h1,h2,h3=>⟨h1,h2,h3⟩
 | r::rs,s,hr,hl,h1,h2,h3=>by
  have hrm:=hr r Xi
  have hr0:=h.runs r hrm
  have hn:=few h1.asc hl hS h.runsN
  have hk:AskFew S m.runs (askStep m s r).1/\AsksIs (askStep m s r).1 m.clock/\ApartIs (askStep m s r).1 m.gives/\∀ p∈(askStep m s r).2,parcelForm p≠⟨#[]⟩:=by
   unfold askStep
   split
   ·rename_i q
    obtain⟨q1,q2,q3⟩:=Zlk q hr0.want
    split
    ·rename_i a e
     obtain⟨a1,a2⟩:=Zlx h.clock e h1 q1 q2
     refine⟨fun x hx=>?_,h1.put a1 (by omega),fun x hx y hy=>?_,fun p hp=>?_⟩
     ·rcases Zay Ask.k hx with rfl|hx
      ·exact .inr ⟨r,hrm,a2.symm⟩
      ·exact hl x hx
     ·rcases Zay Ask.k hx with rfl|hx
      ·rw[a2];exact (q3 y hy).symm
      ·exact h2 x hx y hy
     ·rcases Xg.1 hp with hp|hp
      ·exact h3 p hp
      ·rw[Xn.1 hp]
       exact Zng h.name h.clock q1 q2
    ·exact⟨hl,h1,h2,h3⟩
   ·exact⟨hl,h1,h2,h3⟩
  exact Zov h hS rs _ (fun r hm=>hr r (Xh _ hm)) hk.1 hk.2.1 hk.2.2.1 hk.2.2.2
theorem Zrc{m:Mate}(h:MateIs m)(hu:m.up=true)(ha:HoldsM m):MateIs (mAsks m)/\∀ p∈(asksOf m).2,parcelForm p≠⟨#[]⟩:=by
 obtain⟨S,hn,ha⟩:=ha
 obtain⟨a1,a2,a3⟩:=Zov h hn m.runs (m.asks,[]) (fun _ h=>h) ha h.asks h.apart (fun p hp=>by simp at hp)
 exact⟨⟨h.name,h.clock,h.seen,h.wants,h.known,h.runsN,h.runs,h.asc,a1,h.gives,a2,.inl hu⟩,a3⟩
theorem Zss{m:Mate}{rate:Int}(h:MateIs m)(ha:HoldsM m) :
  MateIs (mateTick m rate).1/\m.clock<=(mateTick m rate).1.clock/\∀ p∈(mateTick m rate).2,parcelForm p≠⟨#[]⟩:=by
 have hv:=Zat.2 h
 have hk:=h.clock
 unfold mateTick
 rw[Xr hv]
 split
 case isFalse=>exact⟨h,Int.le_refl _,fun p hp=>by simp at hp⟩
 rename_i hr
 simp only[inR,Xc,Xj]at hr
 split
 ·have hf:=Zat.1 (Zir true hv)
  have ef:mateFall m true={ Mate.zero with name:=m.name,clock:=m.clock,runs:=m.runs.filterMap (fallRun true) }:=Xr hv
  rw[ef]at hf ⊢
  have dead:∀ r∈m.runs.filterMap (fallRun true),alive r=false:=fun r hr=>by
   obtain⟨r0,k1,k2⟩:=List.mem_filterMap.1 hr
   simpa using (Zfg ((Zht hk).2 (h.runs r0 k1)) k2).2.2.2.1
  refine⟨⟨hf.name,by simp,hf.seen,hf.wants,hf.known,hf.runsN,fun r hr=>?_,hf.asc,?_,?_,hf.apart,hf.down⟩,hk.2,fun p hp=>by simp at hp⟩
  ·have q:=hf.runs r hr
   exact⟨q.want,q.state,q.left,q.rest,q.falls,q.til,q.free,fun e=>by rw[dead r hr]at e;cases e⟩
  ·exact hf.asks.later hk.2
  ·exact hf.gives.later hk.2
 rename_i hc
 have h1:=Zp8 h (rate:=rate) (by omega) (by omega)
 split
 case isFalse=>exact⟨h1,by simp only[tickOn];omega,fun p hp=>by simp at hp⟩
 rename_i hu
 have key:∀ x:Mate,MateIs x->x.up=true->HoldsM x->x.clock=m.clock+rate->MateIs (mAsks x)/\m.clock<=(mAsks x).clock/\∀ p∈tickOut x,parcelForm p≠⟨#[]⟩:=by
  intro x hx hxu hxa hxc
  obtain⟨b1,b2⟩:=Zrc hx hxu hxa
  refine⟨b1,by simp only[mAsks];omega,fun p hp=>?_⟩
  simp only[tickOut,Xg,Xn,Xap]at hp
  rcases hp with (hp|⟨a,h3,rfl⟩)|rfl
  ·exact b2 p hp
  ·exact Zow hx.name hx.clock (hx.gives.all a h3)
  ·exact Zpk hx.name hx.seen
 have ft:=(Zh4 hv).tick (rate:=rate) ha
 unfold tickRuns
 split
 ·exact key _ (Zpp h1 hu) hu (Zdn ft).holds rfl
 ·exact key _ h1 hu ft.holds rfl
theorem Zsq{m:Mate}{p:Parcel}(h:MateIs m):MateIs (mateTake m p):=by
 have hv:=Zat.2 h
 have hk:=h.clock
 unfold mateTake
 rw[Xr hv]
 split
 case isFalse=>exact h
 rename_i hu
 have hu:m.up=true:=(Xcg.1 hu).1
 unfold takeKind
 split
 ·unfold takeTold
  split
  ·rename_i q
   simp only[Xc,inR,Xj]at q
   exact⟨h.name,h.clock,⟨by have:=q.2.2.1;simp only;omega,q.2.2.2⟩,q.2.1,.inl rfl,h.runsN,h.runs,h.asc,h.asks,h.gives,h.apart,.inl hu⟩
  ·exact h
 split
 ·unfold takeGiven
  split
  ·rename_i a e
   have ha:=h.asks.all a (List.mem_of_find?_eq_some e)
   have hh:a.hold=p.hold:=(Zac _ _).1 (by simpa using List.find?_some e)
   split
   ·rename_i q
    simp only[askFits,Xc,Xj]at q
    have b1:=ha.first
    have b2:=ha.at_
    have w:IntKind.i64.wrap (p.at_+16)=p.at_+16:=i64w (by omega) (by omega)
    have hg:∀ r:Run,RunIs r m.clock->RunIs (giveRun p r) m.clock:=fun r hr=>by
     unfold giveRun
     rw[w]
     split
     ·rename_i g
      simp only[Xc,Xj,Zac]at g
      refine⟨hr.want,hr.state,hr.left,hr.rest,hr.falls,⟨by simp only;omega,by simp only;omega⟩,fun e=>?_,fun e hn=>?_⟩
      ·have h1:=ha.hold
       simp only at e
       rw[hh,<- g.1,e]at h1
       simp[isHold,Zn8]at h1
      ·have:=hr.lease e hn
       simp only;omega
     ·exact hr
    have hw:∀ r,Run.k (giveRun p r)=Run.k r:=fun r=>by unfold giveRun Run.k;split<;>rfl
    refine⟨h.name,h.clock,h.seen,h.wants,h.known,by simpa using h.runsN,fun r hr=>?_,?_,h.asks,h.gives,h.apart,.inl hu⟩
    ·obtain⟨r0,k1,rfl⟩:=Xap.1 hr
     exact hg r0 (h.runs r0 k1)
    ·have hasc:=h.asc
     rw[Zgr]at hasc ⊢
     rw[List.map_map]
     have e:Run.k ∘ giveRun p=Run.k:=funext hw
     rw[e];exact hasc
   ·exact h
  ·exact h
 split
 ·unfold takeBack'
  split
  ·split
   ·exact⟨h.name,h.clock,h.seen,h.wants,h.known,h.runsN,h.runs,h.asc,h.asks,h.gives.drop _,fun a ha b hb=>h.apart a ha b (Xb9.1 hb).1,.inl hu⟩
   ·exact h
  ·exact h
 ·exact h
theorem Zoq{m:Mate}(h:mateValid m=false)(rate:Int):mateTick m rate=(.zero,[]):=by simp[mateTick,h]
theorem Zja{m:Mate}{rate:Int}(hsm:m.small)(h:HoldsM m):(mateTick m rate).1.small/\(mateTick m rate).2.length<=1000/\∀ p∈(mateTick m rate).2,p.small:=by
 have zero_small:Mate.zero.small:=⟨by simp[Mate.zero],by simp[Mate.zero],by simp[Mate.zero],by simp[Mate.zero]⟩
 cases q:mateValid m
 ·rw[Zoq q]
  exact⟨zero_small,by simp,fun p hp=>by simp at hp⟩
 have hv:=Zh4 q
 have key:∀ x:Mate,Fit x->(mAsks x).small/\(tickOut x).length<=1000/\∀ p∈tickOut x,p.small:=by
  intro x hx
  obtain⟨h1,h2,h3⟩:=Ze6 x x.runs (x.asks,[])
  have r:=hx.runs
  have a:=hx.nasks
  have g:=hx.gives
  have s:=hx.small
  simp only[Xb7]at h1 h2
  refine⟨⟨s.wants,s.runs,by show (asksOf x).1.length<=_;unfold asksOf;omega,s.gives⟩,?_,fun p hp=>?_⟩
  ·simp only[tickOut,Xs,Xb1,Xbm]
   unfold asksOf
   omega
  ·simp only[tickOut,Xg,Xn,Xap]at hp
   rcases hp with (hp|⟨b,_,rfl⟩)|rfl
   ·exact⟨by rw[h3 (fun p hp=>by simp at hp) p hp];simp⟩
   ·exact⟨by simp[backP]⟩
   ·exact⟨by simp[hereP]⟩
 have ft:Fit (tickOn m rate):=hv.tick h
 unfold mateTick
 rw[Xr q]
 split
 case isFalse=>exact⟨hsm,by simp,fun p hp=>by simp at hp⟩
 split
 ·have hf:(mateFall m true)={ Mate.zero with name:=m.name,clock:=m.clock,runs:=m.runs.filterMap (fallRun true) }:=Xr q
  rw[hf]
  have:=List.length_filterMap_le (fallRun true) m.runs
  have:=hsm.runs
  exact⟨⟨by simp[Mate.zero],by simp only;omega,by simp[Mate.zero],by simp[Mate.zero]⟩,by simp,fun p hp=>by simp at hp⟩
 split
 case isFalse=>exact⟨ft.small,by simp,fun p hp=>by simp at hp⟩
 unfold tickRuns
 split
 ·exact key _ (Zdn ft)
 ·exact key _ ft
def rateOf(rates:List Int)(i:Nat):Int:=match rates[i]? with
 | some r=>if inR r 1 4 then r else 2
 | none=>2
theorem Zk0(rates:List Int)(i:Nat):1<=rateOf rates i/\rateOf rates i<=4:=by
 unfold rateOf
 split
 ·split
  ·rename_i h
   simpa [inR] using h
  ·omega
 ·omega
def tickMates(rates:List Int):Nat->List Mate->List T->List Mate×List T
 | _,[],fl=>([],fl)
 | i,m::ms,fl=>((mateTick m (rateOf rates i)).1::(tickMates rates (i+1) ms ((mateTick m (rateOf rates i)).2.foldl sendF fl)).1,(tickMates rates (i+1) ms ((mateTick m (rateOf rates i)).2.foldl sendF fl)).2)
def tickW(w:Wld)(rates:List Int):Wld :=
 ⟨(landTick w.land).1,(tickMates rates 0 w.mates ((landTick w.land).2.foldl sendF w.flight)).1,(tickMates rates 0 w.mates ((landTick w.land).2.foldl sendF w.flight)).2⟩
structure Wld.fit(w:Wld):Prop where
 land:w.land.small
 mates:w.mates.length<=1000
 each:∀ m∈w.mates,Ready m
 flight:w.flight.length<=1000
def rowI(n:Int):List AV:=[.int .i64 n]
def head229(l0:Land)(w:Wld)(rates:List Int)(i:Nat):St :=
 { hd [(1,.sl .bor 1 (rates.map rowI)),(2,.ptr 4 0 0),(4,.ptr 5 0 0),(7,.int .i64 i)] [] 4 with
  heap:=upd (upd (upd (upd (upd (upd (upd (upd (upd (upd (fun _=>none) 9 (some (.arr 1 (w.flight.map rowT)))) 8 (some (.arr 9 (w.mates.map (Mate.c .own))))) 7 (some (.arr 3 (w.land.places.map (Place.c .own))))) 6 (some (.arr 5 (w.land.grants.map Grant.c)))) 5 (some (.box zeroW))) 4 (some (.box (w.refs 6)))) 3 none) 2 none) 1 (some (.arr 3 (l0.places.map (Place.c .own))))) 0 (some (.arr 5 (l0.grants.map Grant.c)))
  next:=10 }
def wgone2(l0:Land)(w:Wld):AV×List (Option AO):=(.agg (w.c .own .own),[some (.arr 5 (l0.grants.map Grant.c)),some (.arr 3 (l0.places.map (Place.c .own))),none,none])
theorem Zf4(l:Land)(h:l.small):(landTick l).1.small/\(landTick l).2.length<=1048576/\∀ p∈(landTick l).2,p.small:=by
 unfold landTick
 split
 ·split
  ·exact⟨h,by simp,fun p hp=>by simp at hp⟩
  ·refine⟨⟨h.1,h.2,h.3⟩,by simpa using h.places,fun p hp=>?_⟩
   obtain⟨x,hx,rfl⟩:=Xap.1 hp
   exact⟨(h.3 x hx).wants⟩
 ·exact⟨⟨by simp[Land.zero],by simp[Land.zero],by simp[Land.zero]⟩,by simp,fun p hp=>by simp at hp⟩
theorem law229(w:Wld)(rates:List Int)(hw:w.fit):F 229 [.agg (w.refs 0),.sl .bor 1 (rates.map rowI)] w.arrs=some (wgone2 w.land (tickW w rates)):=by
 refine Zae fn229 rfl ?_
 have w44:=law44 w.land .own hw.land
 obtain⟨k1,k2,k3⟩:=Zf4 w.land hw.land
 have w233:=law233 { w with land:=(landTick w.land).1 } (landTick w.land).2 .own k2 k3 hw.flight
 have hms:=hw.each
 have hml:=hw.mates
 have hfl:=hw.flight
 unfold tickW
 generalize landTick w.land=R at *
 obtain⟨l,ps⟩:=R
 obtain⟨l0,ms,fl⟩:=w
 simp only at w44 k1 k2 k3 w233 hms hml hfl ⊢
 have e:(fun s:T=>[AV.str s])=rowT:=rfl
 have hsl:=Zdg ps fl
 simp only[Land.c,Parcel.c,Wld.refs,Wld.arrs,wgoneV,sendW]at w44 w233
 generalize ps.foldl sendF fl=fl1 at *
 simp[c229,Wld.refs,Wld.arrs,w44,w233,AO.isArr,e]
 refine (Zaz (σ:=Nat×List Mate×List T) (fun z=>head229 l0 ⟨l,z.2.1,z.2.2⟩ rates z.1) (fun z=>z.1<=z.2.1.length/\z.2.1.length=ms.length/\z.2.2.length<=1000/\∀ x∈z.2.1.drop z.1,Ready x) (fun z=>z.2.1.length-z.1) (fun z=>wgone2 l0 ⟨l,z.2.1.take z.1++(tickMates rates z.1 (z.2.1.drop z.1) z.2.2).1,(tickMates rates z.1 (z.2.1.drop z.1) z.2.2).2⟩) (fun z Y hinv hY=>?_) (0,ms,fl1) ?_ ?_ ?_).trans ?_
 ·obtain⟨i,xs,gl⟩:=z
  obtain⟨g1,g2,g3,g4⟩:=hinv
  simp only at g1 g2 g3 g4 hY ⊢
  by_cases hi:i<xs.length
  ·have hiI:(i:Int)<xs.length:=by omega
   have hw1:IntKind.i64.wrap ((i:Int)+1)=(i:Int)+1:=i64w (by omega) (by omega)
   obtain⟨m,hg⟩:∃ m,xs[i]=m:=⟨_,rfl⟩
   have hd:xs.drop i=m::xs.drop (i+1):=by rw[Xah hi,hg]
   have hm:Ready m:=g4 m (by rw[hd];exact Xi)
   obtain⟨r1,r2⟩:=Zk0 rates i
   have w234:=law234 m (rateOf rates i) hm.small hm.holds ⟨by omega,by omega⟩
   obtain⟨x1,x2,x3⟩:=Zja (rate:=rateOf rates i) hm.small hm.holds
   have w233:=law233 ⟨l,xs.set i (mateTick m (rateOf rates i)).1,gl⟩ (mateTick m (rateOf rates i)).2 .own (by omega) x3 g3
   have hsl2:=Zdg (mateTick m (rateOf rates i)).2 gl
   rw[hd]
   simp only[tickMates]
   have hro:rateOf rates i=match rates[i]? with
    | some r=>if inR r 1 4 then r else 2
    | none=>2:=rfl
   generalize rateOf rates i=ra at *
   generalize mateTick m ra=R at *
   obtain⟨m',ps'⟩:=R
   simp only[Mate.c,Parcel.c,Wld.refs,Wld.arrs,wgoneV,sendW]at w234 w233 hsl2 ⊢
   generalize ps'.foldl sendF gl=gl' at *
   have hnext:∀ st,st.norm [1,2,4,7]=head229 l0 ⟨l,xs.set i m',gl'⟩ rates (i+1)->fin [.cell 4 5 true] 4 (Y st)=some (wgone2 l0 ⟨l,xs.take i++m'::(tickMates rates (i+1) (xs.drop (i+1)) gl').1,(tickMates rates (i+1) (xs.drop (i+1)) gl').2⟩):=fun st hn=>by
    have e1:(xs.set i m').drop (i+1)=xs.drop (i+1):=by rw[List.drop_set,Xr (by omega)]
    have e2:(xs.set i m').take (i+1)=xs.take i++[m']:=by
     rw[Xax,List.take_set,List.set_eq_of_length_le (by simp;omega),List.getElem?_set_self hi]
     rfl
    have h:=hY (i+1,xs.set i m',gl') st ⟨by simp;omega,by simpa using g2,by simp only;omega,fun x hx=>g4 x (by
     simp only at hx
     rw[e1]at hx
     rw[hd];exact Xh _ hx)⟩ (by simp;omega) hn
    simp only[e1,e2,Xa7,List.singleton_append]at h
    exact h
   simp only[Xa3,Mate.c]at w233
   cases hri:rates[i]? with
   | none =>
    have hge:rates.length<=i:=Xbr.1 hri
    have hgeI:¬ (i:Int)<rates.length:=by omega
    rw[hri]at hro
    simp only at hro
    subst hro
    simp[head229,Wld.refs,c229b0,hi,hiI,hg,hgeI,w234,w233,AO.isArr,zeroW,e]
    refine hnext _ ?_
    simp[head229,Wld.refs,hw1,zeroW,Xa3,List.range,List.range.loop]
   | some r =>
    obtain⟨hlt,hgr⟩:=Xa.1 hri
    have hltI:(i:Int)<rates.length:=by omega
    rw[hri]at hro
    simp only at hro
    cases hin:inR r 1 4
    ·rw[hin]at hro
     simp only[Xq,Xaj]at hro
     subst hro
     simp[head229,Wld.refs,c229b0,hi,hiI,hg,hlt,hltI,hgr,hin,w234,w233,AO.isArr,zeroW,e,rowI]
     refine hnext _ ?_
     simp[head229,Wld.refs,hw1,zeroW,Xa3,List.range,List.range.loop,rowI]
    ·rw[hin]at hro
     simp only[Xag]at hro
     subst hro
     simp[head229,Wld.refs,c229b0,hi,hiI,hg,hlt,hltI,hgr,hin,w234,w233,AO.isArr,zeroW,e,rowI]
     refine hnext _ ?_
     simp[head229,Wld.refs,hw1,zeroW,Xa3,List.range,List.range.loop,rowI]
  ·obtain rfl:i=xs.length:=by omega
   simp[head229,Wld.refs,c229b0,zeroW,wgone2,tickMates,e,List.range,List.range.loop]
 ·simp[head229,Wld.refs,List.range,List.range.loop,zeroW]
 ·exact⟨by simp,rfl,by simp only;omega,fun x hx=>hms x (by simpa using hx)⟩
 ·unfold big;simp only;omega
 ·simp
def eraseG(h:T):List Grant->List Grant
 | []=>[]
 | g::r=>if sEq g.hold h then r else g::eraseG h r
theorem Zgz{h:T}{g:Grant}:∀ {gs:List Grant} {j:Nat},Asc Grant.k gs->gs[j]?=some g->g.hold=h->eraseG h gs=gs.take j++gs.drop (j+1)
 | [],j,_,hj,_=>by simp at hj
 | z::gs,j,ha,hj,he=>by
  have h1:=Xad.1 ha
  cases j with
  | zero =>
   simp at hj
   subst hj
   simp[eraseG,he]
  | succ j =>
   have hg:gs[j]?=some g:=by simpa using hj
   have hlt:=h1.1 g (Xe hg)
   unfold Grant.k at hlt
   rw[he]at hlt
   have hne:sEq z.hold h=false:=by
    cases q:sEq z.hold h with
    | false=>rfl
    | true=>rw[(Zac _ _).1 q,Zao]at hlt;cases hlt
   simp[eraseG,hne,Zgz h1.2 hg he]
def gotBack(p:Parcel):Parcel:=⟨5,p.berth,0,[],p.hold,⟨#[]⟩,p.at_⟩
def givenP(p:Parcel):Parcel:=⟨3,p.berth,0,[],p.hold,p.copy,p.at_⟩
def landBack(l:Land)(p:Parcel):Land:=match grantOf p.hold l.grants with
 | some g=>if sEq g.berth p.berth && decide (g.at_<=p.at_) then { l with grants:=eraseG p.hold l.grants } else l
 | none=>l
def takeOk(p:Parcel):Bool:=isName p.berth && (isHold p.hold && (isName p.copy && inR p.at_ 0 1000000))
def landTake(l:Land)(p:Parcel):Land×List Parcel :=
 if landOk l then
  if takeOk p then
   if p.kind=2 then match landGive l p with
    | some x=>(x,[givenP p])
    | none=>(l,[])
   else if p.kind=4 then (landBack l p,[gotBack p]) else (l,[])
  else (l,[])
 else (.zero,[])
theorem Zfz(t:Int):∀ (r pre:List Grant),Asc Grant.k pre->grantsGo t pre r=true->Asc Grant.k (pre++r)
 | [],pre,h,_=>by simpa using h
 | p::r,pre,h,k=>by
  simp only[grantsGo,Xc]at k
  have e:ascG pre p=ascL Grant.k pre p:=by unfold ascG ascL;cases pre.getLast?<;>rfl
  have h2:=(Zcv Grant.k pre p h).1 (by rw[<- e];exact k.2.1)
  have:=Zfz t r (pre++[p]) h2 k.2.2
  simpa using this
theorem Zc0{l:Land}(h:landOk l=true):Asc Grant.k l.grants/\0<=l.time/\l.time<=2000000/\l.grants.length<=40:=by
 have h40:=(Zcm h).2.2
 simp only[landOk,inR,Xc,Xj]at h
 have:=Zfz l.time l.grants [] (Asc.nil _) (by first|exact h.2.2.2.2.1|exact h.2.2.2.1)
 exact⟨by simpa using this,h.1.1,h.1.2,h40⟩
theorem law77(l:Land)(m:Md)(p:Parcel)(hl:l.small):F 77 [.agg (l.c .bor m),.agg (p.c .bor)] []=some (.tup [.agg ((landTake l p).1.c .own .own),.sl .own 7 ((landTake l p).2.map (Parcel.c .own))],[]):=by
 refine Zae fn77 rfl ?_
 have w1:=law24 l m hl
 have w2:=law121 l m hl
 simp only[Land.c]at w1 w2
 unfold landTake
 cases q1:landOk l
 ·simp[c77,w1,q1,Land.zero]
 rw[q1]at w1
 obtain⟨ha,ht0,ht1,h40⟩:=Zc0 q1
 cases q2:takeOk p
 ·unfold takeOk at q2
  cases u1:isName p.berth
  ·simp[c77,w1,w2,u1]
  cases u2:isHold p.hold
  ·simp[c77,w1,w2,u1,u2]
  cases u3:isName p.copy
  ·simp[c77,w1,w2,u1,u2,u3]
  cases u4:inR p.at_ 0 1000000
  ·simp[c77,w1,w2,u1,u2,u3,u4]
  rw[u1,u2,u3,u4]at q2
  cases q2
 unfold takeOk at q2
 simp only[Xc]at q2
 obtain⟨u1,u2,u3,u4⟩:=q2
 have w3:=law142 l p ⟨ht0,ht1⟩ hl h40 ha
 have w4:=law139 l .own p.hold hl
 simp only[Land.c,Land.refs,Land.arrs,Parcel.c]at w3 w4
 by_cases k2:p.kind=2
 ·cases hg:landGive l p with
  | none =>
   rw[hg]at w3
   simp only at w3
   rw[k2]at w3
   simp[c77,w1,w2,w3,u1,u2,u3,u4,k2,hg]
  | some x =>
   rw[hg]at w3
   simp only[Land.c]at w3
   rw[k2]at w3
   simp[c77,w1,w2,w3,u1,u2,u3,u4,k2,hg,takeRows,givenP]
 ·by_cases k4:p.kind=4
  ·rcases Zby p.hold l.grants 0 with ⟨h1,h2,h3⟩|⟨j,g,h1,h2,h3,h4⟩
   ·rw[h1]at w4
    simp[c77,w1,w2,w4,u1,u2,u3,u4,k4,landBack,h2,takeRows,gotBack]
   ·rw[h3]at w4
    simp only[Xbe]at w4
    obtain⟨hj,hgj⟩:=Xa.1 h1
    have hjI:(j:Int)<l.grants.length:=by omega
    cases x1:sEq g.berth p.berth
    ·simp[c77,w1,w2,w4,u1,u2,u3,u4,k4,landBack,h4,takeRows,gotBack,hj,hgj,hjI,x1]
    by_cases x2:g.at_<=p.at_
    ·have f1:j*64<=140737488355328:=by omega
     have f2:j<=140737488355328:=by omega
     have f3:(j+(l.grants.length-(j+1)))*64<=140737488355328:=by omega
     have f4:j+(l.grants.length-(j+1))<=140737488355328:=by omega
     have hmin:min j l.grants.length=j:=Xbt (by omega)
     have hjle:j<=l.grants.length:=by omega
     have hj1:j+1<=l.grants.length:=by omega
     have hj1I:(j:Int)+1<=l.grants.length:=by omega
     have hw1:IntKind.i64.wrap ((j:Int)+1)=(j:Int)+1:=i64w (by omega) (by omega)
     have h0I:(0:Int)<=(j:Int)+1:=by omega
     have t3:((l.grants.map Grant.c).drop (j+1)).take (l.grants.length-(j+1))=(l.grants.map Grant.c).drop (j+1):=Xae (by simp)
     have he:=Zgz ha h1 h2
     simp[c77,w1,w2,w4,u1,u2,u3,u4,k4,landBack,h4,takeRows,gotBack,hj,hgj,hjI,x1,x2,Zeq,Zak,Zaj,slBounds,f1,f2,f3,f4,hmin,hjle,hj1,hj1I,hw1,t3,h0I,he]
    ·simp[c77,w1,w2,w4,u1,u2,u3,u4,k4,landBack,h4,takeRows,gotBack,hj,hgj,hjI,x1,x2]
  ·simp[c77,w1,w2,u1,u2,u3,u4,k2,k4]
theorem Zdb(t:Int):∀ (r pre:List Grant),Asc Grant.k pre->(grantsGo t pre r=true↔(∀ g∈r,grantOk t g=true)/\Asc Grant.k (pre++r))
 | [],pre,h=>by simp[grantsGo,h]
 | p::r,pre,h=>by
  simp only[grantsGo,Xc]
  have e:ascG pre p=ascL Grant.k pre p:=by unfold ascG ascL;cases pre.getLast?<;>rfl
  have h2:=Zcv Grant.k pre p h
  constructor
  ·rintro⟨h1,h3,h4⟩
   have h5:=h2.1 (by rw[<- e];exact h3)
   obtain⟨h6,h7⟩:=(Zdb t r _ h5).1 h4
   refine⟨fun g hg=>?_,by simpa using h7⟩
   rcases Xl.1 hg with rfl|hg
   ·exact h1
   ·exact h6 g hg
  ·rintro⟨h1,h3⟩
   have h5:Asc Grant.k (pre++[p]):=by
    have:(pre++p::r)=(pre++[p])++r:=by simp
    rw[this]at h3
    exact (Xa5.1 h3).1
   refine⟨h1 p Xi,by rw[e];exact h2.2 h5,(Zdb t r _ h5).2 ⟨fun g hg=>h1 g (Xh _ hg),by simpa using h3⟩⟩
structure LandIs(l:Land):Prop where
 time:0<=l.time/\l.time<=2000000
 even:l.time.tmod 2=0
 ng:l.grants.length<=40
 np:l.places.length<=4
 grants:∀ g∈l.grants,grantOk l.time g=true
 asc:Asc Grant.k l.grants
 places:placesGo [] l.places=true
theorem Zbj(l:Land):landOk l=true↔LandIs l:=by
 simp only[landOk,inR,Xc,Xj,Zdb l.time l.grants [] (Asc.nil _),Xa8]
 constructor
 ·rintro⟨h1,h2,h3,h4,⟨h5,h6⟩,h7⟩
  exact⟨h1,h2,h3,h4,h5,h6,h7⟩
 ·rintro⟨h1,h2,h3,h4,h5,h6,h7⟩
  exact⟨h1,h2,h3,h4,⟨h5,h6⟩,h7⟩
theorem LandIs.set{l:Land}(h:LandIs l){gs:List Grant}(h1:gs.length<=40)(h2:∀ g∈gs,grantOk l.time g=true)(h3:Asc Grant.k gs):LandIs { l with grants:=gs }:=⟨h.time,h.even,h1,h.np,h2,h3,h.places⟩
theorem Zma{l:Land}(h:LandIs l){p:Parcel}(hp:takeOk p=true):grantOk l.time (newGrant l.time p)=true:=by
 simp only[takeOk,Xc]at hp
 obtain⟨h1,h2,h3,h4⟩:=hp
 have hw:IntKind.i64.wrap (l.time+32)=l.time+32:=i64w (by have:=h.time;omega) (by have:=h.time;omega)
 have ht:=h.time
 have e:inR (l.time+32) 0 (l.time+32)=true:=by simp[inR];omega
 simp only[grantOk,newGrant,Xc,hw]
 exact⟨h2,h1,h3,h4,e⟩
theorem Zkk{h:T}{gs:List Grant}{g:Grant}(hg:grantOf h gs=some g):g∈gs/\g.hold=h:=by
 unfold grantOf at hg
 exact⟨List.mem_of_find?_eq_some hg,(Zac _ _).1 (by simpa using List.find?_some hg)⟩
theorem Zkj{h:T}{gs:List Grant}(hg:grantOf h gs=none):Lacks Grant.k h gs:=fun y hy e=>by
 unfold grantOf at hg
 have:=Xbw.1 hg y hy
 exact this ((Zac _ _).2 e)
theorem Zqs{gs:List Grant}(ha:Asc Grant.k gs){g h:Grant}(hg:g∈gs)(hh:h∈gs)(e:g.hold=h.hold):g=h:=by
 obtain⟨i,hi⟩:=Xak hg
 obtain⟨j,hj⟩:=Xak hh
 have:=Zr4 Grant.k ha hi hj e
 subst this
 rw[hi]at hj
 exact Xf hj
theorem Zjy{x g:Grant}{gs:List Grant}(ha:Asc Grant.k gs)(hg:g∈gs)(he:g.hold=x.hold):(putBy Grant.k x gs).length=gs.length:=by
 obtain⟨i,hi⟩:=Xak hg
 rw[Zcr Grant.k ha hi he,Xa0]
theorem Zhh{t:Int}{gs:List Grant}:(lives40 t gs).Sublist gs:=by
 unfold lives40
 split
 ·exact Xcm
 ·exact Xb4 _
theorem Zg8{l x:Land}{p:Parcel}(h:LandIs l)(hp:takeOk p=true)(hg:landGive l p=some x):LandIs x/\x.places=l.places/\x.time=l.time/\∃ gs,gs.Sublist l.grants/\x.grants=putBy Grant.k (newGrant l.time p) gs /\
  (∀ g∈l.grants,g.hold=p.hold->blocks l.time p g=false):=by
 unfold landGive at hg
 split at hg
 case isFalse=>cases hg
 have key:∀ gs:List Grant,gs.Sublist l.grants->(putBy Grant.k (newGrant l.time p) gs).length<=40->LandIs { l with grants:=putBy Grant.k (newGrant l.time p) gs }:=fun gs hs hl=>by
  refine h.set hl (fun g hg=>?_) (Zar Grant.k (h.asc.sublist hs))
  rcases Zay Grant.k hg with rfl|hg
  ·exact Zma h hp
  ·exact h.grants g (hs.subset hg)
 cases hG:grantOf p.hold l.grants with
 | some g =>
  rw[hG]at hg
  simp only at hg
  split at hg
  ·cases hg
  ·rename_i hb
   obtain rfl:=Xf hg
   obtain⟨h1,h2⟩:=Zkk hG
   refine⟨key _ (Xb4 _) (by rw[Zjy h.asc h1 h2];exact h.ng),rfl,rfl,_,Xb4 _,rfl,fun g' hg' e=>?_⟩
   rw[Zqs h.asc hg' h1 (e.trans h2.symm)]
   simpa using hb
 | none =>
  rw[hG]at hg
  simp only at hg
  split at hg
  ·cases hg
  ·rename_i hb
   obtain rfl:=Xf hg
   refine⟨key _ Zhh (by have:=Za7 Grant.k (newGrant l.time p) (lives40 l.time l.grants);omega),rfl,rfl,_,Zhh,rfl,fun g' hg' e=>absurd e (Zkj hG g' hg')⟩
theorem Zck{h:T}:∀ {gs:List Grant},(eraseG h gs).Sublist gs
 | []=>Xb4 _
 | g::r=>by
  unfold eraseG
  split
  ·exact List.sublist_cons_self g r
  ·exact Zck.cons_cons g
theorem Zg7{l:Land}{p:Parcel}(h:LandIs l):LandIs (landBack l p)/\(landBack l p).places=l.places/\(landBack l p).time=l.time/\(landBack l p).grants.Sublist l.grants:=by
 unfold landBack
 cases grantOf p.hold l.grants with
 | none=>exact⟨h,rfl,rfl,Xb4 _⟩
 | some g =>
  simp only
  split
  ·exact⟨h.set (Xac Zck.length_le h.ng) (fun g hg=>h.grants g (Zck.subset hg)) (h.asc.sublist Zck),rfl,rfl,Zck⟩
  ·exact⟨h,rfl,rfl,Xb4 _⟩
theorem Zl2{l:Land}{p:Parcel}(h:landOk l=true):landOk (landTake l p).1=true:=by
 have hi:=(Zbj l).1 h
 unfold landTake
 rw[Xr h]
 by_cases hp:takeOk p=true
 ·rw[Xr hp]
  by_cases k2:p.kind=2
  ·rw[Xr k2]
   cases hg:landGive l p with
   | none=>exact h
   | some x=>exact (Zbj x).2 (Zg8 hi hp hg).1
  ·rw[Xu k2]
   by_cases k4:p.kind=4
   ·rw[Xr k4];exact (Zbj _).2 (Zg7 hi).1
   ·rw[Xu k4];exact h
 ·rw[Xu hp];exact h
theorem Zl3{l:Land}(h:landOk l=true):landOk (landTick l).1=true:=by
 have hi:=(Zbj l).1 h
 unfold landTick
 rw[Xr h]
 split
 ·exact h
 ·rename_i ht
  have hb:=hi.time
  have he:=hi.even
  have hlt:l.time<2000000:=by omega
  have hm:(l.time+2).tmod 2=0:=by
   rw[Xba (by omega)]
   rw[Xba (by omega)]at he
   omega
  refine (Zbj _).2 ⟨?_,?_,hi.ng,hi.np,fun g hg=>?_,hi.asc,hi.places⟩
  ·simp only;have hev:l.time % 2=0:=by rw[Xba (by omega)]at he;exact he
   omega
  ·exact hm
  ·show grantOk (l.time+2) g=true
   have:=hi.grants g hg
   have e1:IntKind.i64.wrap (l.time+32)=l.time+32:=i64w (by omega) (by omega)
   have e2:IntKind.i64.wrap (l.time+2+32)=l.time+2+32:=i64w (by omega) (by omega)
   simp only[grantOk,inR,Xc,Xj,e1,e2]at this ⊢
   exact⟨this.1,this.2.1,this.2.2.1,this.2.2.2.1,by omega⟩
theorem Zkq{l:Land}{b:T}{ws:List Want}:(matePut l b ws).2=1\/landOk (matePut l b ws).1=true:=by
 unfold matePut
 by_cases h1:landOk l=true
 ·rw[Xr h1]
  by_cases h2:(isName b && wantsOk ws)=true
  ·rw[Xr h2]
   by_cases h3:landOk (landPut l b ws)=true
   ·rw[Xr h3];exact .inr h3
   ·rw[Xu h3];exact .inr h1
  ·rw[Xu h2];exact .inr h1
 ·rw[Xu h1];exact .inl rfl
/-! ### What an event makes of a world -/
def isDown(k:Int):Bool:=k == 1 || (k == 3 || k == 5)
def bringW (w:Wld) (k:Nat):Wld:=match w.flight[k]? with
  | none => w
  | some s =>
    if (readT s).2 then
      (if isDown (readT s).1.kind then { w with flight:=outT w.flight k,mates:=w.mates.map fun m => if sEq m.name (readT s).1.berth then mateTake m (readT s).1 else m }
       else sendW { w with flight:=outT w.flight k,land:=(landTake w.land (readT s).1).1 } (landTake w.land (readT s).1).2)
    else { w with flight:=outT w.flight k }
def atE(a:Int)(n:Nat):Bool:=decide (0<=a) && decide (a<n)
def doubleW(w:Wld)(k:Nat):Wld:=match w.flight[k]? with
 | none=>w
 | some s=>if w.flight.length<300 then { w with flight:=w.flight++[s] } else w
def mateW(w:Wld)(k:Nat)(f:Mate->Mate):Wld:=match w.mates[k]? with
 | none=>w
 | some m=>{ w with mates:=w.mates.set k (f m) }
def putW(w:Wld)(k:Nat)(ws:List Want):Wld:=match w.mates[k]? with
 | none=>w
 | some m=>if (matePut w.land m.name ws).2=0 then { w with land:=(matePut w.land m.name ws).1 } else w
def doW(w:Wld)(e:Event):Wld :=
 if e.kind=1 then tickW w e.rates
 else if e.kind=2 then (if atE e.a w.flight.length then bringW w e.a.toNat else w)
 else if e.kind=3 then (if atE e.a w.flight.length then doubleW w e.a.toNat else w)
 else if e.kind=4 then (if atE e.a w.flight.length then { w with flight:=outT w.flight e.a.toNat } else w)
 else if e.kind=5 then (if atE e.a w.mates.length then mateW w e.a.toNat (fun m=>mateFall m (e.b != 0)) else w)
 else if e.kind=6 then (if atE e.a w.mates.length then mateW w e.a.toNat mateRise else w)
 else if e.kind=7 then (if atE e.a w.mates.length then putW w e.a.toNat e.wants else w)
 else w
def bringsW:Nat->Wld->Wld
 | 0,w=>w
 | n+1,w=>bringsW n (bringW w 0)
def roundW(w:Wld)(rates:List Int):Wld :=
 let a:=tickW w rates
 let b:=bringsW a.flight.length a
 bringsW b.flight.length b
def roundsW(rates:List Int):Nat->Wld->Wld
 | 0,w=>w
 | n+1,w=>roundsW rates n (roundW w rates)
/-! ### Worlds that are ok, with few holds -/
structure WIsN(n:Nat)(w:Wld):Prop where
 bound:n<=12
 land:landOk w.land=true
 one:1<=w.mates.length
 four:w.mates.length<=4
 fl:w.flight.length<=300
 mates:∀ m∈w.mates,MateIs m
 asc:Asc (·.name) w.mates
 texts:∀ s∈w.flight,s.size<=3000
 hm:∀ m∈w.mates,HoldsN n m
abbrev WIs (w:Wld):Prop:=WIsN 12 w
theorem Zea:∀ (l pre:List Mate),Asc (·.name) pre->(matesGo pre l=true↔(∀ m∈l,mateValid m=true)/\Asc (·.name) (pre++l))
 | [],pre,h=>by simp[matesGo,h]
 | r::rs,pre,h=>by
  have e:=Zcv (fun x:Mate=>x.name) pre r h
  have ea:ascM pre r=ascL (fun x:Mate=>x.name) pre r:=by unfold ascM ascL;cases pre.getLast?<;>rfl
  rw[<- ea]at e
  simp only[matesGo,Xc,Xl,forall_eq_or_imp]
  constructor
  ·rintro⟨h1,h2,h3⟩
   have h4:=e.1 h2
   have:=(Zea rs (pre++[r]) h4).1 h3
   exact⟨⟨h1,this.1⟩,by simpa using this.2⟩
  ·rintro⟨⟨h1,h2⟩,h3⟩
   have h4:Asc (fun x:Mate=>x.name) (pre++[r]):=by
    have:pre++r::rs=(pre++[r])++rs:=by simp
    rw[this]at h3
    exact (Xa5.1 h3).1
   exact⟨h1,e.2 h4,(Zea rs (pre++[r]) h4).2 ⟨h2,by simpa using h3⟩⟩
theorem Zed(w:Wld):worldOk w=true↔landOk w.land=true/\(1<=w.mates.length/\w.mates.length<=4)/\w.flight.length<=300/\(∀ m∈w.mates,MateIs m)/\Asc (·.name) w.mates:=by
 simp only[worldOk,Xc,Xj,Zea w.mates [] (Asc.nil _),Xa8]
 constructor
 ·rintro⟨h1,h2,h3,h4,h5,h6⟩
  exact⟨h1,⟨h2,h3⟩,h4,fun m hm=>Zat.1 (h5 m hm),h6⟩
 ·rintro⟨h1,⟨h2,h3⟩,h4,h5,h6⟩
  exact⟨h1,h2,h3,h4,fun m hm=>Zat.2 (h5 m hm),h6⟩
theorem WIsN.ok{n:Nat}{w:Wld}(h:WIsN n w):worldOk w=true:=(Zed w).2 ⟨h.land,⟨h.one,h.four⟩,h.fl,h.mates,h.asc⟩
theorem WIsN.up{n k:Nat}{w:Wld}(h:WIsN n w)(h1:n<=k)(h2:k<=12):WIsN k w:=⟨h2,h.land,h.one,h.four,h.fl,h.mates,h.asc,h.texts,fun m hm=>(h.hm m hm).up h1⟩
theorem Zjx{n:Nat}{m:Mate}(h:m.asks=[]):HoldsN n m:=⟨[],by simp,fun _ k=>by rw[h]at k;cases k⟩
theorem Zdt{n:Nat}:HoldsN n .zero:=Zjx rfl
theorem Ziq{n:Nat}{m:Mate}(b:Bool):HoldsN n (mateFall m b):=by
 unfold mateFall
 split
 ·exact Zjx rfl
 ·exact Zdt
theorem Zoe{n:Nat}{m:Mate}(h:HoldsN n m):HoldsN n (mateRise m):=by
 unfold mateRise
 split
 ·exact h
 ·exact Zdt
theorem Zoo{n:Nat}{m:Mate}{rate:Int}(h:HoldsN n m):HoldsN n (mateTick m rate).1:=by
 unfold mateTick
 split
 case isFalse=>exact Zdt
 rename_i hv
 split
 case isFalse=>exact h
 split
 ·exact Ziq (m:=m) true
 have hv:=Zh4 hv
 have h1:=Zgf (rate:=rate) h
 split
 case isFalse=>exact h1
 unfold tickRuns
 split
 ·obtain⟨h2,h3,_⟩:=Zi0 h1 hv.asks hv.ngives
  exact Zhi h2 h3
 ·exact Zhi h1 hv.asks
theorem Zon{n:Nat}{m:Mate}{p:Parcel}(h:HoldsN n m):HoldsN n (mateTake m p):=by
 unfold mateTake
 split
 case isFalse=>exact Zdt
 split
 case isFalse=>exact h
 unfold takeKind
 split
 ·unfold takeTold
  split<;>exact h
 split
 ·unfold takeGiven
  split
  ·split
   ·refine h.runs rfl fun r h1=>⟨giveRun p r,Xap.2 ⟨r,h1,rfl⟩,?_⟩
    have:(giveRun p r).want=r.want:=by unfold giveRun;split<;>rfl
    rw[this]
   ·exact h
  ·exact h
 split
 ·unfold takeBack'
  split
  ·split<;>exact h
  ·exact h
 ·exact h
/-! Names. -/
theorem Zp9{m:Mate}{rate:Int}(h:mateValid m=true):(mateTick m rate).1.name=m.name:=by
 have ef:mateFall m true={ Mate.zero with name:=m.name,clock:=m.clock,runs:=m.runs.filterMap (fallRun true) }:=Xr h
 unfold mateTick
 rw[Xr h]
 split
 case isFalse=>rfl
 split
 ·rw[ef]
 split
 case isFalse=>rfl
 unfold tickRuns
 split<;>rfl
theorem Zp7{m:Mate}{p:Parcel}(h:mateValid m=true):(mateTake m p).name=m.name:=by
 unfold mateTake
 rw[Xr h]
 split
 case isFalse=>rfl
 unfold takeKind
 split
 ·unfold takeTold;split<;>rfl
 split
 ·unfold takeGiven
  split
  ·split<;>rfl
  ·rfl
 split
 ·unfold takeBack'
  split
  ·split<;>rfl
  ·rfl
 ·rfl
theorem Zpd{m:Mate}{b:Bool}(h:mateValid m=true):(mateFall m b).name=m.name:=by
 unfold mateFall;rw[Xr h]
theorem Zpy{m:Mate}(h:mateValid m=true):(mateRise m).name=m.name:=by
 unfold mateRise;rw[Xr h]
/-! The flight. -/
structure FlOk(fl:List T):Prop where
 len:fl.length<=300
 texts:∀ s∈fl,s.size<=3000
theorem FlOk.send:∀ (ps:List Parcel) (fl:List T),FlOk fl->FlOk (ps.foldl sendF fl)
 | [],_,h=>h
 | p::ps,fl,h=>by
  have h1:FlOk (sendF fl p):=by
   unfold sendF
   split
   ·rename_i q
    simp only[Xc,Xj,Xv]at q
    refine⟨by rw[Xs,Xbm];omega,fun s hs=>?_⟩
    rcases Xg.1 hs with hs|hs
    ·exact h.texts s hs
    ·rw[Xn.1 hs];exact Zhn p
   ·exact h
  exact FlOk.send ps _ h1
theorem FlOk.sub{fl gl:List T}(h:FlOk fl)(hs:∀ s∈gl,s∈fl)(hl:gl.length<=300):FlOk gl:=⟨hl,fun s k=>h.texts s (hs s k)⟩
theorem FlOk.out{fl:List T}(h:FlOk fl)(k:Nat):FlOk (outT fl k):=by
 refine h.sub (fun s hs=>?_) ?_
 ·rcases Xg.1 hs with hs|hs
  ·exact Xbf hs
  ·exact Xbq hs
 ·have:=h.len
  simp only[outT,Xs,Xbj,Xb3]
  omega
theorem WIsN.flight{n:Nat}{w:Wld}(h:WIsN n w):FlOk w.flight:=⟨h.fl,h.texts⟩
theorem WIsN.mk'{n:Nat}{w:Wld}(h:WIsN n w){l:Land}{ms:List Mate}{fl:List T}(h1:landOk l=true)(h3:ms.map (·.name)=w.mates.map (·.name))(h4:∀ m∈ms,MateIs m)(h5:∀ m∈ms,HoldsN n m)(h6:FlOk fl):WIsN n ⟨l,ms,fl⟩:=by
 have hlen:ms.length=w.mates.length:=by simpa using Xct List.length h3
 have hasc:Asc (·.name) ms:=by
  have:=h.asc
  rw[Zgr]at this ⊢
  rw[h3];exact this
 exact⟨h.bound,h1,by have:=h.one;simp only;omega,by have:=h.four;simp only;omega,h6.len,h4,hasc,h6.texts,h5⟩
theorem Zge{n:Nat}(hn:n<=12)(rates:List Int):∀ (ms:List Mate) (i:Nat) (fl:List T),(∀ m∈ms,MateIs m)->(∀ m∈ms,HoldsN n m)->FlOk fl ->
  (tickMates rates i ms fl).1.map (·.name)=ms.map (·.name)/\(∀ m∈(tickMates rates i ms fl).1,MateIs m)/\(∀ m∈(tickMates rates i ms fl).1,HoldsN n m)/\FlOk (tickMates rates i ms fl).2
 | [],_,_,h1,h2,h3=>⟨rfl,h1,h2,h3⟩
 | m::ms,i,fl,h1,h2,h3=>by
  have m1:=h1 m Xi
  have m2:=h2 m Xi
  obtain⟨t1,t2,t3⟩:=Zss (rate:=rateOf rates i) m1 (m2.up hn)
  have u1:=Zoo (rate:=rateOf rates i) m2
  have u3:=Zp9 (rate:=rateOf rates i) (Zat.2 m1)
  have h4:=FlOk.send (mateTick m (rateOf rates i)).2 fl h3
  obtain⟨r1,r2,r3,r4⟩:=Zge hn rates ms (i+1) _ (fun x hx=>h1 x (Xh _ hx)) (fun x hx=>h2 x (Xh _ hx)) h4
  unfold tickMates
  refine⟨by simp only[Xx,u3,r1],fun x hx=>?_,fun x hx=>?_,r4⟩
  ·rcases Xl.1 hx with rfl|hx
   ·exact t1
   ·exact r2 x hx
  ·rcases Xl.1 hx with rfl|hx
   ·exact u1
   ·exact r3 x hx
theorem Zha{l:Land}{p:Parcel}(h:landOk l=true):(landTake l p).1.places=l.places/\(landTake l p).2.length<=1/\∀ q∈(landTake l p).2,q.wants=[]:=by
 have hi:=(Zbj l).1 h
 unfold landTake
 rw[Xr h]
 split
 case isFalse=>exact⟨rfl,by simp,fun q hq=>by simp at hq⟩
 rename_i hp
 split
 ·split
  ·rename_i x hg
   exact⟨(Zg8 hi hp hg).2.1,by simp,fun q hq=>by rw[Xn.1 hq];rfl⟩
  ·exact⟨rfl,by simp,fun q hq=>by simp at hq⟩
 split
 ·exact⟨(Zg7 hi).2.1,by simp,fun q hq=>by rw[Xn.1 hq];rfl⟩
 ·exact⟨rfl,by simp,fun q hq=>by simp at hq⟩
theorem WIsN.tick{n:Nat}{w:Wld}(h:WIsN n w)(rates:List Int):WIsN n (tickW w rates):=by
 have h4:=FlOk.send (landTick w.land).2 w.flight h.flight
 obtain⟨r1,r2,r3,r4⟩:=Zge h.bound rates w.mates 0 _ h.mates h.hm h4
 exact h.mk' (Zl3 h.land) r1 r2 r3 r4
theorem WIsN.bring{n:Nat}{w:Wld}(h:WIsN n w)(k:Nat):WIsN n (bringW w k):=by
 unfold bringW
 split
 ·exact h
 ·rename_i s hs
  have ho:=h.flight.out k
  split
  ·split
   ·refine h.mk' h.land ?_ (fun m hm'=>?_) (fun m hm'=>?_) ho
    ·rw[List.map_map]
     refine List.map_congr_left fun m hm'=>?_
     simp only[Function.comp_apply]
     split
     ·exact Zp7 (Zat.2 (h.mates m hm'))
     ·rfl
    ·obtain⟨m0,k1,rfl⟩:=Xap.1 hm'
     split
     ·exact Zsq (h.mates m0 k1)
     ·exact h.mates m0 k1
    ·obtain⟨m0,k1,rfl⟩:=Xap.1 hm'
     split
     ·exact Zon (h.hm m0 k1)
     ·exact h.hm m0 k1
   ·exact h.mk' (Zl2 h.land) rfl h.mates h.hm (FlOk.send _ _ ho)
  ·exact h.mk' h.land rfl h.mates h.hm ho
theorem WIsN.double{n:Nat}{w:Wld}(h:WIsN n w)(k:Nat):WIsN n (doubleW w k):=by
 unfold doubleW
 split
 ·exact h
 ·rename_i s hs
  split
  ·rename_i hl
   refine h.mk' h.land rfl h.mates h.hm (h.flight.sub (fun x hx=>?_) (by simp;omega))
   rcases Xg.1 hx with hx|hx
   ·exact hx
   ·rw[Xn.1 hx];exact Xe hs
  ·exact h
theorem WIsN.mate{n:Nat}{w:Wld}(h:WIsN n w)(k:Nat){f:Mate->Mate}(h1:∀ m,MateIs m->MateIs (f m))(h2:∀ m,HoldsN n m->HoldsN n (f m))(h3:∀ m,MateIs m->(f m).name=m.name):WIsN n (mateW w k f):=by
 unfold mateW
 split
 ·exact h
 ·rename_i m hm
  have hmem:=Xe hm
  refine h.mk' h.land ?_ (fun x hx=>?_) (fun x hx=>?_) h.flight
  ·rw[Xa3,h3 m (h.mates m hmem)]
   obtain⟨hlt,e⟩:=Xa.1 hm
   have:m.name=(w.mates.map (·.name))[k]'(by simpa using hlt):=by simp[e]
   rw[this,List.set_getElem_self]
  ·rcases Xat hx with hx|rfl
   ·exact h.mates x hx
   ·exact h1 m (h.mates m hmem)
  ·rcases Xat hx with hx|rfl
   ·exact h.hm x hx
   ·exact h2 m (h.hm m hmem)
theorem WIsN.put{n:Nat}{w:Wld}(h:WIsN n w)(k:Nat)(ws:List Want):WIsN n (putW w k ws):=by
 unfold putW
 split
 ·exact h
 ·split
  ·rename_i hc
   exact h.mk' ((Zkq (l:=w.land)).resolve_left (by omega)) rfl h.mates h.hm h.flight
  ·exact h
theorem WIsN.do'{n:Nat}{w:Wld}(h:WIsN n w)(e:Event):WIsN n (doW w e):=by
 unfold doW
 split
 ·exact h.tick _
 split
 ·split
  ·exact h.bring _
  ·exact h
 split
 ·split
  ·exact h.double _
  ·exact h
 split
 ·split
  ·exact h.mk' h.land rfl h.mates h.hm (h.flight.out _)
  ·exact h
 split
 ·split
  ·exact h.mate _ (fun m hm=>Zat.1 (Zir _ (Zat.2 hm))) (fun m _=>Ziq _) (fun m hm=>Zpd (Zat.2 hm))
  ·exact h
 split
 ·split
  ·exact h.mate _ (fun m hm=>Zat.1 (Zof (Zat.2 hm))) (fun m hm=>Zoe hm) (fun m hm=>Zpy (Zat.2 hm))
  ·exact h
 split
 ·split
  ·exact h.put _ _
  ·exact h
 ·exact h
theorem WIsN.brings{k:Nat}:∀ (n:Nat) {w:Wld},WIsN k w->WIsN k (bringsW n w)
 | 0,_,h=>h
 | n+1,_,h=>WIsN.brings n (h.bring 0)
theorem WIsN.round{n:Nat}{w:Wld}(h:WIsN n w)(rates:List Int):WIsN n (roundW w rates):=((h.tick rates).brings _).brings _
theorem WIsN.rounds{k:Nat}(rates:List Int):∀ (n:Nat) {w:Wld},WIsN k w->WIsN k (roundsW rates n w)
 | 0,_,h=>h
 | n+1,_,h=>WIsN.rounds rates n (h.round rates)
theorem Zi7(rates:List Int):∀ (a b:Nat) (w:Wld),roundsW rates b (roundsW rates a w)=roundsW rates (a+b) w
 | 0,b,w=>by rw[Xbe];rfl
 | a+1,b,w=>by rw[show a+1+b=(a+b)+1 by omega];exact Zi7 rates a b _
theorem Zod{s:T}(h:(readT s).2=true):parcelForm (readT s).1=s:=by
 unfold readT at h ⊢
 split at h
 ·cases h
 ·rename_i hn
  rw[Xu hn]
  simp only[Xas,Xv,not_or,Bool.not_eq_false]at hn
  exact (Zac _ _).1 hn.2
theorem Zpx:readT ⟨#[]⟩=(noParcel,false):=by
 unfold readT
 rw[(Zac _ _).2 rfl]
 rfl
theorem Zi5{s:T}(h:(readT s).2=true):(readT s).1.wants.length<=10:=by
 have h1:=Zod h
 have hne:s≠⟨#[]⟩:=fun e=>by rw[e,Zpx]at h;cases h
 rw[<- h1]at hne
 generalize (readT s).1=p at hne
 have hz:∀ l:List Want,l.isEmpty=true->l.length<=10:=fun l h=>by rw[Xcr.1 h];simp
 unfold parcelForm formSw at hne
 split at hne
 case isFalse=>exact absurd rfl hne
 split at hne
 ·split at hne
  ·rename_i q
   simp only[Xc]at q
   exact ((Zaq _).1 q.2.1).1
  ·exact absurd rfl hne
 split at hne
 ·split at hne
  ·rename_i q
   simp only[Xc]at q
   exact hz _ q.2.2.2.2
  ·exact absurd rfl hne
 split at hne
 ·split at hne
  ·rename_i q
   simp only[Xc]at q
   exact hz _ q.2.2.2.2
  ·exact absurd rfl hne
 split at hne
 ·split at hne
  ·rename_i q
   simp only[Xc]at q
   exact hz _ q.2.1
  ·exact absurd rfl hne
 ·exact absurd rfl hne
def outs4(y:Option (List (List AV)×List (List AV)))(z:Option (List (List AV))):List (Option AO):=[y.map fun a=>.arr 5 a.1,y.map fun a=>.arr 3 a.2,none,z.map fun c=>.arr 1 c]
def Res4(w:Wld)(r:AV×List (Option AO)):Prop:=∃ y z,r=(.agg (w.c .own .own),outs4 y z)
theorem WIsN.drawn{n:Nat}{w:Wld}(h:WIsN n w):∀ m∈w.mates,Ready m:=fun m hm=>by
 have a:=h.mates m hm
 have b:=h.hm m hm
 have w1:=((Zaq _).1 a.wants).1
 have f1:=a.asks.len
 have f2:=a.gives.len
 have:=a.runsN
 exact⟨⟨by omega,by omega,by omega,by omega⟩,b.up h.bound⟩
theorem Zf8:∀ (r pre:List Place),placesGo pre r=true->∀ p∈r,placeOk p=true
 | [],_,_,_,h=>by simp at h
 | q::r,pre,h,p,hp=>by
  simp only[placesGo,Xc]at h
  rcases Xl.1 hp with rfl|hp
  ·exact h.1
  ·exact Zf8 r _ h.2.2.2 p hp
theorem WIsN.lsmall{n:Nat}{w:Wld}(h:WIsN n w):w.land.small:=by
 have hi:=(Zbj _).1 h.land
 have:=hi.ng
 have:=hi.np
 exact⟨by omega,by omega,fun p hp=>⟨by
  have:=Zf8 _ _ hi.places p hp
  simp only[placeOk,Xc]at this
  have:=((Zaq _).1 this.2.2).1
  omega⟩⟩
theorem WIsN.fit{n:Nat}{w:Wld}(h:WIsN n w):w.fit:=⟨h.lsmall,by have:=h.four;omega,h.drawn,by have:=h.fl;omega⟩
theorem WIsN.small{n:Nat}{w:Wld}(h:WIsN n w):w.small:=⟨h.lsmall,by have:=h.four;omega,fun m hm=>(h.drawn m hm).small,by have:=h.fl;omega⟩
def head228(w:Wld)(fl:List T)(p:Parcel)(i:Nat):St :=
 hd [(2,.ptr 4 0 0),(4,.ptr 5 0 0),(5,.ptr 6 0 0),(7,.int .i64 i)] (w.arrs++[.box [.int .i64 w.land.time,.ref 0,.ref 1,.ref 2,.ref 7],.box zeroW,.box [.int .i64 p.kind,.str p.berth,.int .i64 p.seen,.ref 8,.str p.hold,.str p.copy,.int .i64 p.at_],.arr 1 (fl.map rowT),.arr 7 (p.wants.map Want.c)]) 4
def rt228:CCode:=.seq (.region [xf 67 2 5,xg 4 67 5] [4]) .ret
theorem Zre(l0:Land)(ms:List Mate)(fl0 fl:List T)(p:Parcel)(hp:p.wants.length<=10)(h1:∀ m∈ms,Ready m)(h2:ms.length<=1000)(c:CCode)(s0:St)(hs0:s0.norm [2,4,5,7]=head228 ⟨l0,ms,fl0⟩ fl p 0) :
  Ends (fin [.cell 4 5 true] 4 (X F [.code (.loop [2,4,5,7] c228b0),.blk 0,.code rt228,.code c] (.normal,s0))) (Res4 ⟨l0,ms.map fun m=>if sEq m.name p.berth then mateTake m p else m,fl⟩):=by
 have e:(fun s:T=>[AV.str s])=rowT:=rfl
 refine Za8 (σ:=Nat×List Mate) (fun z=>head228 ⟨l0,z.2,fl0⟩ fl p z.1) (fun z=>z.1<=ms.length/\z.2=(ms.take z.1).map (fun m=>if sEq m.name p.berth then mateTake m p else m)++ms.drop z.1) (fun z=>ms.length-z.1) (fun z Y hinv hY=>?_) (0,ms) hs0 ⟨Xp _,by simp⟩ (by unfold big;simp only;omega)
 obtain⟨i,xs⟩:=z
 obtain⟨g1,g2⟩:=hinv
 simp only at g1 g2 hY ⊢
 have hxl:xs.length=ms.length:=by rw[g2];simp;omega
 by_cases hi:i<ms.length
 ·have hix:i<xs.length:=by omega
  have hiI:(i:Int)<xs.length:=by omega
  have hw1:IntKind.i64.wrap ((i:Int)+1)=(i:Int)+1:=i64w (by omega) (by omega)
  obtain⟨m,hgm⟩:∃ m,ms[i]=m:=⟨_,rfl⟩
  have hmi:ms[i]?=some m:=by rw[<- hgm];exact Xd hi
  have hlt:((ms.take i).map (fun m=>if sEq m.name p.berth then mateTake m p else m)).length=i:=by simp;omega
  have hdr:ms.drop i=m::ms.drop (i+1):=by rw[Xah hi,hgm]
  have hg:xs[i]=m:=by
   have:xs[i]?=some m:=by rw[g2,Xar (by omega),hlt,Xcw,hdr];rfl
   exact (Xa.1 this).2
  have w64:=law64 m p (h1 m (Xe hmi)).small (by omega)
  simp only[Mate.c,Parcel.c]at w64
  have hnx:∀ x,x=(if sEq m.name p.berth then mateTake m p else m)->xs.set i x=(ms.take (i+1)).map (fun m=>if sEq m.name p.berth then mateTake m p else m)++ms.drop (i+1):=fun x hx=>by
   rw[g2,List.set_append_right _ _ (by omega),hlt,Xcw,hdr,Xax,hmi]
   simp[hx]
  cases q:sEq m.name p.berth
  ·rw[q]at hnx
   have hself:xs.set i m=xs:=by rw[<- hg];exact List.set_getElem_self ..
   simp[head228,Wld.arrs,c228b0,hix,hiI,hg,q]
   refine hY (i+1,xs) _ ⟨by simp only;omega,by rw[<- hnx m (by simp),hself]⟩ (by simp only;omega) ?_
   simp[head228,Wld.arrs,hw1,zeroW,List.range,List.range.loop]
  ·rw[q]at hnx
   generalize mateTake m p=m' at *
   simp[head228,Wld.arrs,c228b0,hix,hiI,hg,q,w64]
   refine hY (i+1,xs.set i m') _ ⟨by simp only;omega,by rw[hnx m' (by simp)]⟩ (by simp only;omega) ?_
   simp[head228,Wld.arrs,hw1,zeroW,Xa3,List.range,List.range.loop]
 ·obtain rfl:i=ms.length:=by omega
  have hiI:¬ (ms.length:Int)<xs.length:=by omega
  rw[Xbg,Xcq,Xb6]at g2
  rw[<- g2]
  simp[head228,Wld.arrs,c228b0,rt228,hiI,zeroW,List.range,List.range.loop]
  exact⟨none,some (fl0.map rowT),by simp[e,outs4]⟩
theorem law228 (w:Wld) (k:Nat) (h:WIs w) (hk:k<w.flight.length):Ends (F 228 [.agg (w.refs 0),.int .i64 k] w.arrs) (Res4 (bringW w k)):=by
  refine Zce fn228 rfl ?_
  obtain⟨s,hs⟩:∃ s,w.flight[k]=s:=⟨_,rfl⟩
  have hsk:w.flight[k]?=some s:=by rw[<- hs];exact Xd hk
  have hm:=Xe hsk
  have hkI:(k:Int)<w.flight.length:=by omega
  have hsz:=h.texts s hm
  have w235:=law235 s (by omega)
  have w232:=law232 w.flight k hk (by have:=h.fl;omega)
  have hb:bringW w k=if (readT s).2 then
      (if isDown (readT s).1.kind then { w with flight:=outT w.flight k,mates:=w.mates.map fun m => if sEq m.name (readT s).1.berth then mateTake m (readT s).1 else m }
       else sendW { w with flight:=outT w.flight k,land:=(landTake w.land (readT s).1).1 } (landTake w.land (readT s).1).2)
    else { w with flight:=outT w.flight k }:=by unfold bringW;rw[hsk]
  rw[hb]
  have hol:=(h.flight.out k).len
  generalize outT w.flight k=fl at *
  have e:(fun s:T => [AV.str s])=rowT:=rfl
  cases q:(readT s).2
  · rw[q]at w235
    simp only[Parcel.c]at w235
    simp[c228,Wld.refs,Wld.arrs,hk,hkI,hs,w235,w232,rowT,e]
    exact⟨none,some (w.flight.map rowT),by simp[e,outs4]⟩
  · have hpw:=Zi5 q
    rw[q]at w235
    simp only[Xag]
    generalize (readT s).1=p at *
    simp only[Parcel.c]at w235
    cases hd:isDown p.kind
    · have hd':¬ p.kind=1/\¬ p.kind=3/\¬ p.kind=5:=by simpa [isDown] using hd
      obtain⟨d1,d2,d3⟩:=hd'
      have w77:=law77 w.land .own p h.lsmall
      obtain⟨b1,b2,b3⟩:=Zha (p:=p) h.land
      have w233:=law233 ⟨(landTake w.land p).1,w.mates,fl⟩ (landTake w.land p).2 .own (by omega) (fun x hx => ⟨by rw[b3 x hx];simp⟩) (by simp only;omega)
      generalize landTake w.land p=R at *
      obtain⟨l,ps⟩:=R
      simp only[Land.c,Parcel.c,Wld.refs,Wld.arrs,wgoneV]at w77 w233
      simp[c228,Wld.refs,Wld.arrs,hk,hkI,hs,w235,w232,rowT,e,d1,d2,d3,w77,w233,AO.isArr]
      exact⟨some (w.land.grants.map Grant.c,w.land.places.map (Place.c .own)),some (w.flight.map rowT),by simp[e,outs4]⟩
    · simp only[Xag]
      have hone:=h.drawn
      have hfour:=h.four
      obtain⟨l0,ms,fl0⟩:=w
      have hd':p.kind=1\/p.kind=3\/p.kind=5:=by simpa [isDown] using hd
      rcases hd' with d|d|d<;>simp[c228,Wld.refs,Wld.arrs,hk,hkI,hs,w235,w232,rowT,e,d,AO.isArr]<;>refine Zre l0 ms fl0 fl p hpw hone (by simp only at hfour;omega) _ _ ?_<;>simp[head228,Wld.arrs,zeroW,d,List.range,List.range.loop]
theorem law324(bs:List Int)(p:Int)(hb:Code bs)(h0:0<=p)(hp:p<=100000000000):∃ rs:List Int,F 324 [.ptr 0 0 0] [rdBox bs p]=some (.sl .own 1 (rs.map rowI),[some (rdBox bs (p+1))])/\rs.length<=3:=by
 obtain⟨a1,a2,a3⟩:=law89 bs p 7 hb h0 (by omega) (by omega)
 have a4:=a3 (by omega)
 obtain⟨k,hk,hk7⟩:=Za1 (n:=7) a2 a4
 rw[hk]at a1
 simp only[rdBox]at a1
 have ei:(fun n:Int=>[AV.int .i64 n])=rowI:=rfl
 rcases k with _|_|_|_|_|_|_|k
 ·exact⟨[],Zae fn324 rfl (by simp[c324,rdBox,a1,rowI]),by simp⟩
 ·exact⟨[1,4],Zae fn324 rfl (by simp[c324,rdBox,a1,rowI]),by simp⟩
 ·exact⟨[4,1],Zae fn324 rfl (by simp[c324,rdBox,a1,rowI]),by simp⟩
 ·exact⟨[2,3,1],Zae fn324 rfl (by simp[c324,rdBox,a1,rowI]),by simp⟩
 ·exact⟨[1,1,1],Zae fn324 rfl (by simp[c324,rdBox,a1,rowI]),by simp⟩
 ·exact⟨[4,4,4],Zae fn324 rfl (by simp[c324,rdBox,a1,rowI]),by simp⟩
 ·exact⟨[0,5],Zae fn324 rfl (by simp[c324,rdBox,a1,rowI]),by simp⟩
 ·omega
structure Event.tame(e:Event):Prop where
 kind:1<=e.kind/\e.kind<=7
 a:0<=e.a/\e.a<=13
 b:0<=e.b/\e.b<=1
 nwants:e.wants.length<=4
 wants:∀ w∈e.wants,Want.tame w
 rates:e.rates.length<=3
theorem law325(bs:List Int)(p:Int)(cs:List AV)(hb:Code bs)(h0:0<=p)(hp:p<=900000000):Ends (F 325 [.ptr 0 0 0,.agg cs] [rdBox bs p]) (Drew bs p 40 fun x=>∃ e:Event,x=.agg (e.c .own)/\e.tame):=by
 refine Zce fn325 rfl ?_
 obtain⟨a1,a2,a3⟩:=law89 bs p 40 hb h0 (by omega) (by omega)
 obtain⟨b1,b2,b3⟩:=law89 bs (p+1) 14 hb (by omega) (by omega) (by omega)
 obtain⟨c1,c2,c3⟩:=law89 bs (p+2) 2 hb (by omega) (by omega) (by omega)
 obtain⟨d1,d2,d3⟩:=law89 bs (p+3) 3 hb (by omega) (by omega) (by omega)
 obtain⟨e1,e2,e3⟩:=law89 bs (p+4) 2 hb (by omega) (by omega) (by omega)
 obtain⟨rs,f1,f2⟩:=law324 bs (p+3) hb (by omega) (by omega)
 obtain⟨_,g1,x,q,rfl,g2,g3,ws,rfl,g4,g5⟩:=law145 bs (p+4) hb (by omega) (by omega)
 have b4:=b3 (by omega)
 have d4:=d3 (by omega)
 have e4:=e3 (by omega)
 rw[show p+1+1=p+2 by omega]at b1
 rw[show p+2+1=p+3 by omega]at c1
 rw[show p+3+1=p+4 by omega]at d1 f1
 rw[show p+4+1=p+5 by omega]at e1
 have ei:(fun n:Int=>[AV.int .i64 n])=rowI:=rfl
 simp only[rdBox]at a1 b1 c1 d1 e1 f1 g1
 have hQ:∀ (p':Int) (e:Event),p<=p'->p'<=p+40->e.tame->Drew bs p 40 (fun x=>∃ e:Event,x=.agg (e.c .own)/\e.tame) (.agg (e.c .own),[some (rdBox bs p')]):=fun p' e h1 h2 h3=>⟨_,p',rfl,h1,h2,e,rfl,h3⟩
 obtain⟨K,hK⟩:∃ K,pickV bs p 40=K:=⟨_,rfl⟩
 obtain⟨A,hA⟩:∃ A,(if pickV bs (p+2) 2=0 then 0 else pickV bs (p+1) 14)=A:=⟨_,rfl⟩
 have hA0:0<=A/\A<=13:=by split at hA<;>omega
 rw[hK]at a1
 by_cases z:pickV bs (p+2) 2=0
 ·rw[Xr z]at hA
  subst hA
  by_cases k1:K<14
  ·have k:=hQ (p+4) ⟨1,0,0,[],rs⟩ (by omega) (by omega) ⟨by simp,by simp,by simp,by simp,by simp,f2⟩
   simp only[rdBox,Event.c,Xt,ei]at k
   simp[c325,rdBox,Wld.c,a1,b1,c1,f1,z,k1]
   exact k
  by_cases k2:K<27
  ·have k:=hQ (p+3) ⟨2,0,0,[],[]⟩ (by omega) (by omega) ⟨by simp,hA0,by simp,by simp,by simp,by simp⟩
   simp only[rdBox,Event.c,Xt]at k
   simp[c325,rdBox,Wld.c,a1,b1,c1,z,k1,k2]
   exact k
  by_cases k3:K<29
  ·have k:=hQ (p+3) ⟨3,0,0,[],[]⟩ (by omega) (by omega) ⟨by simp,hA0,by simp,by simp,by simp,by simp⟩
   simp only[rdBox,Event.c,Xt]at k
   simp[c325,rdBox,Wld.c,a1,b1,c1,z,k1,k2,k3]
   exact k
  by_cases k4:K<31
  ·have k:=hQ (p+3) ⟨4,0,0,[],[]⟩ (by omega) (by omega) ⟨by simp,hA0,by simp,by simp,by simp,by simp⟩
   simp only[rdBox,Event.c,Xt]at k
   simp[c325,rdBox,Wld.c,a1,b1,c1,z,k1,k2,k3,k4]
   exact k
  by_cases k5:K=31
  ·have k:=hQ (p+5) ⟨5,pickV bs (p+3) 3,pickV bs (p+4) 2,[],[]⟩ (by omega) (by omega) ⟨by simp,by simp only;omega,by simp only;omega,by simp,by simp,by simp⟩
   simp only[rdBox,Event.c,Xt]at k
   simp[c325,rdBox,Wld.c,a1,b1,c1,d1,e1,z,k1,k2,k3,k4,k5]
   exact k
  by_cases k6:K<35
  ·have k:=hQ (p+4) ⟨6,pickV bs (p+3) 3,0,[],[]⟩ (by omega) (by omega) ⟨by simp,by simp only;omega,by simp,by simp,by simp,by simp⟩
   simp only[rdBox,Event.c,Xt]at k
   simp[c325,rdBox,Wld.c,a1,b1,c1,d1,z,k1,k2,k3,k4,k5,k6]
   exact k
  by_cases k7:K=35
  ·have k:=hQ (p+4) ⟨7,pickV bs (p+3) 3,0,[],[]⟩ (by omega) (by omega) ⟨by simp,by simp only;omega,by simp,by simp,by simp,by simp⟩
   simp only[rdBox,Event.c,Xt]at k
   simp[c325,rdBox,Wld.c,a1,b1,c1,d1,z,k1,k2,k3,k4,k5,k6,k7]
   exact k
  have k:=hQ q ⟨7,pickV bs (p+3) 3,0,ws,[]⟩ (by omega) (by omega) ⟨by simp,by simp only;omega,by simp,g4,g5,by simp⟩
  simp only[rdBox,Event.c,Xt]at k
  simp[c325,rdBox,Wld.c,a1,b1,c1,d1,g1,z,k1,k2,k3,k4,k5,k6,k7]
  exact k
 ·rw[Xu z]at hA
  by_cases k1:K<14
  ·have k:=hQ (p+4) ⟨1,0,0,[],rs⟩ (by omega) (by omega) ⟨by simp,by simp,by simp,by simp,by simp,f2⟩
   simp only[rdBox,Event.c,Xt,ei]at k
   simp[c325,rdBox,Wld.c,a1,b1,c1,f1,z,k1]
   exact k
  by_cases k2:K<27
  ·have k:=hQ (p+3) ⟨2,A,0,[],[]⟩ (by omega) (by omega) ⟨by simp,hA0,by simp,by simp,by simp,by simp⟩
   simp only[rdBox,Event.c,Xt]at k
   simp[c325,rdBox,Wld.c,a1,b1,c1,z,k1,k2,hA]
   exact k
  by_cases k3:K<29
  ·have k:=hQ (p+3) ⟨3,A,0,[],[]⟩ (by omega) (by omega) ⟨by simp,hA0,by simp,by simp,by simp,by simp⟩
   simp only[rdBox,Event.c,Xt]at k
   simp[c325,rdBox,Wld.c,a1,b1,c1,z,k1,k2,k3,hA]
   exact k
  by_cases k4:K<31
  ·have k:=hQ (p+3) ⟨4,A,0,[],[]⟩ (by omega) (by omega) ⟨by simp,hA0,by simp,by simp,by simp,by simp⟩
   simp only[rdBox,Event.c,Xt]at k
   simp[c325,rdBox,Wld.c,a1,b1,c1,z,k1,k2,k3,k4,hA]
   exact k
  by_cases k5:K=31
  ·have k:=hQ (p+5) ⟨5,pickV bs (p+3) 3,pickV bs (p+4) 2,[],[]⟩ (by omega) (by omega) ⟨by simp,by simp only;omega,by simp only;omega,by simp,by simp,by simp⟩
   simp only[rdBox,Event.c,Xt]at k
   simp[c325,rdBox,Wld.c,a1,b1,c1,d1,e1,z,k1,k2,k3,k4,k5]
   exact k
  by_cases k6:K<35
  ·have k:=hQ (p+4) ⟨6,pickV bs (p+3) 3,0,[],[]⟩ (by omega) (by omega) ⟨by simp,by simp only;omega,by simp,by simp,by simp,by simp⟩
   simp only[rdBox,Event.c,Xt]at k
   simp[c325,rdBox,Wld.c,a1,b1,c1,d1,z,k1,k2,k3,k4,k5,k6]
   exact k
  by_cases k7:K=35
  ·have k:=hQ (p+4) ⟨7,pickV bs (p+3) 3,0,[],[]⟩ (by omega) (by omega) ⟨by simp,by simp only;omega,by simp,by simp,by simp,by simp⟩
   simp only[rdBox,Event.c,Xt]at k
   simp[c325,rdBox,Wld.c,a1,b1,c1,d1,z,k1,k2,k3,k4,k5,k6,k7]
   exact k
  have k:=hQ q ⟨7,pickV bs (p+3) 3,0,ws,[]⟩ (by omega) (by omega) ⟨by simp,by simp only;omega,by simp,g4,g5,by simp⟩
  simp only[rdBox,Event.c,Xt]at k
  simp[c325,rdBox,Wld.c,a1,b1,c1,d1,g1,z,k1,k2,k3,k4,k5,k6,k7]
  exact k
theorem Zee(a:Int)(n:Nat):(atE a n=false/\inR a 0 ((n:Int)-1)=false)\/(atE a n=true/\inR a 0 ((n:Int)-1)=true/\∃ k:Nat,a=k/\k<n):=by
 unfold atE inR
 by_cases h:0<=a/\a<n
 ·exact .inr ⟨by simp;omega,by simp;omega,a.toNat,by omega,by omega⟩
 ·refine .inl ⟨?_,?_⟩
  ·simp only[Xcc,Xa6];omega
  ·simp only[Xcc,Xa6];omega
theorem law227(w:Wld)(e:Event)(h:WIs w)(he:e.wants.length<=1048576):Ends (F 227 [.agg (w.refs 0),.agg (e.c .bor)] w.arrs) (Res4 (doW w e)):=by
 refine Zce fn227 rfl ?_
 have hf:=h.fl
 have h4:=h.four
 have h1:=h.one
 have u1:IntKind.i64.wrap ((w.flight.length:Int)-1)=(w.flight.length:Int)-1:=i64w (by omega) (by omega)
 have u2:IntKind.i64.wrap ((w.mates.length:Int)-1)=(w.mates.length:Int)-1:=i64w (by omega) (by omega)
 have ee:(fun s:T=>[AV.str s])=rowT:=rfl
 have ei:(fun n:Int=>[AV.int .i64 n])=rowI:=rfl
 have c1:=Zee e.a w.flight.length
 have c2:=Zee e.a w.mates.length
 unfold doW
 by_cases k1:e.kind=1
 ·have w229:=law229 w e.rates h.fit
  rw[Xr k1]
  generalize tickW w e.rates=x at *
  simp only[Wld.refs,Wld.arrs,wgone2]at w229
  simp[c227,Wld.refs,Wld.arrs,u1,u2,ee,ei,k1,w229,AO.isArr]
  exact⟨some (w.land.grants.map Grant.c,w.land.places.map (Place.c .own)),none,by simp[ee,outs4]⟩
 rw[Xu k1]
 have same:Res4 w (.agg [.int .i64 w.land.time,.sl .own 5 (w.land.grants.map Grant.c),.sl .own 3 (w.land.places.map (Place.c .own)),.sl .own 9 (w.mates.map (Mate.c .own)),.sl .own 1 (w.flight.map rowT)],[none,none,none,none]):=⟨none,none,by simp[ee,outs4]⟩
 by_cases k2:e.kind=2
 ·rw[Xr k2]
  rcases c1 with ⟨a1,a2⟩|⟨a1,a2,k,a3,a4⟩
  ·rw[Xu (by simp[a1])]
   simp[c227,Wld.refs,Wld.arrs,u1,u2,ee,ei,k1,k2,a2,AO.isArr]
   exact same
  ·rw[Xr a1,a3,Xbh]
   rw[a3]at a2
   obtain⟨_,w228,y,z,rfl⟩:=law228 w k h a4
   generalize bringW w k=x at *
   simp only[Wld.refs,Wld.arrs]at w228
   have key:Res4 x (.agg (x.c .own .own),outs4 y z):=⟨y,z,rfl⟩
   rcases y with _|⟨y1,y2⟩<;>rcases z with _|z1<;>simp only[outs4,Xbu,Xw]at w228 key<;>simp[c227,Wld.refs,Wld.arrs,u1,u2,ee,ei,k1,k2,a2,a3,w228,AO.isArr]<;>simpa [ee] using key
 rw[Xu k2]
 by_cases k3:e.kind=3
 ·rw[Xr k3]
  rcases c1 with ⟨a1,a2⟩|⟨a1,a2,k,a3,a4⟩
  ·rw[Xu (by simp[a1])]
   simp[c227,Wld.refs,Wld.arrs,u1,u2,ee,ei,k1,k2,k3,a2,AO.isArr]
   exact same
  ·rw[Xr a1,a3,Xbh]
   rw[a3]at a2
   obtain⟨s,hs⟩:∃ s,w.flight[k]=s:=⟨_,rfl⟩
   have hsk:w.flight[k]?=some s:=by rw[<- hs];exact Xd a4
   have hkI:(k:Int)<w.flight.length:=by omega
   unfold doubleW
   rw[hsk]
   by_cases l3:w.flight.length<300
   ·have l3I:(w.flight.length:Int)<300:=by omega
    have rp:rowsPlain [[AV.str s]]=true:=rfl
    have q1:(w.flight.length+1)*16<=140737488355328:=by omega
    have q2:w.flight.length+1<=140737488355328:=by omega
    simp[c227,Wld.refs,Wld.arrs,u1,u2,ee,ei,k1,k2,k3,a2,a3,a4,hkI,hs,l3,l3I,rp,q1,q2,takeRows,rowT,AO.isArr]
    exact⟨none,none,by simp[outs4,rowT]⟩
   ·have l3I:¬ (w.flight.length:Int)<300:=by omega
    simp[c227,Wld.refs,Wld.arrs,u1,u2,ee,ei,k1,k2,k3,a2,a3,l3,l3I,AO.isArr]
    exact same
 rw[Xu k3]
 by_cases k4:e.kind=4
 ·rw[Xr k4]
  rcases c1 with ⟨a1,a2⟩|⟨a1,a2,k,a3,a4⟩
  ·rw[Xu (by simp[a1])]
   simp[c227,Wld.refs,Wld.arrs,u1,u2,ee,ei,k1,k2,k3,k4,a2,AO.isArr]
   exact same
  ·rw[Xr a1,a3,Xbh]
   rw[a3]at a2
   have w232:=law232 w.flight k a4 (by omega)
   generalize outT w.flight k=fl at *
   simp[c227,Wld.refs,Wld.arrs,u1,u2,ee,ei,k1,k2,k3,k4,a2,a3,w232,AO.isArr]
   exact⟨none,some (w.flight.map rowT),by simp[outs4,ee]⟩
 rw[Xu k4]
 have mset:∀ (k:Nat) (m':Mate),Res4 { w with mates:=w.mates.set k m' } (.agg [.int .i64 w.land.time,.sl .own 5 (w.land.grants.map Grant.c),.sl .own 3 (w.land.places.map (Place.c .own)),.sl .own 9 ((w.mates.map (Mate.c .own)).set k (m'.c .own)),.sl .own 1 (w.flight.map rowT)],[none,none,none,none]):=fun k m'=>⟨none,none,by simp[outs4,ee,Xa3]⟩
 simp only[Mate.c]at mset
 by_cases k5:e.kind=5
 ·rw[Xr k5]
  rcases c2 with ⟨a1,a2⟩|⟨a1,a2,k,a3,a4⟩
  ·rw[Xu (by simp[a1])]
   simp[c227,Wld.refs,Wld.arrs,u1,u2,ee,ei,k1,k2,k3,k4,k5,a2,AO.isArr]
   exact same
  ·rw[Xr a1,a3,Xbh]
   rw[a3]at a2
   obtain⟨m,hg⟩:∃ m,w.mates[k]=m:=⟨_,rfl⟩
   have hmk:w.mates[k]?=some m:=by rw[<- hg];exact Xd a4
   have hkI:(k:Int)<w.mates.length:=by omega
   have hsm:=(h.drawn m (Xe hmk)).small
   simp only[mateW,hmk]
   have w32:=law32 m (e.b != 0) hsm
   have hm1:=mset k (mateFall m (e.b != 0))
   generalize mateFall m (e.b != 0)=m' at *
   simp only[Mate.c]at w32
   simp[c227,Wld.refs,Wld.arrs,u1,u2,ee,ei,k1,k2,k3,k4,k5,a2,a3,a4,hkI,hg,w32,AO.isArr]
   exact hm1
 rw[Xu k5]
 by_cases k6:e.kind=6
 ·rw[Xr k6]
  rcases c2 with ⟨a1,a2⟩|⟨a1,a2,k,a3,a4⟩
  ·rw[Xu (by simp[a1])]
   simp[c227,Wld.refs,Wld.arrs,u1,u2,ee,ei,k1,k2,k3,k4,k5,k6,a2,AO.isArr]
   exact same
  ·rw[Xr a1,a3,Xbh]
   rw[a3]at a2
   obtain⟨m,hg⟩:∃ m,w.mates[k]=m:=⟨_,rfl⟩
   have hmk:w.mates[k]?=some m:=by rw[<- hg];exact Xd a4
   have hkI:(k:Int)<w.mates.length:=by omega
   have hsm:=(h.drawn m (Xe hmk)).small
   simp only[mateW,hmk]
   have w34:=law34 m hsm
   have hm1:=mset k (mateRise m)
   generalize mateRise m=m' at *
   simp only[Mate.c]at w34
   simp[c227,Wld.refs,Wld.arrs,u1,u2,ee,ei,k1,k2,k3,k4,k5,k6,a2,a3,a4,hkI,hg,w34,AO.isArr]
   exact hm1
 rw[Xu k6]
 by_cases k7:e.kind=7
 ·rw[Xr k7]
  rcases c2 with ⟨a1,a2⟩|⟨a1,a2,k,a3,a4⟩
  ·rw[Xu (by simp[a1])]
   simp[c227,Wld.refs,Wld.arrs,u1,u2,ee,ei,k1,k2,k3,k4,k5,k6,k7,a2,AO.isArr]
   exact same
  ·rw[Xr a1,a3,Xbh]
   rw[a3]at a2
   obtain⟨m,hg⟩:∃ m,w.mates[k]=m:=⟨_,rfl⟩
   have hmk:w.mates[k]?=some m:=by rw[<- hg];exact Xd a4
   have hkI:(k:Int)<w.mates.length:=by omega
   have hsm:=(h.drawn m (Xe hmk)).small
   simp only[putW,hmk]
   have w72:=law72 w.land .own m.name e.wants h.lsmall he
   generalize matePut w.land m.name e.wants=R at *
   obtain⟨l,c⟩:=R
   simp only[Land.c]at w72
   by_cases hc:c=0
   ·subst hc
    simp[c227,Wld.refs,Wld.arrs,u1,u2,ee,ei,k1,k2,k3,k4,k5,k6,k7,a2,a3,a4,hkI,hg,w72,AO.isArr]
    exact⟨some (w.land.grants.map Grant.c,w.land.places.map (Place.c .own)),none,by simp[ee,outs4]⟩
   ·simp[c227,Wld.refs,Wld.arrs,u1,u2,ee,ei,k1,k2,k3,k4,k5,k6,k7,a2,a3,a4,hkI,hg,w72,hc,AO.isArr]
    exact same
 rw[Xu k7]
 simp[c227,Wld.refs,Wld.arrs,u1,u2,ee,ei,k1,k2,k3,k4,k5,k6,k7,AO.isArr]
 exact same
def Wld.zero:Wld:=⟨.zero,[],[]⟩
def mate0(n:T):Mate:=⟨n,true,0,false,0,[],[],[],[]⟩
def ascT(pre:List T)(n:T):Bool :=
 match pre.getLast? with
 | none=>true
 | some p=>sLt p n
def namesGo(pre:List T):List T->Bool
 | []=>true
 | n::r=>isName n && (ascT pre n && namesGo (pre++[n]) r)
def namesOk(l:List T):Bool:=decide (1<=l.length) && (decide (l.length<=4) && namesGo [] l)
def world0(l:List T):Wld:=⟨.zero,l.map mate0,[]⟩
def newWorld(l:List T):Wld:=if namesOk l then world0 l else .zero
theorem Zl8(n:T):mateValid (mate0 n)=isName n:=by
 simp[mateValid,mateParts,mate0,inR,wantsOk,wantsGo,runsOk,runsGo,asksOk,asksGo,apartGo]
theorem Zqr(pre:List T)(n:T):ascM (pre.map mate0) (mate0 n)=ascT pre n:=by
 unfold ascM ascT
 rw[List.getLast?_map]
 cases pre.getLast?<;>rfl
theorem Zhk:∀ (r pre:List T),matesGo (pre.map mate0) (r.map mate0)=namesGo pre r
 | [],pre=>rfl
 | n::r,pre=>by
  simp only[Xx,matesGo,namesGo,Zl8,Zqr]
  have:=Zhk r (pre++[n])
  rw[Xb8]at this
  simp only[Xx,Xt]at this
  rw[this]
theorem Zqf(l:List T):worldOk (world0 l)=namesOk l:=by
 have:=Zhk l []
 simp only[Xt]at this
 simp[worldOk,world0,namesOk,landOk,Land.zero,inR,grantsGo,placesGo,this]
def zeroV:List AV:=[.int .i64 0,.sl .own 5 [],.sl .own 3 [],.sl .own 9 [],.sl .own 1 []]
def head54(l:List T)(i:Nat)(acc:List T):St :=
 hd [(0,.sl .bor 1 (l.map fun s=>[.str s])),(2,.ptr 0 0 0),(3,.ptr 1 0 0),(4,.int .i64 i)]
  (.box zeroV::.box [.int .i64 0,.sl .own 5 [],.sl .own 3 [],ownVi 2 9 (acc.map fun n=>(mate0 n).c .own),.sl .own 1 []]::ownH 9 (acc.map fun n=>(mate0 n).c .own)) 0
theorem Zl7(n:T):(mate0 n).small:=⟨by simp[mate0],by simp[mate0],by simp[mate0],by simp[mate0]⟩
theorem Zle{l:List T}(hl:l.length<=1048576):(world0 l).small:=by
 refine⟨⟨by simp[world0,Land.zero],by simp[world0,Land.zero],by simp[world0,Land.zero]⟩,by simpa [world0] using hl,fun m hm=>?_,by simp[world0]⟩
 obtain⟨n,_,rfl⟩:=Xap.1 hm
 exact Zl7 n
theorem law54(l:List T)(hl:l.length<=1048576):F 54 [.sl .bor 1 (l.map fun s=>[.str s])] []=some (.agg ((newWorld l).c .own .own),[]):=by
 refine Zae fn54 rfl ?_
 have w1:=law58 (world0 l) .own (Zle hl)
 rw[Zqf]at w1
 have hcm:(Mate.c .own ∘ mate0)=fun n=>[.str n,.bool true,.int .i64 0,.bool false,.int .i64 0,.sl .own 7 [],.sl .own 11 [],.sl .own 4 [],.sl .own 4 []]:=rfl
 unfold newWorld
 simp[world0,Land.zero,hcm]at w1
 simp[c54]
 refine (Zaa l (fun i (acc:List T)=>head54 l i acc) (fun i acc=>acc=l.take i) (fun i r acc=>(.agg ((if namesOk l then world0 l else .zero).c .own .own),[])) (fun acc Y hacc=>?_) (fun i a r acc Y ha hi hr hacc hY=>?_) [] ?_ rfl ?_).trans ?_
 ·rw[Xbg]at hacc
  subst hacc
  cases hok:namesOk acc
  ·rw[hok]at w1
   rcases acc with _|⟨x,acc⟩
   ·simp[mate0,hcm]at w1
    simp[head54,c54b0,zeroV,w1,Wld.zero,Land.zero]
   ·simp[mate0,hcm]at w1
    simp[head54,c54b0,zeroV,w1,mate0,Wld.zero,Land.zero]
  ·rw[hok]at w1
   rcases acc with _|⟨x,acc⟩
   ·simp[namesOk]at hok
   ·simp[mate0,hcm]at w1
    simp[head54,c54b0,zeroV,w1,mate0,world0,Land.zero]
 ·have hw1:IntKind.i64.wrap ((i:Int)+1)=(i:Int)+1:=i64w (by omega) (by omega)
  obtain⟨_,hg⟩:=Xa.1 ha
  have hs:=Zas ha
  have hln:acc.length=i:=by rw[hacc];simp;omega
  have hb3:(acc.length+1)*144<=140737488355328:=by omega
  have hb4:acc.length+1<=140737488355328:=by omega
  have hY':=fun s' h=>hY (acc++[a]) s' (by rw[hacc,hs]) h
  rcases acc with _|⟨x,acc⟩
  ·simp[head54,c54b0,zeroV,hg,hi]
   exact (hY' _ (by simp[head54,hw1,zeroV,mate0])).trans (by simp)
  ·simp at hb3 hb4
   simp[head54,c54b0,zeroV,hg,hi,takeRows,hb3,hb4]
   exact (hY' _ (by simp[head54,hw1,zeroV,mate0])).trans (by simp)
 ·simp[head54,zeroV]
 ·unfold big;omega
 ·simp
def passN:Nat->Wld->Wld
 | 0,w=>w
 | n+1,w=>passN n (bringsW w.flight.length w)
theorem Zi6(w:Wld)(rates:List Int):roundW w rates=passN 2 (tickW w rates):=rfl
theorem Zi8:∀ (ps:List Parcel) (fl:List T),fl.length<=(ps.foldl sendF fl).length
 | [],_=>Xo _
 | p::ps,fl=>by
  refine Xac ?_ (Zi8 ps _)
  unfold sendF
  split
  ·simp
  ·exact Xo _
theorem Zox(w:Wld)(k:Nat)(hk:k<w.flight.length):w.flight.length-1<=(bringW w k).flight.length:=by
 have hout:(outT w.flight k).length=w.flight.length-1:=by
  simp only[outT,Xs,Xbj,Xb3];omega
 unfold bringW
 split
 ·omega
 ·split
  ·split
   ·simp only[hout];exact Xo _
   ·refine Xac (Nat.le_of_eq hout.symm) (Zi8 _ _)
  ·simp only[hout];exact Xo _
def heapW(l0:Land)(w:Wld):Nat->Option AO :=
 upd (upd (upd (upd (upd (upd (upd (upd (upd (upd (fun _=>none) 9 (some (.arr 1 (w.flight.map rowT)))) 8 (some (.arr 9 (w.mates.map (Mate.c .own))))) 7 (some (.arr 3 (w.land.places.map (Place.c .own))))) 6 (some (.arr 5 (w.land.grants.map Grant.c)))) 5 (some (.box zeroW))) 4 (some (.box (w.refs 6)))) 3 none) 2 none) 1 (some (.arr 3 (l0.places.map (Place.c .own))))) 0 (some (.arr 5 (l0.grants.map Grant.c)))
def head217a(l0:Land)(w:Wld)(j:Nat):St:={ hd [(2,.ptr 4 0 0),(4,.ptr 5 0 0),(5,.int .i64 j)] [] 4 with heap:=heapW l0 w,next:=10 }
def head217b(l0:Land)(w:Wld)(j n:Nat):St:={ hd [(2,.ptr 4 0 0),(4,.ptr 5 0 0),(5,.int .i64 j),(6,.int .i64 n)] [] 4 with heap:=heapW l0 w,next:=10 }
theorem law217(w:Wld)(rates:List Int)(h:WIs w):Ends (F 217 [.agg (w.refs 0),.sl .bor 1 (rates.map rowI)] w.arrs) (Res4 (roundW w rates)):=by
 refine Zce fn217 rfl ?_
 have w229:=law229 w rates h.fit
 have ht:=h.tick rates
 have ee:(fun s:T=>[AV.str s])=rowT:=rfl
 rw[Zi6]
 generalize tickW w rates=x at *
 obtain⟨TT,hTT⟩:∃ TT,passN 2 x=TT:=⟨_,rfl⟩
 rw[hTT]
 obtain⟨l0,ms0,fl0⟩:=w
 simp only[Wld.refs,Wld.arrs,wgone2]at w229
 simp[c217,Wld.refs,Wld.arrs,w229,AO.isArr]
 refine Za8 (σ:=Nat×Wld) (fun z=>head217a l0 z.2 z.1) (fun z=>z.1<=2/\WIs z.2/\passN (2-z.1) z.2=TT) (fun z=>2-z.1) (fun z Y hinv hY=>?_) (0,x) ?_ ⟨by simp,ht,hTT⟩ (by unfold big;simp only;omega)
 ·obtain⟨j,v⟩:=z
  obtain⟨g1,g2,g3⟩:=hinv
  simp only at g1 g2 g3 hY ⊢
  have hw1:IntKind.i64.wrap ((j:Int)+1)=(j:Int)+1:=i64w (by omega) (by omega)
  by_cases hj:j<2
  ·have hjI:(j:Int)<2:=by omega
   obtain⟨V,hV⟩:∃ V,bringsW v.flight.length v=V:=⟨_,rfl⟩
   have g4:passN (2-(j+1)) V=TT:=by
    rw[show 2-j=(2-(j+1))+1 by omega]at g3
    rw[<- hV];exact g3
   have gV:WIs V:=by rw[<- hV];exact g2.brings _
   have hfl:=g2.fl
   simp[head217a,heapW,Wld.refs,c217b1,hjI]
   refine Za8 (σ:=Nat×Wld) (fun z=>head217b l0 z.2 j z.1) (fun z=>z.1<=z.2.flight.length/\WIs z.2/\bringsW z.1 z.2=V/\z.1<=1000) (fun z=>z.1) (fun z Y2 hinv2 hY2=>?_) (v.flight.length,v) ?_ ⟨Xo _,g2,hV,by simp only;omega⟩ (by unfold big;simp only;omega)
   ·obtain⟨n,u⟩:=z
    obtain⟨i1,i2,i3,i4⟩:=hinv2
    simp only at i1 i2 i3 i4 hY2 ⊢
    rcases n with _|n
    ·have e3:u=V:=i3
     subst e3
     simp[head217b,heapW,Wld.refs,c217b0,hw1]
     refine hY (j+1,u) _ ⟨by simp only;omega,gV,g4⟩ (by simp only;omega) ?_
     simp[head217a,heapW,Wld.refs,zeroW,List.range,List.range.loop]
    ·have hw2:IntKind.i64.wrap (((n+1:Nat):Int)-1)=(n:Int):=by rw[i64w (by omega) (by omega)];omega
     have hw3:IntKind.i64.wrap (n:Int)=(n:Int):=i64w (by omega) (by omega)
     have hpos:(0:Int)<((n+1:Nat):Int):=by omega
     obtain⟨_,w228,y,z,rfl⟩:=law228 u 0 i2 (by omega)
     have hbl:=Zox u 0 (by omega)
     have hbi:=i2.bring 0
     have hn:∀ st,st.norm [2,4,5,6]=head217b l0 (bringW u 0) j n->Ends (fin [.cell 4 5 true] 4 (Y2 st)) (Res4 TT):=fun st hst=>hY2 (n,bringW u 0) st ⟨by simp only;omega,hbi,i3,by simp only;omega⟩ (by simp only;omega) hst
     generalize bringW u 0=u' at *
     simp only[Wld.refs,Wld.arrs]at w228
     push_cast at hw2 hpos w228
     rcases y with _|⟨y1,y2⟩<;>rcases z with _|z1<;>simp only[outs4,Xbu,Xw]at w228<;>simp[head217b,heapW,Wld.refs,c217b0,hpos,hw2,w228,AO.isArr]<;>refine hn _ ?_<;>simp[head217b,heapW,Wld.refs,zeroW,ee,hw3,List.range,List.range.loop]
   ·simp[head217b,heapW,Wld.refs,zeroW,List.range,List.range.loop]
  ·obtain rfl:j=2:=by omega
   have e3:v=TT:=g3
   subst e3
   simp[head217a,heapW,Wld.refs,c217b1,zeroW,List.range,List.range.loop]
   exact⟨some (l0.grants.map Grant.c,l0.places.map (Place.c .own)),none,by simp[ee,outs4]⟩
 ·simp[head217a,heapW,Wld.refs,zeroW,ee,List.range,List.range.loop]
def mateDo(w:Wld)(e:Event):Wld:=if worldOk w then doW w e else .zero
def mateCalm(w:Wld)(n:Int)(rates:List Int):Wld:=if worldOk w then roundsW rates (min n.toNat 1000) w else .zero
theorem law215c(w:Wld)(ml mm:Md)(e:Event)(hs:w.small)(hf:w.flight.length<=1000)(h:worldOk w=true->WIs w)(he:e.wants.length<=1048576):F 215 [.agg (w.cc .bor ml mm),.agg (e.c .bor)] []=some (.agg ((mateDo w e).c .own .own),[]):=by
 refine Zae fn215 rfl ?_
 have w58:=law58c w ml mm hs
 have ee:(fun s:T=>[AV.str s])=rowT:=rfl
 have ei:(fun n:Int=>[AV.int .i64 n])=rowI:=rfl
 simp only[Wld.cc,Wld.c,ee]at w58
 unfold mateDo
 cases q:worldOk w
 ·rw[q]at w58
  simp[c215,w58,Wld.zero,Land.zero,ee,ei]
 ·rw[q]at w58
  have hi:=h q
  obtain⟨_,w227,y,z,rfl⟩:=law227 w e hi he
  have hd:=hi.do' e
  simp only[Xag]
  have w216:=law216c w ml mm hs hf
  generalize doW w e=v at *
  have w216b:=law216 v .own hd.small (by have:=hd.fl;omega)
  simp only[Wld.refs,Wld.arrs,Wld.cc,Wld.c,Event.c,ee,ei]at w227 w216 w216b
  rcases y with _|⟨y1,y2⟩<;>rcases z with _|z1<;>simp only[outs4,Xbu,Xw]at w227<;>simp[c215,w58,w216,w227,w216b,AO.isArr,ee,ei]
def head197(rates:List Int)(n:Int)(v:Wld)(i:Nat):St :=
 hd [(1,.int .i64 n),(2,.sl .bor 1 (rates.map rowI)),(6,.ptr 0 0 0),(7,.ptr 1 0 0),(8,.int .i64 i)] ([.box zeroW,.box (v.refs 2)]++v.arrs) 0
theorem law197c(w:Wld)(ml mm:Md)(n:Int)(rates:List Int)(hs:w.small)(hf:w.flight.length<=1000)(h:worldOk w=true->WIs w):F 197 [.agg (w.cc .bor ml mm),.int .i64 n,.sl .bor 1 (rates.map rowI)] []=some (.agg ((mateCalm w n rates).c .own .own),[]):=by
 refine Zae fn197 rfl ?_
 have w58:=law58c w ml mm hs
 have ee:(fun s:T=>[AV.str s])=rowT:=rfl
 simp only[Wld.cc,Wld.c,ee]at w58
 unfold mateCalm
 cases q:worldOk w
 ·rw[q]at w58
  simp[c197,w58,Wld.zero,Land.zero,ee]
 ·rw[q]at w58
  have hi:=h q
  have w216:=law216c w ml mm hs hf
  simp only[Wld.cc,Wld.c,ee]at w216
  obtain⟨TT,hTT⟩:∃ TT,roundsW rates (min n.toNat 1000) w=TT:=⟨_,rfl⟩
  simp only[Xag,hTT]
  simp[c197,w58,w216,AO.isArr,ee]
  refine (Zaz (σ:=Nat×Wld) (fun z=>head197 rates n z.2 z.1) (fun z=>z.1<=min n.toNat 1000/\WIs z.2/\roundsW rates (min n.toNat 1000-z.1) z.2=TT) (fun z=>1000-z.1) (fun _=>(AV.agg (TT.c .own .own),([]:List (Option AO)))) (fun z Y hinv hY=>?_) (0,w) ?_ ⟨Xp _,hi,hTT⟩ (by unfold big;simp only;omega)).trans ?_
  ·obtain⟨i,v⟩:=z
   obtain⟨g1,g2,g3⟩:=hinv
   simp only at g1 g2 g3 hY ⊢
   by_cases hlt:i<min n.toNat 1000
   ·have hw1:IntKind.i64.wrap ((i:Int)+1)=(i:Int)+1:=i64w (by omega) (by omega)
    have l1:(i:Int)<n:=by omega
    have l2:(i:Int)<1000:=by omega
    obtain⟨_,w217,y,z,rfl⟩:=law217 v rates g2
    have gr:=g2.round rates
    rw[show min n.toNat 1000-i=(min n.toNat 1000-(i+1))+1 by omega]at g3
    have hn:∀ st,st.norm [1,2,6,7,8]=head197 rates n (roundW v rates) (i+1)->fin [.cell 6 5 true] 0 (Y st)=some (.agg (TT.c .own .own),[]):=fun st hst=>hY (i+1,roundW v rates) st ⟨by simp only;omega,gr,g3⟩ (by simp only;omega) hst
    generalize roundW v rates=v' at *
    simp only[Wld.refs,Wld.arrs]at w217
    rcases y with _|⟨y1,y2⟩<;>rcases z with _|z1<;>simp only[outs4,Xbu,Xw]at w217<;>simp[head197,Wld.refs,Wld.arrs,c197b0,l1,l2,w217,AO.isArr]
    all_goals exact (hn _ (by simp[head197,Wld.refs,Wld.arrs,zeroW,ee,hw1,List.range,List.range.loop])).trans (by simp)
   ·have e0:min n.toNat 1000-i=0:=by omega
    rw[e0]at g3
    have e3:v=TT:=g3
    subst e3
    have w216v:=law216 v .own g2.small (by have:=g2.fl;omega)
    simp only[Wld.cc,Wld.c,ee]at w216v
    by_cases l1:(i:Int)<n
    ·have l2:¬ (i:Int)<1000:=by omega
     simp[head197,Wld.refs,Wld.arrs,c197b0,l1,l2,w216v,zeroW,ee,List.range,List.range.loop]
    ·simp[head197,Wld.refs,Wld.arrs,c197b0,l1,w216v,zeroW,ee,List.range,List.range.loop]
  ·simp[head197,Wld.refs,Wld.arrs,zeroW,ee,List.range,List.range.loop]
  ·simp[ee]
theorem Zps(l:List T)(h:worldOk (newWorld l)=true):WIsN 8 (newWorld l):=by
 obtain⟨h1,⟨h2,h3⟩,h4,h5,h6⟩:=(Zed _).1 h
 have hz:newWorld l=world0 l:=by
  unfold newWorld at h2 ⊢
  split
  ·rfl
  ·rename_i q
   rw[Xu q]at h2
   simp[Wld.zero]at h2
 rw[hz]at h1 h2 h3 h4 h5 h6 ⊢
 refine⟨by decide,h1,h2,h3,h4,h5,h6,fun s hs=>(by simp[world0]at hs),fun m hm=>?_⟩
 obtain⟨n,_,rfl⟩:=Xap.1 hm
 exact Zjx rfl
def head326a(bs:List Int)(q:Int)(v:Wld)(n:Nat):St :=
 hd [(0,.ptr 0 0 0),(2,.ptr 1 0 0),(3,.ptr 2 0 0),(4,.int .i64 n)] ([rdBox bs q,.box zeroW,.box (v.refs 3)]++v.arrs) 1
def head326b(bs:List Int)(q:Int)(v:Wld)(n:Nat)(rs:List Int)(k:Nat):St :=
 hd [(0,.ptr 0 0 0),(2,.ptr 1 0 0),(3,.ptr 2 0 0),(4,.int .i64 n),(5,.ref 3),(6,.int .i64 k)] ([rdBox bs q,.box zeroW,.box (v.refs 4),.arr 1 (rs.map rowI)]++v.arrs) 1
theorem Zta:worldOk (newWorld [⟨#[97]⟩,⟨#[98]⟩])=true:=by kernel_rfl
theorem Ztl:worldOk (newWorld [⟨#[97]⟩])=true:=by kernel_rfl
theorem Zsh:worldOk (newWorld [⟨#[97]⟩,⟨#[98]⟩,⟨#[100]⟩])=true:=by kernel_rfl
set_option maxHeartbeats 0 in
theorem law326(bs:List Int)(p:Int)(hb:Code bs)(h0:0<=p)(hp:p<=800000000):Ends (F 326 [.ptr 0 0 0] [rdBox bs p]) (Drew bs p 4000 fun x=>∃ w:Wld,x=.agg (w.c .own .own)/\WIsN 8 w):=by
 refine Zce fn326 rfl ?_
 obtain⟨a1,a2,a3⟩:=law89 bs p 3 hb h0 (by omega) (by omega)
 have a4:=a3 (by omega)
 obtain⟨b1,b2,b3⟩:=law89 bs (p+1) 50 hb (by omega) (by omega) (by omega)
 have b4:=b3 (by omega)
 obtain⟨k,hk,hk3⟩:=Za1 (n:=3) a2 a4
 obtain⟨n0,hn0,hn50⟩:=Za1 (n:=50) b2 b4
 rw[hk]at a1
 rw[hn0]at b1
 have ee:(fun s:T=>[AV.str s])=rowT:=rfl
 have ei:(fun n:Int=>[AV.int .i64 n])=rowI:=rfl
 simp only[rdBox]at a1 b1
 rw[show p+1+1=p+2 by omega]at b1
 have body:∀ (w:Wld) (s0:St),WIsN 8 w->s0.norm [0,2,3,4]=head326a bs (p+2) w n0->Ends (fin [.cell 2 5 true] 1 (X F [.code (.loop [0,2,3,4] c326b1),.blk 0,.code (jR [xf 42 3 5,xt 43 216 42,xg 2 43 5] [2] .ret)] (.normal,s0))) (Drew bs p 4000 fun x=>∃ w:Wld,x=.agg (w.c .own .own)/\WIsN 8 w):=fun w s0 hw hs0=>by
  refine Za8 (σ:=Nat×Int×Wld) (fun z=>head326a bs z.2.1 z.2.2 z.1) (fun z=>z.1<=n0/\p+2<=z.2.1/\z.2.1<=p+2+60*((n0:Int)-z.1)/\WIsN 8 z.2.2) (fun z=>z.1) (fun z Y hinv hY=>?_) (n0,p+2,w) hs0 ⟨Xo _,by simp only;omega,by simp only;omega,hw⟩ (by unfold big;simp only;omega)
  obtain⟨n,q,v⟩:=z
  obtain⟨g1,g2,g3,g4⟩:=hinv
  simp only at g1 g2 g3 g4 hY ⊢
  rcases n with _|n
  ·have w216:=law216 v .own g4.small (by have:=g4.fl;omega)
   simp only[Wld.c,ee]at w216
   simp[head326a,rdBox,Wld.refs,Wld.arrs,c326b1,w216,zeroW,ee,List.range,List.range.loop]
   exact⟨_,q,rfl,by omega,by omega,v,by simp only[Wld.c,ee],g4⟩
  ·have hnI:(0:Int)<((n+1:Nat):Int):=by omega
   have hw2:IntKind.i64.wrap (((n+1:Nat):Int)-1)=(n:Int):=by rw[i64w (by omega) (by omega)];omega
   obtain⟨_,c1,x,q1,rfl,c2,c3,e,rfl,he⟩:=law325 bs q (v.c .bor .own) hb (by omega) (by omega)
   obtain⟨_,w227,y,z,rfl⟩:=law227 v e (g4.up (by decide) (by decide)) (by have:=he.nwants;omega)
   have gd:=g4.do' e
   obtain⟨d1,d2,d3⟩:=law89 bs q1 6 hb (by omega) (by omega) (by omega)
   obtain⟨rs,e1,e2⟩:=law324 bs (q1+1) hb (by omega) (by omega)
   obtain⟨f1,f2,f3⟩:=law89 bs (q1+2) 8 hb (by omega) (by omega) (by omega)
   have f4:=f3 (by omega)
   obtain⟨k0,hk0,hk8⟩:=Za1 (n:=8) f2 f4
   rw[hk0]at f1
   have hw3:IntKind.i64.wrap (1+(k0:Int))=((k0+1:Nat):Int):=by rw[i64w (by omega) (by omega)];omega
   rw[show q1+1+1=q1+2 by omega]at e1
   rw[show q1+2+1=q1+3 by omega]at f1
   generalize doW v e=v' at *
   have inner:∀ s0:St,s0.norm [0,2,3,4,5,6]=head326b bs (q1+3) v' (n+1) rs (k0+1)->Ends (fin [.cell 2 5 true] 1 (X F [.code (.loop [0,2,3,4,5,6] c326b0),.blk 2,.blk 1,.code (.region [xd 20 4,qn 21 20 1,xd 4 21] [0,2,3,4]),.back Y,.blk 0,.code (jR [xf 42 3 5,xt 43 216 42,xg 2 43 5] [2] .ret)] (.normal,s0))) (Drew bs p 4000 fun x=>∃ w:Wld,x=.agg (w.c .own .own)/\WIsN 8 w):=fun s0 hs0=>by
    refine Za8 (σ:=Nat×Wld) (fun z=>head326b bs (q1+3) z.2 (n+1) rs z.1) (fun z=>z.1<=k0+1/\WIsN 8 z.2) (fun z=>z.1) (fun z Y2 hinv2 hY2=>?_) (k0+1,v') hs0 ⟨Xo _,gd⟩ (by unfold big;simp only;omega)
    obtain⟨k,u⟩:=z
    obtain⟨i1,i2⟩:=hinv2
    simp only at i1 i2 hY2 ⊢
    rcases k with _|k
    ·have hw2':IntKind.i64.wrap (n:Int)=(n:Int):=i64w (by omega) (by omega)
     simp[head326b,rdBox,Wld.refs,Wld.arrs,c326b0]
     refine hY (n,q1+3,u) _ ⟨by omega,by simp only;omega,by simp only;omega,i2⟩ (by simp only;omega) ?_
     simp[head326a,rdBox,Wld.refs,Wld.arrs,zeroW,ee,hw2',List.range,List.range.loop]
    ·have hkI:(0:Int)<(k:Int)+1:=by omega
     have hwk:IntKind.i64.wrap (k:Int)=(k:Int):=i64w (by omega) (by omega)
     obtain⟨_,w217,y',z',rfl⟩:=law217 u rs (i2.up (by decide) (by decide))
     have gr:=i2.round rs
     have hn:∀ st,st.norm [0,2,3,4,5,6]=head326b bs (q1+3) (roundW u rs) (n+1) rs k->Ends (fin [.cell 2 5 true] 1 (Y2 st)) (Drew bs p 4000 fun x=>∃ w:Wld,x=.agg (w.c .own .own)/\WIsN 8 w):=fun st hst=>hY2 (k,roundW u rs) st ⟨by omega,gr⟩ (by simp only;omega) hst
     generalize roundW u rs=u' at *
     simp only[Wld.refs,Wld.arrs]at w217
     rcases y' with _|⟨y1',y2'⟩<;>rcases z' with _|z1'<;>simp only[outs4,Xbu,Xw]at w217<;>simp[head326b,rdBox,Wld.refs,Wld.arrs,c326b0,hkI,w217,AO.isArr]<;>refine hn _ ?_<;>simp[head326b,rdBox,Wld.refs,Wld.arrs,zeroW,ee,hwk,List.range,List.range.loop]
   simp only[rdBox,Wld.c,Event.c,ee,ei]at c1 d1 e1 f1
   simp only[Wld.refs,Wld.arrs,Event.c,ee,ei]at w227
   by_cases k6:pickV bs q1 6=0
   ·rcases y with _|⟨y1,y2⟩<;>rcases z with _|z1<;>simp only[outs4,Xbu,Xw]at w227<;>simp[head326a,rdBox,Wld.refs,Wld.arrs,c326b1,hnI,c1,w227,d1,e1,f1,hw3,k6,AO.isArr,ee,ei]
    all_goals
     refine inner _ ?_
     simp[head326b,rdBox,Wld.refs,Wld.arrs,zeroW,ee,List.range,List.range.loop]
   ·have hw2':IntKind.i64.wrap (n:Int)=(n:Int):=i64w (by omega) (by omega)
    rcases y with _|⟨y1,y2⟩<;>rcases z with _|z1<;>simp only[outs4,Xbu,Xw]at w227<;>simp[head326a,rdBox,Wld.refs,Wld.arrs,c326b1,hnI,c1,w227,d1,k6,AO.isArr,ee,ei]
    all_goals
     refine hY (n,q1+1,v') _ ⟨by omega,by simp only;omega,by simp only;omega,gd⟩ (by simp only;omega) ?_
     simp[head326a,rdBox,Wld.refs,Wld.arrs,zeroW,ee,hw2',List.range,List.range.loop]
 rcases k with _|_|_|k
 ·have w1:=law54 [⟨#[97]⟩,⟨#[98]⟩] (by simp)
  have hw:=Zps _ Zta
  generalize newWorld [⟨#[97]⟩,⟨#[98]⟩]=w at *
  simp only[Wld.c,ee,Xx,Xt]at w1
  simp only[show ∀ s:T,rowT s=[AV.str s] from fun _=>rfl]at w1
  simp[c326,rdBox,a1,b1,w1,ee]
  refine body w _ hw ?_
  simp[head326a,rdBox,Wld.refs,Wld.arrs,zeroW,ee,List.range,List.range.loop]
 ·have w1:=law54 [⟨#[97]⟩] (by simp)
  have hw:=Zps _ Ztl
  generalize newWorld [⟨#[97]⟩]=w at *
  simp only[Wld.c,ee,Xx,Xt]at w1
  simp only[show ∀ s:T,rowT s=[AV.str s] from fun _=>rfl]at w1
  simp[c326,rdBox,a1,b1,w1,ee]
  refine body w _ hw ?_
  simp[head326a,rdBox,Wld.refs,Wld.arrs,zeroW,ee,List.range,List.range.loop]
 ·have w1:=law54 [⟨#[97]⟩,⟨#[98]⟩,⟨#[100]⟩] (by simp)
  have hw:=Zps _ Zsh
  generalize newWorld [⟨#[97]⟩,⟨#[98]⟩,⟨#[100]⟩]=w at *
  simp only[Wld.c,ee,Xx,Xt]at w1
  simp only[show ∀ s:T,rowT s=[AV.str s] from fun _=>rfl]at w1
  simp[c326,rdBox,a1,b1,w1,ee]
  refine body w _ hw ?_
  simp[head326a,rdBox,Wld.refs,Wld.arrs,zeroW,ee,List.range,List.range.loop]
 ·omega
def lastG(h:T):List Grant->Nat->Int->Int
 | [],_,a=>a
 | g::r,i,a=>lastG h r (i+1) (if sEq g.hold h then i else a)
theorem Zhb{h:T}:∀ {gs:List Grant} {i:Nat} {a:Int},Lacks Grant.k h gs->lastG h gs i a=a
 | [],_,_,_=>rfl
 | g::r,i,a,hl=>by
  rw[lastG,Zad (show g.hold≠h from hl g Xi)]
  exact Zhb fun y hy=>hl y (Xh _ hy)
theorem Ziw{h:T}:∀ {gs:List Grant} {i:Nat},Asc Grant.k gs->lastG h gs i (-1)=findG h i gs
 | [],_,_=>rfl
 | g::r,i,ha=>by
  have h1:=Xad.1 ha
  by_cases q:sEq g.hold h=true
  ·rw[lastG,findG,Xr q,Xr q]
   refine Zhb fun y hy e=>?_
   have:=h1.1 y hy
   rw[e]at this
   unfold Grant.k at this
   rw[(Zac _ _).1 q,Zao]at this
   cases this
  ·rw[lastG,findG,Xu q,Xu q]
   exact Ziw h1.2
def hasHold(ws:List Want)(c h:T):Bool:=match findW ws c with
 | some w=>sEq w.hold h
 | none=>false
def wantsLast(b c h:T):List Place->Bool->Bool
 | [],a=>a
 | q::r,a=>wantsLast b c h r (if sEq q.berth b then hasHold q.wants c h else a)
theorem Zg5{c h:T}:∀ {ws:List Want},Asc Want.copy ws->hasHold ws c h=ws.any fun w=>sEq w.copy c && sEq w.hold h
 | [],_=>rfl
 | w::r,ha=>by
  have h1:=Xad.1 ha
  unfold hasHold findW
  rw[List.find?_cons,Xbc]
  cases q:sEq w.copy c
  ·have:=Zg5 (c:=c) (h:=h) h1.2
   unfold hasHold findW at this
   simpa using this
  ·have hn:(r.any fun w=>sEq w.copy c && sEq w.hold h)=false:=by
    rw[Xbo]
    intro y hy
    have:=h1.1 y hy
    rw[(Zac _ _).1 q]at this
    rw[Zad (fun e=>by rw[e,Zao]at this;cases this)]
    simp
   rw[hn]
   simp
theorem Zd2{b c h:T}:∀ {ps:List Place} {a:Bool},(∀ p∈ps,p.berth≠b)->wantsLast b c h ps a=a/\ps.any (wantsHold b c h)=false
 | [],_,_=>⟨rfl,rfl⟩
 | p::r,a,hn=>by
  have h1:=Zad (hn p Xi)
  obtain⟨h2,h3⟩:=Zd2 (c:=c) (h:=h) (a:=a) fun q hq=>hn q (Xh _ hq)
  refine⟨by rw[wantsLast,h1];exact h2,?_⟩
  rw[Xbc,h3]
  simp[wantsHold,h1]
theorem Zez{b c h:T}:∀ {ps:List Place},Asc (·.berth) ps->(∀ p∈ps,Asc Want.copy p.wants)->wantsLast b c h ps false=ps.any (wantsHold b c h)
 | [],_,_=>rfl
 | p::r,ha,hw=>by
  have h1:=Xad.1 ha
  rw[wantsLast,Xbc]
  cases q:sEq p.berth b
  ·rw[Xu (by simp),Zez h1.2 fun q hq=>hw q (Xh _ hq)]
   simp[wantsHold,q]
  ·have hn:∀ y∈r,y.berth≠b:=fun y hy e=>by
    have:=h1.1 y hy
    simp only at this
    rw[(Zac _ _).1 q,e,Zao]at this
    cases this
   obtain⟨h2,h3⟩:=Zd2 (c:=c) (h:=h) (a:=hasHold p.wants c h) hn
   rw[Xr rfl,h2,h3,Zg5 (hw p Xi)]
   simp[wantsHold,q]
def tl76:CCode:=(.seq (jR [xe 75 3 0,xc 76 75,xw 77 76 4] [2,3,4,6,77]
 (.cond (.tmp 77)
  (.seq (jQ [xd 78 6,qr 79 78 0,xd 80 79,xn 81 2 1 80,xh 82 81 80,x7 83 6 80,yk 84 5 82 83 80,xn 85 84 1 80,xh 86 85 80,xn 87 3 1 80,xh 88 87 80,yw 89 86 88 80,xl 90 80 89,xd 91 90,xn 92 2 1 91,xh 93 92 91,x7 94 6 91,yk 95 5 93 94 91,xn 96 95 3 91,xh 97 96 91,xn 98 3 6 91,xh 99 98 91,⟨some 100,.bin .leq (.tmp 97) (.tmp 99),some (91,true)⟩,xl 101 91 100] [2,3,4,6,101]
  (.cond (.tmp 101)
   (.loud [xe 102 2 1,xc 103 102,xd 104 6,xd 105 6,⟨some 106,.cut3 5 (.tmp 103) (.tmp 104) (.tmp 105),none⟩,xe 107 2 1,xc 108 107,xd 109 6,xu 110 109 1,ug 111 5 108 110,x9 112 5 64 106 111,xe 113 2 1,xg 113 112 1] [0,1,0,0,15,0,32,0,128,480,1023,2047,4095] [2,3,4])
   .skip))
  (.seq (.loud [xf 114 2 3,xe 115 3 1,xc 116 115,xe 117 3 4,xc 118 117,xe 119 3 6,xc 120 119,qu 121 5 116 4 118 6 120,qy 122 121,xg 4 114 3,xd 5 122] [0,0,2,0,8,0,32,126,254,1,1023] [4,5])
  .ret))
  .skip))
 (jR [xm 9] [2,3,4,6,9]
 (.seq (jR [xe 123 2 2,xc 124 123,xv 125 124,x8 126] [2,3,4,6,9,124,125,126]
 (.block 2
  (.loop [2,3,4,6,9,124,125,126] c76b1)))
 (.seq (jR [xd 152 9,yb 153 152] [2,3,4,6,153]
 (.cond (.tmp 153)
  (jR [xf 154 2 3,xg 4 154 3,ye 5 7] [4,5]
  .ret)
  .skip))
 (jR [xe 155 3 4,xc 156 155,xe 157 3 1,xc 158 157,xe 159 3 5,xc 160 159,xe 161 3 6,xc 162 161,xe 163 2 0,xc 164 163,xu 165 164 32,⟨some 166,.build [.str ⟨#[]⟩,.str ⟨#[]⟩,.str ⟨#[]⟩,.int .i64 0,.int .i64 0] [(0,1,.tmp 156),(1,1,.tmp 158),(2,1,.tmp 160),(3,1,.tmp 162),(4,1,.tmp 165)],none⟩,⟨some 14,.alloc [.str ⟨#[]⟩,.str ⟨#[]⟩,.str ⟨#[]⟩,.int .i64 0,.int .i64 0],none⟩,xg 14 166 5] [2,3,4,6,14]
 (jR [xe 167 3 1,xc 168 167,xe 169 3 4,xc 170 169,xe 171 3 5,xc 172 171,xe 173 3 6,xc 174 173,qk 175 3 168 4 170 5 172 6 174,qy 176 175,xd 15 176] [2,3,4,6,14,15]
 (.seq (jR [xd 177 6,qr 178 177 0] [2,3,4,6,14,15,178]
 (.cond (.tmp 178)
  (jR [xe 179 2 1,xc 180 179,xd 181 6,xp 182 5 180 181,xf 183 182 5,⟨some 16,.alloc [.str ⟨#[]⟩,.str ⟨#[]⟩,.str ⟨#[]⟩,.int .i64 0,.int .i64 0],none⟩,xg 16 183 5] [2,3,4,6,14,15,16]
  (.seq (jR [xe 184 16 4,xc 185 184,xe 186 2 0,xc 187 186,⟨some 188,.bin .gtr (.tmp 185) (.tmp 187),none⟩,xd 189 188,xn 190 16 1 189,xh 191 190 189,xn 192 3 1 189,xh 193 192 189,yw 194 191 193 189,x7 195 194 189,xn 196 16 2 195,xh 197 196 195,xn 198 3 5 195,xh 199 198 195,yw 200 197 199 195,wl 201 195 200 189,x7 202 201 189,xn 203 16 3 202,xh 204 203 202,xn 205 3 6 202,xh 206 205 202,⟨some 207,.bin .leq (.tmp 204) (.tmp 206),some (202,true)⟩,wl 208 202 207 189,⟨some 209,.un .not (.tmp 208),some (189,true)⟩,xl 210 189 209] [2,4,6,14,15,210]
  (.cond (.tmp 210)
   (jR [xf 211 2 3,xg 4 211 3,ye 5 7] [4,5]
   .ret)
   .skip))
  (jR [xe 212 2 1,xc 213 212,xd 214 6,xf 215 14 5,xp 216 5 213 214,xg 216 215 5] [2,4,15]
  (jR [xf 217 2 3,xd 218 15,xg 4 217 3,xd 5 218] [4,5]
  .ret))))
  .skip))
 (.seq (.loud [xe 219 2 1,xc 220 219,yz 221 5 64 5 220,xf 222 14 5,⟨some 223,.bslice 5 [.str ⟨#[]⟩,.str ⟨#[]⟩,.str ⟨#[]⟩,.int .i64 0,.int .i64 0] 1 [(0,.tmp 222)],none⟩,x9 224 5 64 221 223,⟨some 17,.alloc [.sl .own 5 []],none⟩,xg 17 224 1] [0,1,3,0,8,31,0,127] [2,4,15,17])
 (.seq (jR [xc 225 17,xv 226 225,yu 227 226 40] [2,4,15,17,227]
 (.cond (.tmp 227)
  (jR [ye 18 5] [2,4,15,17,18]
  (.seq (jR [xc 228 17,xv 229 228,x8 230] [2,4,15,17,18,228,229,230]
  (.block 4
   (.loop [2,4,15,17,18,228,229,230] c76b2)))
  (.region [xd 244 18,xg 17 244 1] [2,4,15,17])))
  .skip))
 (.seq (jR [xc 245 17,xv 246 245,yu 247 246 40] [2,4,15,17,247]
 (.cond (.tmp 247)
  (jR [xf 248 2 3,xg 4 248 3,ye 5 7] [4,5]
  .ret)
  .skip))
 (jR [xc 249 17,⟨some 250,.mkifs 184 (.tmp 249),none⟩,⟨some 251,.mkclo 184 (.tmp 17),none⟩,⟨some 252,.sortc 184 0 0 5 (.tmp 250) (.tmp 251),none⟩] [2,4,15,17]
 (jR [xc 253 17,xe 254 2 1,xg 254 253 1] [2,4,15]
 (jR [xf 255 2 3,xd 256 15,xg 4 255 3,xd 5 256] [4,5]
 .ret)))))))))))))
theorem c76_cut:c76=⟨257,[.cell 4 3 true,.tmp 5],
 (jR [yi 2 0,yi 3 1,uw 4,ye 5 7] [2,3,4]
 (.seq (jR [xf 21 2 3,xt 22 23 21,yb 23 22] [2,3,4,23]
 (.cond (.tmp 23)
  (jR [⟨some 24,.build [.int .i64 0,.sl .own 5 [],.sl .own 3 []] [],none⟩,xg 4 24 3,ye 5 7] [4,5]
  .ret)
  .skip))
 (jR [xf 25 2 3,xt 26 122 25,xg 2 26 3] [2,3,4]
 (.seq (jR [xe 27 3 0,xc 28 27,wo 29 28 2,xd 30 29,xn 31 3 0 30,xh 32 31 30,uz 33 32 4 30,xl 34 30 33,xd 35 34,xr 36 3 1 35,xk 37 36 35,yn 38 105 37 35,yc 39 38 35,xj 40 35 39,xd 41 40,xr 42 3 4 41,xk 43 42 41,yn 44 106 43 41,yc 45 44 41,xj 46 41 45,xd 47 46,xr 48 3 5 47,xk 49 48 47,yn 50 105 49 47,yc 51 50 47,xj 52 47 51,xd 53 52,xr 54 3 6 53,xk 55 54 53,xy 56 85 55 0 1000000 53,yc 57 56 53,xj 58 53 57] [2,3,4,58]
 (.cond (.tmp 58)
  (jR [xf 59 2 3,xg 4 59 3,ye 5 7] [4,5]
  .ret)
  .skip))
 (jR [⟨some 6,.mov (.const (.int .i64 (-1))),none⟩] [2,3,4,6]
 (.seq (jR [xe 60 2 1,xc 61 60,xv 62 61,x8 63] [2,3,4,6,61,62,63]
 (.block 0
  (.loop [2,3,4,6,61,62,63] c76b0)))
 tl76))))))⟩:=rfl
def head76a(l:Land)(p:Parcel)(i:Nat)(a:Int):St :=
 hd [(2,.ptr 0 0 0),(3,.ptr 1 0 0),(4,.ptr 2 0 0),(6,.int .i64 a),(61,.ref 3),(62,.int .i64 l.grants.length),(63,.int .i64 i)]
  [.box [.int .i64 l.time,.ref 3,.ref 4],.box (p.c .bor),.box zeroL,.arr 5 (l.grants.map Grant.c),.arr 3 (l.places.map (Place.c .own))] 0
def head76b(l:Land)(p:Parcel)(a:Int)(i:Nat)(b:Bool):St :=
 hd [(2,.ptr 0 0 0),(3,.ptr 1 0 0),(4,.ptr 2 0 0),(6,.int .i64 a),(9,.bool b),(124,.ref 3),(125,.int .i64 l.places.length),(126,.int .i64 i)]
  [.box [.int .i64 l.time,.ref 4,.ref 3],.box (p.c .bor),.box zeroL,.arr 3 (l.places.map (Place.c .own)),.arr 5 (l.grants.map Grant.c)] 0
def head76c(l:Land)(p:Parcel)(gs:List Grant)(i:Nat)(acc:List Grant):St :=
 if acc=[] then hd [(2,.ptr 0 0 0),(4,.ptr 1 0 0),(15,.ref 2),(17,.ptr 3 0 0),(18,.sl .own 5 []),(228,.ref 4),(229,.int .i64 gs.length),(230,.int .i64 i)]
  [.box [.int .i64 l.time,.ref 5,.ref 6],.box zeroL,.arr 7 [(givenP p).c .own],.box [.ref 4],.arr 5 (gs.map Grant.c),.arr 5 (l.grants.map Grant.c),.arr 3 (l.places.map (Place.c .own))] 0
 else hd [(2,.ptr 0 0 0),(4,.ptr 1 0 0),(15,.ref 2),(17,.ptr 3 0 0),(18,.ref 4),(228,.ref 5),(229,.int .i64 gs.length),(230,.int .i64 i)]
  [.box [.int .i64 l.time,.ref 6,.ref 7],.box zeroL,.arr 7 [(givenP p).c .own],.box [.ref 5],.arr 5 (acc.map Grant.c),.arr 5 (gs.map Grant.c),.arr 5 (l.grants.map Grant.c),.arr 3 (l.places.map (Place.c .own))] 0
def landRes(r:Land×List Parcel):AV×List (Option AO):=(.tup [.agg (r.1.c .own .own),.sl .own 7 (r.2.map (Parcel.c .own))],[])
def takeRes(l:Land)(p:Parcel):Land×List Parcel:=if p.kind=2 then match landGive l p with
    | some x=>(x,[givenP p])
    | none=>(l,[])
   else (landBack l p,[gotBack p])
theorem Zho:∀ (r pre:List Place),placesGo pre r=true->∀ p∈r,placeOk p=true
 | [],_,_,p,hp=>by simp at hp
 | q::r,pre,k,p,hp=>by
  simp only[placesGo,Xc]at k
  rcases Xl.1 hp with rfl|hp
  ·exact k.1
  ·exact Zho r _ k.2.2.2 p hp
theorem Zid{l:Land}(h:landOk l=true):∀ p∈l.places,placeOk p=true:=by
 simp only[landOk,Xc]at h
 exact Zho l.places [] h.2.2.2.2.2
theorem Zdd{l:Land}(h:landOk l=true):∀ p∈l.places,wantsOk p.wants=true:=fun p hp=>by
 have:=Zid h p hp
 simp only[placeOk,Xc]at this
 exact this.2.2
theorem Zro(l:Land)(p:Parcel)(hv:landOk l=true)(hk:p.kind=2\/p.kind=4)(s:St)(hs:s.norm [2,3,4,6,61,62,63]=head76a l p 0 (-1)) :
  fin [.cell 4 3 true,.tmp 5] 0 (X F [.code (.loop [2,3,4,6,61,62,63] c76b0),.blk 0,.code tl76] (.normal,s))=some (landRes (takeRes l p)):=by
 obtain⟨ha,ht0,ht1,h40⟩:=Zc0 hv
 obtain⟨hpa,hp4,_⟩:=Zcm hv
 refine (Zaa l.grants (fun i (a:Int)=>head76a l p i a) (fun i a=>lastG p.hold (l.grants.drop i) i a=findG p.hold 0 l.grants) (fun _ _ _=>_) (fun a Y hinv=>?_) (fun i g r a Y hg hi hr hinv hY=>?_) (-1) hs (by rw[List.drop_zero];exact Ziw ha) ?_).trans rfl
 ·rw[Xcq]at hinv
  simp only[lastG]at hinv
  subst hinv
  rcases hk with k2|k4
  ·simp[head76a,c76b0,tl76,zeroL,k2]
   refine (Zaa l.places (fun i (b:Bool)=>head76b l p (findG p.hold 0 l.grants) i b) (fun i b=>wantsLast p.berth p.copy p.hold (l.places.drop i) b=l.places.any (wantsHold p.berth p.copy p.hold)) (fun _ _ _=>_) (fun b Y hinv=>?_) (fun i q r b Y hq hi hr hinv hY=>?_) false ?_ ?_ ?_).trans rfl
   ·rw[Xcq]at hinv
    simp only[wantsLast]at hinv
    unfold takeRes landGive
    rw[Xr k2,<- hinv]
    cases b
    ·simp[head76b,c76b1,zeroL,landRes]
    have hw32:IntKind.i64.wrap (l.time+32)=l.time+32:=i64w (by omega) (by omega)
    rcases Zby p.hold l.grants 0 with ⟨h1,h2,h3⟩|⟨j,g,h1,h2,h3,h4⟩
    ·rw[h1,h2]
     have g1:(l.grants.length+1)*64<=140737488355328:=by omega
     have g2:l.grants.length+1<=140737488355328:=by omega
     have g3:l.grants.length+1<=1000000000:=by omega
     have g4:l.grants.length*64<=140737488355328:=by omega
     have g5:l.grants.length<=140737488355328:=by omega
     by_cases h40':40<=l.grants.length
     ·have hl40:lives40 l.time l.grants=l.grants.filter fun g=>decide (l.time<g.til):=by unfold lives40;rw[Xr h40']
      rw[hl40]
      have hgt:(40:Int)<l.grants.length+1:=by omega
      simp[head76b,c76b1,zeroL,hw32,takeRows,Zd0,g1,g2,g4,g5,hgt]
      obtain⟨gs,hgs⟩:∃ gs,gs=l.grants++[newGrant l.time p]:=⟨_,rfl⟩
      have hgl:gs.length=l.grants.length+1:=by rw[hgs];simp
      refine (Zaa gs (fun i (acc:List Grant)=>head76c l p gs i acc) (fun i acc=>acc=(gs.take i).filter fun g=>decide (l.time<g.til)) (fun _ _ _=>_) (fun acc Y2 hacc=>?_) (fun i g r acc Y2 hg hi hr hacc hY2=>?_) [] ?_ ?_ ?_).trans rfl
      ·have hnew:decide (l.time<(newGrant l.time p).til)=true:=by
        have e:(newGrant l.time p).til=l.time+32:=rfl
        rw[e,Xj]
        omega
       rw[Xbg,hgs,List.filter_append,List.filter_cons_of_pos (by simpa using hnew),List.filter_nil]at hacc
       have hne:acc≠[]:=by rw[hacc];simp
       have hal:acc.length=(l.grants.filter fun g=>decide (l.time<g.til)).length+1:=by rw[hacc];simp
       have hfl:=Xcf (fun g=>decide (l.time<g.til)) l.grants
       by_cases hfull:40<=(l.grants.filter fun g=>decide (l.time<g.til)).length
       ·have hgt2:(40:Int)<acc.length:=by omega
        simp[head76c,hne,c76b2,zeroL,hgt2,hgl,landRes,hfull]
       ·have hgt2:¬ (40:Int)<acc.length:=by omega
        have hsort:=Zbw Grant.c Grant.k 0 (fun _=>rfl) (Zbk Grant.k (x:=newGrant l.time p) (l:=l.grants.filter fun g=>decide (l.time<g.til)) (fun y hy=>h3 y ((Xb9.1 hy).1))) (Zar Grant.k (ha.sublist (Xcm)))
        rw[<- hacc]at hsort
        obtain⟨s1,s2⟩:=hsort
        have g6:acc.length<=1000000000:=by omega
        simp[head76c,hne,c76b2,zeroL,hgt2,hgl,landRes,hfull,isRef,sortTab,s1,s2,g6]
      ·have hw1:IntKind.i64.wrap ((i:Int)+1)=(i:Int)+1:=i64w (by omega) (by omega)
       obtain⟨_,hgi⟩:=Xa.1 hg
       have hiI:(i:Int)<gs.length:=by omega
       have htake:gs.take (i+1)=gs.take i++[g]:=by rw[Xax,hg];rfl
       have hal:acc.length<=i:=by rw[hacc];exact Xac (Xcf _ _) (by simp;omega)
       have hc1:(acc.length+1)*64<=140737488355328:=by omega
       have hc2:acc.length+1<=140737488355328:=by omega
       by_cases hti:l.time<g.til
       ·have hinv2:acc++[g]=(gs.take (i+1)).filter fun g=>decide (l.time<g.til):=by rw[htake,List.filter_append,<- hacc];simp[hti]
        by_cases hne:acc=[]
        ·subst hne
         simp[head76c,c76b2,zeroL,hi,hiI,hgi,hti,takeRows,Zd0]
         refine hY2 [g] _ hinv2 ?_
         simp[head76c,zeroL,hw1]
        ·simp[head76c,hne,c76b2,zeroL,hi,hiI,hgi,hti,takeRows,Zd0,hc1,hc2]
         refine hY2 (acc++[g]) _ hinv2 ?_
         simp[head76c,zeroL,hw1]
       ·have hinv2:acc=(gs.take (i+1)).filter fun g=>decide (l.time<g.til):=by rw[htake,List.filter_append,<- hacc];simp[hti]
        by_cases hne:acc=[]
        ·rw[hne]at hinv2
         simp[head76c,hne,c76b2,zeroL,hi,hiI,hgi,hti]
         refine hY2 [] _ hinv2 ?_
         simp[head76c,zeroL,hw1]
        ·simp[head76c,hne,c76b2,zeroL,hi,hiI,hgi,hti]
         refine hY2 acc _ hinv2 ?_
         simp[head76c,hne,zeroL,hw1]
      ·simp[head76c,zeroL,hgs,newGrant,givenP]
      ·simp
      ·unfold big;omega
     ·have hl40:lives40 l.time l.grants=l.grants:=by unfold lives40;rw[Xu h40']
      rw[hl40,Xu h40']
      have hgt:¬ (40:Int)<l.grants.length+1:=by omega
      have hsort:=Zbw Grant.c Grant.k 0 (fun _=>rfl) (Zbk Grant.k (x:=newGrant l.time p) (l:=l.grants) h3) (Zar Grant.k ha)
      simp only[Xb8,Xx,Xt,Grant.c,newGrant]at hsort
      obtain⟨s1,s2⟩:=hsort
      simp[head76b,c76b1,zeroL,hw32,takeRows,Zd0,g1,g2,g3,g4,g5,hgt,isRef,sortTab,s1,s2,landRes,givenP,newGrant]
    ·rw[h3,h4]
     simp only[Xbe]
     obtain⟨hj,hgj⟩:=Xa.1 h1
     have hjI:(j:Int)<l.grants.length:=by omega
     have hset:=Zcr (x:=newGrant l.time p) Grant.k ha h1 (by unfold Grant.k;rw[h2];rfl)
     rw[hset]
     by_cases e1:l.time<g.til
     ·cases u1:sEq g.berth p.berth
      ·simp[head76b,c76b1,zeroL,landRes,hj,hgj,hjI,hw32,e1,u1,blocks]
      cases u2:sEq g.copy p.copy
      ·simp[head76b,c76b1,zeroL,landRes,hj,hgj,hjI,hw32,e1,u1,u2,blocks]
      by_cases u3:g.at_<=p.at_
      ·simp[head76b,c76b1,zeroL,landRes,hj,hgj,hjI,hw32,e1,u1,u2,u3,blocks,givenP,newGrant,Xa3]
      ·simp[head76b,c76b1,zeroL,landRes,hj,hgj,hjI,hw32,e1,u1,u2,u3,blocks]
     ·simp[head76b,c76b1,zeroL,landRes,hj,hgj,hjI,hw32,e1,blocks,givenP,newGrant,Xa3]
   ·have hw1:IntKind.i64.wrap ((i:Int)+1)=(i:Int)+1:=i64w (by omega) (by omega)
    obtain⟨_,hgi⟩:=Xa.1 hq
    have hiI:(i:Int)<l.places.length:=by omega
    have hd:l.places.drop i=q::l.places.drop (i+1):=by rw[Xah hi,hgi]
    rw[hd,wantsLast]at hinv
    have hwo:=Zdd hv q (Xe hq)
    have w182:=law182 q.wants p.copy (by have:=(Zaq _).1 hwo;unfold big;omega)
    cases x1:sEq q.berth p.berth
    ·rw[x1]at hinv
     simp[head76b,c76b1,zeroL,hi,hiI,hgi,x1]
     refine hY b _ hinv ?_
     simp[head76b,zeroL,hw1]
    ·rw[x1]at hinv
     simp only[Xag]at hinv
     unfold hasHold at hinv
     cases x2:findW q.wants p.copy with
     | none =>
      rw[x2]at w182 hinv
      simp[Want.zero]at w182
      simp[head76b,c76b1,zeroL,hi,hiI,hgi,x1,w182]
      refine hY false _ hinv ?_
      simp[head76b,zeroL,hw1]
     | some w =>
      rw[x2]at w182 hinv
      simp at w182
      simp[head76b,c76b1,zeroL,hi,hiI,hgi,x1,w182]
      refine hY (sEq w.hold p.hold) _ hinv ?_
      simp[head76b,zeroL,hw1]
   ·simp[head76b,zeroL,k2]
   ·rw[List.drop_zero]
    exact Zez hpa fun q hq=>((Zaq _).1 (Zdd hv q hq)).2.2.1
   ·unfold big;omega
  ·have k2:¬ p.kind=2:=by omega
   unfold takeRes
   rw[Xu k2]
   rcases Zby p.hold l.grants 0 with ⟨h1,h2,h3⟩|⟨j,g,h1,h2,h3,h4⟩
   ·rw[h1]
    simp[head76a,c76b0,tl76,zeroL,k4,landBack,h2,gotBack,landRes]
   ·rw[h3]
    simp only[Xbe]
    obtain⟨hj,hgj⟩:=Xa.1 h1
    have hjI:(j:Int)<l.grants.length:=by omega
    cases x1:sEq g.berth p.berth
    ·simp[head76a,c76b0,tl76,zeroL,k4,landBack,h4,gotBack,hj,hgj,hjI,x1,landRes]
    by_cases x2:g.at_<=p.at_
    ·have f3:(j+(l.grants.length-(j+1)))*64<=140737488355328:=by omega
     have f4:j+(l.grants.length-(j+1))<=140737488355328:=by omega
     have hmin:min j l.grants.length=j:=Xbt (by omega)
     have hjle:j<=l.grants.length:=by omega
     have hjleI:(j:Int)<=l.grants.length:=by omega
     have hj1:j+1<=l.grants.length:=by omega
     have hj1I:(j:Int)+1<=l.grants.length:=by omega
     have hw1:IntKind.i64.wrap ((j:Int)+1)=(j:Int)+1:=i64w (by omega) (by omega)
     have h0I:(0:Int)<=(j:Int)+1:=by omega
     have t3:((l.grants.map Grant.c).drop (j+1)).take (l.grants.length-(j+1))=(l.grants.map Grant.c).drop (j+1):=Xae (by simp)
     have he:=Zgz ha h1 h2
     simp[head76a,c76b0,tl76,zeroL,k4,landBack,h4,takeRows,gotBack,hj,hgj,hjI,x1,x2,Zeq,Zak,Zaj,slBounds,f3,f4,hmin,hjle,hjleI,hj1,hj1I,hw1,t3,h0I,he,landRes]
    ·simp[head76a,c76b0,tl76,zeroL,k4,landBack,h4,gotBack,hj,hgj,hjI,x1,x2,landRes]
 ·have hw1:IntKind.i64.wrap ((i:Int)+1)=(i:Int)+1:=i64w (by omega) (by omega)
  obtain⟨_,hgi⟩:=Xa.1 hg
  have hiI:(i:Int)<l.grants.length:=by omega
  have hd:l.grants.drop i=g::l.grants.drop (i+1):=by rw[Xah hi,hgi]
  rw[hd,lastG]at hinv
  cases q:sEq g.hold p.hold
  ·rw[q]at hinv
   simp[head76a,c76b0,zeroL,hi,hiI,hgi,q]
   refine hY a _ hinv ?_
   simp[head76a,zeroL,hw1]
  ·rw[q]at hinv
   simp[head76a,c76b0,zeroL,hi,hiI,hgi,q]
   refine hY i _ hinv ?_
   simp[head76a,zeroL,hw1]
 ·unfold big;omega
theorem law76(l:Land)(m:Md)(p:Parcel)(hl:l.small):F 76 [.agg (l.c .bor m),.agg (p.c .bor)] []=some (.tup [.agg ((landTake l p).1.c .own .own),.sl .own 7 ((landTake l p).2.map (Parcel.c .own))],[]):=by
 refine Zae fn76 rfl ?_
 have w1:=law23 l m hl
 have w2:=law122 l m hl
 simp only[Land.c]at w1 w2
 unfold landTake
 cases q1:landOk l
 ·simp[c76_cut,w1,q1,Land.zero]
 rw[q1]at w1
 cases q2:takeOk p
 ·unfold takeOk at q2
  by_cases k2:p.kind=2
  ·cases u1:isName p.berth
   ·simp[c76_cut,w1,w2,k2,u1]
   cases u2:isHold p.hold
   ·simp[c76_cut,w1,w2,k2,u1,u2]
   cases u3:isName p.copy
   ·simp[c76_cut,w1,w2,k2,u1,u2,u3]
   cases u4:inR p.at_ 0 1000000
   ·simp[c76_cut,w1,w2,k2,u1,u2,u3,u4]
   rw[u1,u2,u3,u4]at q2
   cases q2
  by_cases k4:p.kind=4
  ·cases u1:isName p.berth
   ·simp[c76_cut,w1,w2,k4,u1]
   cases u2:isHold p.hold
   ·simp[c76_cut,w1,w2,k4,u1,u2]
   cases u3:isName p.copy
   ·simp[c76_cut,w1,w2,k4,u1,u2,u3]
   cases u4:inR p.at_ 0 1000000
   ·simp[c76_cut,w1,w2,k4,u1,u2,u3,u4]
   rw[u1,u2,u3,u4]at q2
   cases q2
  ·simp[c76_cut,w1,w2,k2,k4]
 unfold takeOk at q2
 simp only[Xc]at q2
 obtain⟨u1,u2,u3,u4⟩:=q2
 by_cases k2:p.kind=2
 ·simp[c76_cut,w1,w2,u1,u2,u3,u4,k2]
  refine (Zro l p q1 (.inl k2) _ ?_).trans ?_
  ·simp[head76a,zeroL,k2]
  ·rw[takeRes,Xr k2]
   rfl
 ·by_cases k4:p.kind=4
  ·simp[c76_cut,w1,w2,u1,u2,u3,u4,k4]
   refine (Zro l p q1 (.inr k4) _ ?_).trans ?_
   ·simp[head76a,zeroL,k4]
   ·simp[landRes,takeRes,k4]
  ·simp[c76_cut,w1,w2,k2,k4]
structure Land.tame(l:Land)(g n:Nat):Prop where
 time:0<=l.time/\l.time<=2000000
 grants:l.grants.length<=g
 places:l.places.length<=n
 each:∀ p∈l.places,p.wants.length<=10/\∀ w∈p.wants,Want.tame w
theorem Land.tame.small{l:Land}{g n:Nat}(h:l.tame g n)(hg:g<=1000)(hn:n<=1000):l.small:=⟨by have:=h.grants;omega,by have:=h.places;omega,fun p hp=>⟨by have:=(h.each p hp).1;omega⟩⟩
structure Lk(gk pk:Bool)(l:Land):Prop where
 g:gk=false->l.grants=[]
 p:pk=false->l.places=[]
def mdB:Bool->Md
 | false=>.own
 | true=>.imm
def IsLand(l:Land)(x:AV):Prop:=∃ b:Bool,x=.agg (l.c .own (mdB b))
theorem isL{l:Land}{x:AV}(b:Bool)(h:x=.agg (l.c .own (mdB b))):IsLand l x:=⟨b,h⟩
structure Land.sm(l:Land):Prop where
 grants:l.grants.length<=1048576
 places:l.places.length<=1048576
 each:∀ p∈l.places,p.small/\∀ x∈p.wants,inS x.hold=true
theorem Land.sm.small{l:Land}(h:l.sm):l.small:=⟨h.grants,h.places,fun p hp=>(h.each p hp).1⟩
theorem law157{gN pN:Nat}(bs:List Int)(p:Int)(l:Land)(hb:Code bs)(h0:0<=p)(hp:p<=800000000)(hl:l.tame gN pN)(hgN:gN<=100:=by omega)(hpN:pN<=100:=by omega):Ends (F 157 [.ptr 0 0 0,.agg (l.c .bor .own)] [rdBox bs p]) (Drew bs p 60 fun x=>∃ l':Land,IsLand l' x/\l'.sm/\l'.grants.length<=gN+1/\l'.places.length<=pN+1):=by
 have hsm:=hl.small (by omega) (by omega)
 have w0:=law121 l .own hsm
 have hs:l.sm:=⟨hsm.grants,hsm.places,fun y hy=>⟨hsm.each y hy,fun x hx=>((hl.each y hy).2 x hx).hold⟩⟩
 have hg3:=hl.grants
 have hp3:=hl.places
 have htm:=hl.time
 obtain⟨b1,b2,b3⟩:=law89 bs p 7 hb (by omega) (by omega) (by omega)
 simp only[rdBox]at b1
 simp only[Land.c]at w0
 refine Zce fn157 rfl ?_
 by_cases k0:pickV bs p 7=0
 ·obtain⟨c1,c2,c3⟩:=law89 bs (p+1) 4 hb (by omega) (by omega) (by omega)
  have c4:=c3 (by omega)
  simp only[rdBox]at c1
  simp[c157,rdBox,w0,b1,k0,c1,c2,c4]
  exact⟨_,p+1+1,rfl,by omega,by omega,{ l with time:=selI [-2,1,2000000,2000002] (pickV bs (p+1) 4) },isL false (by simp[mdB]),⟨hs.grants,hs.places,hs.each⟩,by simp only;omega,by simp only;omega⟩
 by_cases k1:pickV bs p 7=1
 ·obtain⟨c1,c2,c3⟩:=law89 bs (p+1) 4 hb (by omega) (by omega) (by omega)
  have c4:=c3 (by omega)
  obtain⟨d1,d2,d3⟩:=law89 bs (p+1+1) 2 hb (by omega) (by omega) (by omega)
  have d4:=d3 (by omega)
  obtain⟨e1,e2,e3⟩:=law89 bs (p+1+1+1) 3 hb (by omega) (by omega) (by omega)
  have e4:=e3 (by omega)
  obtain⟨f1,f2,f3⟩:=law89 bs (p+1+1+1+1) 200 hb (by omega) (by omega) (by omega)
  have u1:IntKind.i64.wrap (pickV bs (p+1+1+1) 3-1)=pickV bs (p+1+1+1) 3-1:=i64w (by omega) (by omega)
  have q1:l.grants.length*64<=140737488355328:=by omega
  have q2:l.grants.length<=140737488355328:=by omega
  have q3:(l.grants.length+1)*64<=140737488355328:=by omega
  have q4:l.grants.length+1<=140737488355328:=by omega
  simp only[rdBox]at c1 d1 e1 f1
  simp[c157,rdBox,w0,b1,k0,k1,c1,c2,c4,d1,d2,d4,e1,f1,u1,takeRows,Zd0,q1,q2,q3,q4]
  exact⟨_,p+1+1+1+1+1,rfl,by omega,by omega,{ l with grants:=l.grants++[⟨selT [⟨#[]⟩,⟨#[122,122]⟩,⟨#[105,112]⟩,⟨#[42]⟩] (pickV bs (p+1) 4),selT [⟨#[]⟩,⟨#[97]⟩] (pickV bs (p+1+1) 2),⟨#[99]⟩,pickV bs (p+1+1+1) 3-1,pickV bs (p+1+1+1+1) 200⟩] },isL false (by simp[mdB]),⟨by simp;omega,hs.places,hs.each⟩,by simp;omega,by simp only;omega⟩
 by_cases k2:pickV bs p 7=2
 ·rcases hG:l.grants with _|⟨g,gs⟩
  ·rw[hG]at w0
   simp only[Xt]at w0
   simp[c157,rdBox,w0,b1,k0,k1,k2,hG]
   exact⟨_,p+1,rfl,by omega,by omega,l,isL false (by simp[mdB,hG]),hs,by omega,by omega⟩
  ·rw[hG]at w0
   simp only[Xx,Grant.c]at w0
   obtain⟨c1,c2,c3⟩:=law89 bs (p+1) 3 hb (by omega) (by omega) (by omega)
   have c4:=c3 (by omega)
   simp only[rdBox]at c1
   have hlen:gs.length+1<=gN:=by rw[hG]at hg3;simp at hg3;omega
   have hpos:(0:Int)<(gs.length:Int)+1:=by omega
   simp[c157,rdBox,w0,b1,k0,k1,k2,c1,c2,c4,hG,hpos]
   exact⟨_,p+1+1,rfl,by omega,by omega,{ l with grants:={ g with til:=selI [-1,IntKind.i64.wrap (l.time+32),IntKind.i64.wrap (IntKind.i64.wrap (l.time+32)+1)] (pickV bs (p+1) 3) }::gs },isL false (by simp[mdB]),⟨by simp;omega,hs.places,hs.each⟩,by simp;omega,by simp only;omega⟩
 by_cases k3:pickV bs p 7=3
 ·obtain⟨c1,c2,c3⟩:=law89 bs (p+1) 3 hb (by omega) (by omega) (by omega)
  have c4:=c3 (by omega)
  obtain⟨d1,d2,d3⟩:=law89 bs (p+1+1) 3 hb (by omega) (by omega) (by omega)
  obtain⟨_,e1,x,q',rfl,e2,e3,ws,rfl,e4,e5⟩:=law145 bs (p+1+1+1) hb (by omega) (by omega)
  have q1:l.places.length*48<=140737488355328:=by omega
  have q2:l.places.length<=140737488355328:=by omega
  have q3:(l.places.length+1)*48<=140737488355328:=by omega
  have q4:l.places.length+1<=140737488355328:=by omega
  simp only[rdBox]at c1 d1 e1
  simp[c157,rdBox,w0,b1,k0,k1,k2,k3,c1,c2,c4,d1,e1,takeRows,q1,q2,q3,q4]
  refine⟨_,q',rfl,by omega,by omega,{ l with places:=l.places++[⟨selT [⟨#[]⟩,⟨#[122]⟩,⟨#[97]⟩] (pickV bs (p+1) 3),pickV bs (p+1+1) 3,ws⟩] },isL false (by simp[mdB]),⟨hs.grants,by simp;omega,fun y hy=>?_⟩,by simp only;omega,by simp;omega⟩
  rcases Xg.1 hy with hy|hy
  ·exact hs.each y hy
  ·rw[Xn.1 hy];exact⟨⟨by simp only;omega⟩,fun x hx=>(e5 x hx).hold⟩
 by_cases k4:pickV bs p 7=4
 ·rcases hP:l.places with _|⟨y,ys⟩
  ·rw[hP]at w0
   simp only[Xt]at w0
   simp[c157,rdBox,w0,b1,k0,k1,k2,k3,k4,hP]
   exact⟨_,p+1,rfl,by omega,by omega,l,isL false (by simp[mdB,hP]),hs,by omega,by omega⟩
  ·rw[hP]at w0
   simp only[Xx,Place.c]at w0
   obtain⟨c1,c2,c3⟩:=law89 bs (p+1) 3 hb (by omega) (by omega) (by omega)
   have c4:=c3 (by omega)
   simp only[rdBox]at c1
   have hlen:ys.length+1<=pN:=by rw[hP]at hp3;simp at hp3;omega
   have hpos:(0:Int)<(ys.length:Int)+1:=by omega
   simp[c157,rdBox,w0,b1,k0,k1,k2,k3,k4,c1,c2,c4,hP,hpos]
   refine⟨_,p+1+1,rfl,by omega,by omega,{ l with places:={ y with seen:=selI [0,1000000,1000001] (pickV bs (p+1) 3) }::ys },isL false (by simp[mdB]),⟨hs.grants,by simp;omega,fun z hz=>?_⟩,by simp only;omega,by simp;omega⟩
   rcases Xl.1 hz with rfl|hz
   ·have k:=hs.each y (by rw[hP];exact Xi)
    exact⟨⟨k.1.wants⟩,k.2⟩
   ·exact hs.each z (by rw[hP];exact Xh _ hz)
 by_cases k5:pickV bs p 7=5
 ·rcases hP:l.places with _|⟨y,ys⟩
  ·rw[hP]at w0
   simp only[Xt]at w0
   simp[c157,rdBox,w0,b1,k0,k1,k2,k3,k4,k5,hP]
   exact⟨_,p+1,rfl,by omega,by omega,l,isL false (by simp[mdB,hP]),hs,by omega,by omega⟩
  ·have hlen:ys.length+1<=pN:=by rw[hP]at hp3;simp at hp3;omega
   have hpos:(0:Int)<(ys.length:Int)+1:=by omega
   have hye:=hl.each y (by rw[hP];exact Xi)
   rcases hW:y.wants with _|⟨v,vs⟩
   ·rw[hP]at w0
    simp only[Xx,Place.c,hW,Xt]at w0
    simp[c157,rdBox,w0,b1,k0,k1,k2,k3,k4,k5,hpos,hP,hW]
    exact⟨_,p+1,rfl,by omega,by omega,l,isL false (by simp[mdB,hP,hW]),hs,by omega,by omega⟩
   ·rw[hP]at w0
    simp only[Xx,Place.c,hW,Want.c]at w0
    obtain⟨w',p',c1,c2,c3,c4⟩:=law144 bs (p+1) v hb (by omega) (by omega) (hye.2 v (by rw[hW];exact Xi))
    have hvl:vs.length<=9:=by have:=hye.1;rw[hW]at this;simp at this;omega
    have hpos2:(0:Int)<(vs.length:Int)+1:=by omega
    have hpl:rowsPlain ([AV.str v.copy,.int .i64 v.version,.str v.hold,.int .i64 v.pull,.int .i64 v.start,.int .i64 v.dies,.int .i64 v.grace]::vs.map Want.c)=true:=plain_want (v::vs)
    simp only[rdBox,Want.c]at c1
    simp[c157,rdBox,w0,b1,k0,k1,k2,k3,k4,k5,hpos,hpos2,c1,hpl,AO.isArr,hP,hW]
    refine⟨_,p',rfl,by omega,by omega,⟨l.time,l.grants,{ y with wants:=w'::vs }::ys⟩,isL false (by simp[mdB]),⟨hs.grants,by simp;omega,fun z hz=>?_⟩,by simp only;omega,by simp;omega⟩
    rcases Xl.1 hz with rfl|hz
    ·refine⟨⟨by simp;omega⟩,fun x hx=>?_⟩
     rcases Xl.1 hx with rfl|hx
     ·exact c4.hold
     ·exact (hye.2 x (by rw[hW];exact Xh _ hx)).hold
    ·exact hs.each z (by rw[hP];exact Xh _ hz)
 ·rcases hP:l.places with _|⟨y,_|⟨z,zs⟩⟩
  ·rw[hP]at w0
   simp only[Xt]at w0
   simp[c157,rdBox,w0,b1,k0,k1,k2,k3,k4,k5,hP]
   exact⟨_,p+1,rfl,by omega,by omega,l,isL false (by simp[mdB,hP]),hs,by omega,by omega⟩
  ·rw[hP]at w0
   simp only[Xx,Xt,Place.c]at w0
   simp[c157,rdBox,w0,b1,k0,k1,k2,k3,k4,k5,hP]
   exact⟨_,p+1,rfl,by omega,by omega,l,isL false (by simp[mdB,hP]),hs,by omega,by omega⟩
  ·rw[hP]at w0
   simp only[Xx,Place.c]at w0
   have hpos:(1:Int)<(zs.length:Int)+1+1:=by omega
   simp[c157,rdBox,w0,b1,k0,k1,k2,k3,k4,k5,hpos,AV.frz,hP]
   have hlen:zs.length+1+1<=pN:=by rw[hP]at hp3;simp at hp3;omega
   refine⟨_,p+1,rfl,by omega,by omega,⟨l.time,l.grants,y::{ z with wants:=y.wants }::zs⟩,isL true (by simp[mdB,AV.frz]),⟨hs.grants,by simp;omega,fun x hx=>?_⟩,by simp only;omega,by simp;omega⟩
   have hy:=hs.each y (by rw[hP];simp)
   rcases Xl.1 hx with rfl|hx
   ·exact hy
   rcases Xl.1 hx with rfl|hx
   ·exact⟨⟨hy.1.wants⟩,hy.2⟩
   ·exact hs.each x (by rw[hP];simp[hx])
theorem Zen{s:T}(h:isName s=true):s.size<=1000:=by
 simp only[isName,Xc,Xj]at h
 omega
theorem Zh6{w:Want}(h:wantOk w=true):w.tame:=by
 simp only[wantOk,Xc,Xas,inR,Xj]at h
 obtain⟨⟨⟨⟨⟨⟨h1,h2⟩,h3⟩,h4⟩,h5⟩,h6⟩,h7⟩:=h
 have hs:=Zg6 (s:=w.hold) (by rw[Xas];exact h3)
 exact⟨Zen h1,⟨by omega,by omega⟩,by simp[inS];omega,⟨by omega,by omega⟩,⟨by omega,by omega⟩,⟨by omega,by omega⟩,⟨by omega,by omega⟩⟩
theorem WIsN.landTame{n:Nat}{w:Wld}(h:WIsN n w):w.land.tame 40 4:=by
 obtain⟨_,t1,t2,g1⟩:=Zc0 h.land
 obtain⟨_,p1,_⟩:=Zcm h.land
 refine⟨⟨t1,t2⟩,g1,p1,fun p hp=>?_⟩
 obtain⟨k1,k2,_⟩:=(Zaq _).1 (Zdd h.land p hp)
 exact⟨k1,fun x hx=>Zh6 (k2 x hx)⟩
theorem Zmu{a:Ask}{c:Int}(h:AskIs a c)(hc:c<=1000000):a.tame:=by
 have h1:=h.first
 have h2:=h.order
 have h3:=h.at_
 have hs:=h.hold
 simp only[isHold,Xc]at hs
 have hs:=Zen hs.1
 exact⟨by simp[inS];omega,Zen h.copy,⟨by omega,by omega⟩,⟨by omega,by omega⟩⟩
theorem WIsN.mateTame{n:Nat}{w:Wld}(h:WIsN n w){m:Mate}(hm:m∈w.mates):m.tameN 40:=by
 have hi:=h.mates m hm
 obtain⟨k1,k2,_⟩:=(Zaq _).1 hi.wants
 have hc:=hi.clock
 have hsn:=hi.seen
 refine⟨Zen hi.name,⟨by omega,by omega⟩,⟨by omega,by omega⟩,by omega,fun x hx=>Zh6 (k2 x hx),by have:=hi.runsN;omega,fun r hr=>?_,hi.asks.len,fun a ha=>Zmu (hi.asks.all a ha) hc.2,hi.gives.len,fun a ha=>Zmu (hi.gives.all a ha) hc.2⟩
 have hr':=hi.runs r hr
 have h1:=hr'.state
 have h2:=hr'.left
 have h3:=hr'.falls
 have h4:=hr'.til
 exact⟨Zh6 hr'.want,⟨by omega,by omega⟩,⟨by omega,by omega⟩,⟨by omega,by omega⟩,⟨by omega,by omega⟩⟩
structure DrawnW(w:Wld):Prop where
 small:w.small
 flight:w.flight.length<=1000
 is:worldOk w=true->WIs w
theorem WIsN.drawnW{n:Nat}{w:Wld}(h:WIsN n w):DrawnW w:=⟨h.small,by have:=h.fl;omega,fun _=>h.up h.bound (Xo _)⟩
theorem Zcy{w:Wld}(h1:w.land.sm)(h2:w.mates.length<=1000)(h3:w.flight.length<=1000)(h4:∀ m∈w.mates,m.small/\HoldsM m)(h5:∀ s∈w.flight,s.size<=3000):DrawnW w:=by
 refine⟨⟨h1.small,by omega,fun m hm=>(h4 m hm).1,by omega⟩,h3,fun hk=>?_⟩
 obtain⟨k1,⟨k2,k3⟩,k4,k5,k6⟩:=(Zed _).1 hk
 exact⟨Xo _,k1,k2,k3,k4,k5,k6,h5,fun m hm=>(h4 m hm).2⟩
theorem WIsN.sm{n:Nat}{w:Wld}(h:WIsN n w):w.land.sm:=by
 have hs:=h.small.land
 exact⟨hs.grants,hs.places,fun p hp=>⟨hs.each p hp,fun x hx=>((h.landTame.each p hp).2 x hx).hold⟩⟩
def hereA:T:=⟨#[104,101,114,101,32,97,32,48,10]⟩
@[simp] def Wld.cm(b:Bool)(ml mt:Md)(w:Wld):List AV:=[.int .i64 w.land.time,.sl .own 5 (w.land.grants.map Grant.c),.sl .own 3 (w.land.places.map (Place.c ml)),.sl (mdB b) 9 (w.mates.map (Mate.c mt)),.sl .own 1 (w.flight.map fun s=>[.str s])]
def IsWld(w:Wld)(x:AV):Prop:=∃ (b:Bool) (ml mt:Md),x=.agg (w.cm b ml mt)
theorem capM{n:Nat}(h:n<=3):(n+1)*144<=140737488355328/\n+1<=140737488355328/\(n+1+1)*144<=140737488355328/\n+1+1<=140737488355328:=by omega
def head328(bs:List Int)(q:Int)(v:Wld)(n:Nat):St :=
 hd [(4,.ptr 1 0 0),(5,.ptr 2 0 0),(6,.int .i64 n)] ([rdBox bs q,.box zeroW,.box (v.refs 3)]++v.arrs) 1
set_option maxHeartbeats 0 in
theorem law328(bs:List Int)(p:Int)(w:Wld)(hb:Code bs)(h0:0<=p)(hp:p<=700000000)(hw:WIsN 8 w):Ends (F 328 [.ptr 0 0 0,.agg (w.c .bor .own)] [rdBox bs p]) (Drew bs p 600 fun x=>∃ w':Wld,IsWld w' x/\DrawnW w'):=by
 refine Zce fn328 rfl ?_
 have w216:=law216 w .own hw.small (by have:=hw.fl;omega)
 obtain⟨a1,a2,a3⟩:=law89 bs p 5 hb h0 (by omega) (by omega)
 have a4:=a3 (by omega)
 have ee:(fun s:T=>[AV.str s])=rowT:=rfl
 simp only[rdBox]at a1
 simp only[Wld.c,ee]at w216
 have hone:=hw.one
 have hfl:=hw.fl
 have hmm:∀ m∈w.mates,m.small/\HoldsM m:=fun m hm=>⟨(hw.drawn m hm).small,(hw.hm m hm).up (by decide)⟩
 have hQ:∀ (p':Int) (w':Wld) (x:AV),p<=p'->p'<=p+600->IsWld w' x->DrawnW w'->Drew bs p 600 (fun x=>∃ w':Wld,IsWld w' x/\DrawnW w') (x,[some (rdBox bs p')]):=fun p' w' x h1 h2 h3 h4=>⟨_,p',rfl,h1,h2,w',h3,h4⟩
 by_cases k0:pickV bs p 5=0
 ·obtain⟨_,c1,x,q,rfl,c2,c3,l,⟨b,rfl⟩,c4,c5,c6⟩:=law157 (gN:=40) (pN:=4) bs (p+1) w.land hb (by omega) (by omega) hw.landTame (show 40<=100 by decide) (show 4<=100 by decide)
  simp only[rdBox,Land.c]at c1
  simp[c328,rdBox,w216,a1,k0,c1,ee,Wld.c]
  refine hQ q { w with land:=l } _ (by omega) (by omega) ⟨false,mdB b,.own,by simp[ee,mdB]⟩ (Zcy c4 (show w.mates.length<=1000 by have:=hw.four;omega) (show w.flight.length<=1000 by omega) hmm hw.texts)
 rcases hM:w.mates with _|⟨m0,ms⟩
 ·rw[hM]at hone;simp at hone
 have ht0:m0.tameN 40:=hw.mateTame (by rw[hM];exact Xi)
 have hh0:HoldsN 8 m0:=hw.hm m0 (by rw[hM];exact Xi)
 rw[hM]at w216 hmm
 have hfour:=hw.four
 rw[hM]at hfour
 simp only[Xx,Mate.c]at w216
 have hms:ms.length<=3:=by simp at hfour;omega
 by_cases k1:pickV bs p 5=1
 ·have hclk : -10000000<=m0.clock/\m0.clock<=10000000:=by have:=(hw.mates m0 (by rw[hM];exact Xi)).clock;omega
  obtain⟨_,c1,x,q,rfl,c2,c3,m',rfl,c5,c4⟩:=law155 (K:=40) bs (p+1) m0 hb (by omega) (by omega) ht0 hclk (by omega)
  simp only[rdBox,Mate.c]at c1
  simp[c328,rdBox,w216,a1,k0,k1,c1,ee,Wld.c,hM,AO.isArr]
  refine hQ q { w with mates:=m'::ms } _ (by omega) (by omega) ⟨false,.own,.own,by simp[ee,mdB]⟩ (Zcy hw.sm (by simp;omega) (show w.flight.length<=1000 by omega) (fun m hm=>?_) hw.texts)
  rcases Xl.1 hm with rfl|hm
  ·exact⟨c4.small (by omega),(c5 8 hh0).up (by decide)⟩
  ·exact hmm m (Xh _ hm)
 by_cases k2:pickV bs p 5=2
 ·obtain⟨q1,q2,q3,q4⟩:=capM hms
  simp[c328,rdBox,w216,a1,k0,k1,k2,ee,Wld.c,hM,AO.isArr,AV.frz,takeRows,q1,q2,q3,q4]
  have hfz:(fun x=>List.map AV.frz x) ∘ Mate.c .own=Mate.c .imm:=by funext m;simp[Mate.c,AV.frz]
  refine hQ (p+1) { w with mates:=(m0::ms)++[m0] } _ (by omega) (by omega) ⟨false,.own,.imm,by simp[ee,hfz,mdB]⟩ (Zcy hw.sm (by simp;omega) (show w.flight.length<=1000 by omega) (fun m hm=>?_) hw.texts)
  rcases Xg.1 hm with hm|hm
  ·exact hmm m hm
  ·rw[Xn.1 hm];exact hmm m0 Xi
 by_cases k3:pickV bs p 5=3
 ·obtain⟨b1,b2,b3⟩:=law89 bs (p+1) 2 hb (by omega) (by omega) (by omega)
  have b4:=b3 (by omega)
  obtain⟨n,hn⟩:∃ n:Int,pickV bs (p+1) 2=n:=⟨_,rfl⟩
  rw[hn]at b1 b2 b4
  simp only[rdBox]at b1
  have wn:IntKind.i64.wrap (300+n)=300+n:=i64w (by omega) (by omega)
  simp[c328,rdBox,w216,a1,b1,k0,k1,k2,k3,ee,Wld.c,hM,wn]
  refine Za8 (σ:=List T) (fun fl=>head328 bs (p+2) { w with flight:=fl } (300+n).toNat) (fun fl=>fl.length<=301/\∀ s∈fl,s.size<=3000) (fun fl=>301-fl.length) (fun fl Y hinv hY=>?_) w.flight ?_ ⟨by omega,hw.texts⟩ (by unfold big;omega)
  ·obtain⟨g1,g2⟩:=hinv
   have e1:(fl.length+1)*16<=140737488355328:=by omega
   have e2:fl.length+1<=140737488355328:=by omega
   have hnn:((300+n).toNat:Int)=300+n:=by omega
   by_cases hlt:(fl.length:Int)<300+n
   ·simp[head328,rdBox,Wld.refs,Wld.arrs,c328b0,hlt,hnn,takeRows,rowsPlain,rowT,e1,e2]
    refine hY (fl++[hereA]) _ ⟨by simp;omega,fun s hs=>?_⟩ (by simp;omega) ?_
    ·rcases Xg.1 hs with hs|hs
     ·exact g2 s hs
     ·rw[Xn.1 hs];decide
    ·simp[head328,rdBox,Wld.refs,Wld.arrs,zeroW,hnn,hereA,rowT,ee,List.range,List.range.loop]
   ·simp[head328,rdBox,Wld.refs,Wld.arrs,c328b0,hlt,hnn,zeroW,List.range,List.range.loop]
    exact hQ (p+2) { w with flight:=fl } _ (by omega) (by omega) ⟨false,.own,.own,by simp[ee,mdB]⟩ (Zcy hw.sm (show w.mates.length<=1000 by have:=hw.four;omega) (show fl.length<=1000 by omega) (by rw[hM];exact hmm) g2)
  ·simp[head328,rdBox,Wld.refs,Wld.arrs,zeroW,hM,ee,show p+1+1=p+2 by omega,show ((300+n).toNat:Int)=300+n by omega,List.range,List.range.loop]
 have hI1:(1:Int)<=(ms.length:Int)+1:=by omega
 simp[c328,rdBox,w216,a1,k0,k1,k2,k3,ee,Wld.c,hM,slBounds,hI1]
 exact hQ (p+1) { w with mates:=ms } _ (by omega) (by omega) ⟨true,.own,.own,by simp[ee,mdB]⟩ (Zcy hw.sm (show ms.length<=1000 by omega) (show w.flight.length<=1000 by omega) (fun m hm=>hmm m (Xh _ hm)) hw.texts)
end Go.Proofs.YtgdfelbedghhnaaGreatDoor
