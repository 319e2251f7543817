/- Draws: a parcel, a text to be read. · Worlds: parcels are sent. · Worlds: copies. · Worlds: a tick (spec.l8Tick). · The book takes a parcel (spec.MateLandTake). · The book: ok stays ok; twice is once; nothing is given to another before its time. Plain Lean. · The book: its tick and a put leave it ok (plain). · Worlds (plain): what an event makes of a world; worlds stay ok. · Worlds stay ok, with few holds (plain). · The small world is a world: its book, its flight (plain). · Layer 8: is a world safe? · What is read is the form of what was read. · Worlds: what is brought (spec.l8Bring). · Worlds: an event (spec.l8Do). · Layer 8: a new world. · Worlds: calm rounds, and events of worlds as they are given (spec.l8Round, MateDo, MateCalm). · The small world is a world: events, puts, rounds; safe, held, settled (plain). · Whether each that holds has the book's grant (laws.wHeld). · The book takes a parcel (impl.MateLandTake). · A mate's tick (impl.MateTick). · A mate's tick (impl.MateTick): its runs' lives; the whole. -/
import Derived.Test.YtfemiipgkhekiaaGreatDoorB6
import Derived.Test.YtfemiipgkhekiaaGreatDoorB5
import Derived.Test.YtfemiipgkhekiaaGreatDoorB2
import Derived.KernelRfl
namespace Go.Proofs.YtfemiipgkhekiaaGreatDoor
open Go
set_option linter.unusedSimpArgs false
set_option maxRecDepth 100000
theorem Zdj:∀ (ws:List Want) (acc:T),(∀ w∈ws,wantOk w=true)->(formWants acc ws).size<=acc.size+90*ws.length
 | [],acc,_=>by simp[formWants]
 | w::ws,acc,h=>by
  rw[formWants]
  have:=Zdj ws (acc++formWant w) (fun x hx=>h x (List.mem_cons_of_mem _ hx))
  have h2:=Zef (Zds (h w List.mem_cons_self))
  rw[Zal]at this
  simp only[List.length_cons]
  omega
theorem Zhg(p:Parcel):(parcelForm p).size<=3000:=by
 have z0:(⟨#[]⟩:T).size=0:=rfl
 have z1:(⟨#[32]⟩:T).size=1:=rfl
 have z2:(⟨#[10]⟩:T).size=1:=rfl
 unfold parcelForm
 split
 case isFalse=>omega
 rename_i hb
 have hbs:=Zam hb
 unfold formSw
 split
 ·split
  case isFalse=>omega
  rename_i hc
  simp only[Bool.and_eq_true]at hc
  obtain⟨c1,c2,c3⟩:=hc
  obtain⟨i1,i2⟩:=Zb3 c1
  obtain⟨w1,w2,_⟩:=(Zas _).1 c2
  have hd:=(law140' p.seen (by omega) (by omega)).2
  have:=Zdj p.wants (toldHead p) w2
  have h5:(⟨#[116,111,108,100,32]⟩:T).size=5:=rfl
  have ht:(toldHead p).size<=100:=by
   unfold toldHead
   simp only[Zal]
   omega
  omega
 ·split
  ·split
   case isFalse=>omega
   rename_i hc
   simp only[Bool.and_eq_true]at hc
   obtain⟨c1,c2,c3,c4,c5⟩:=hc
   obtain⟨i1,i2⟩:=Zb3 c3
   have hd:=(law140' p.at_ i1 i2).2
   have hh:=Zam (Zb0 c1)
   have hk:=Zam c2
   have hw:(word p.kind).size<=10:=by
    unfold word
    split
    ·decide
    ·split<;>decide
   simp only[Zal]
   omega
  ·split
   ·split
    case isFalse=>omega
    rename_i hc
    simp only[Bool.and_eq_true]at hc
    obtain⟨c1,c2,c3,c4,c5⟩:=hc
    obtain⟨i1,i2⟩:=Zb3 c3
    have hd:=(law140' p.at_ i1 i2).2
    have hh:=Zam (Zb0 c1)
    have h5:(⟨#[103,111,116,98,97,99,107,32]⟩:T).size=8:=rfl
    simp only[Zal]
    omega
   ·split
    ·split
     case isFalse=>omega
     rename_i hc
     simp only[Bool.and_eq_true]at hc
     obtain⟨c1,c2,c3⟩:=hc
     obtain⟨i1,i2⟩:=Zb3 c1
     have hd:=(law140' p.seen i1 i2).2
     have h5:(⟨#[104,101,114,101,32]⟩:T).size=5:=rfl
     simp only[Zal]
     omega
    ·omega
def rowT(s:T):List AV:=[.str s]
def Wld.refs(w:Wld)(n:Nat):List AV:=[.int .i64 w.land.time,.ref n,.ref (n+1),.ref (n+2),.ref (n+3)]
def Wld.arrs(w:Wld):List AO:=[.arr 5 (w.land.grants.map Grant.c),.arr 3 (w.land.places.map (Place.c .own)),.arr 9 (w.mates.map (Mate.c .own)),.arr 1 (w.flight.map rowT)]
def sendF(fl:List T)(p:Parcel):List T:=if !sEq (parcelForm p) ⟨#[]⟩ && decide (fl.length<300) then fl++[parcelForm p] else fl
def sendW(w:Wld)(ps:List Parcel):Wld:={ w with flight:=ps.foldl sendF w.flight }
theorem Zkv(fl:List T)(p:Parcel):(sendF fl p).length<=max fl.length 300:=by
 unfold sendF
 split
 ·rename_i h
  simp only[Bool.and_eq_true,decide_eq_true_eq]at h
  rw[List.length_append,List.length_singleton]
  omega
 ·omega
theorem Zhq:∀ (ps:List Parcel) (fl:List T),(ps.foldl sendF fl).length<=max fl.length 300
 | [],fl=>by simp only[List.foldl_nil];omega
 | p::ps,fl=>by
  have h1:=Zhq ps (sendF fl p)
  have h2:=Zkv fl p
  rw[List.foldl_cons]
  omega
def wcells(f:Bool)(n k:Nat)(w:Wld):List AV:=[.int .i64 w.land.time,.ref n,.ref (n+1),.ref (n+2),if f then .ref k else .ref (n+3)]
def wheap(f:Bool)(w:Wld)(fl:List T):Nat->Option AO :=
 if f then upd (upd (upd (upd (upd (upd (fun _=>none) 5 (some (.arr 1 (fl.map rowT)))) 4 none) 3 (some (.arr 9 (w.mates.map (Mate.c .own))))) 2 (some (.arr 3 (w.land.places.map (Place.c .own))))) 1 (some (.arr 5 (w.land.grants.map Grant.c)))) 0 (some (.box (wcells true 1 5 w)))
 else upd (upd (upd (upd (upd (fun _=>none) 4 (some (.arr 1 (w.flight.map rowT)))) 3 (some (.arr 9 (w.mates.map (Mate.c .own))))) 2 (some (.arr 3 (w.land.places.map (Place.c .own))))) 1 (some (.arr 5 (w.land.grants.map Grant.c)))) 0 (some (.box (wcells false 1 5 w)))
def head205(w:Wld)(ps:List Parcel)(m:Md)(f:Bool)(fl:List T)(i:Nat):St :=
 { hd [(0,.ptr 0 0 0),(7,.sl .bor 7 (ps.map (Parcel.c m))),(8,.int .i64 ps.length),(9,.int .i64 i)] [] 5 with heap:=wheap f w fl,next:=if f then 6 else 5 }
def wgone(w:Wld):AV×List (Option AO):=(.tup [],[some (.box (w.c .own .own)),none,none,none,none])
theorem law205(w:Wld)(ps:List Parcel)(m:Md)(hl:ps.length<=1048576)(hps:∀ p∈ps,p.small)(hf:w.flight.length<=1000):F 205 [.ptr 0 0 0,.sl .bor 7 (ps.map (Parcel.c m))] (.box (w.refs 1)::w.arrs)=some (wgone (sendW w ps)):=by
 refine Zah fn205 rfl ?_
 simp[c205,Wld.refs,Wld.arrs]
 refine (Zab ps (fun i (z:Bool×List T)=>head205 w ps m z.1 z.2 i) (fun _ z=>(z.1=false->z.2=w.flight)/\z.2.length<=1000) (fun _ r z=>wgone { w with flight:=r.foldl sendF z.2 }) (fun z Y hinv=>?_) (fun i p r z Y hpi hi hr hinv hY=>?_) (false,w.flight) ?_ ⟨fun _=>rfl,hf⟩ (by unfold big;omega)).trans rfl
 ·obtain⟨f,fl⟩:=z
  obtain⟨g3,g4⟩:=hinv
  simp only at g3 g4 ⊢
  have e:(fun s:T=>[AV.str s])=rowT:=rfl
  cases f
  ·obtain rfl:=g3 rfl
   simp[head205,wcells,wheap,c205b0,List.range,List.range.loop,wgone,e]
  ·simp[head205,wcells,wheap,c205b0,List.range,List.range.loop,wgone,e]
 ·obtain⟨f,fl⟩:=z
  obtain⟨g3,g4⟩:=hinv
  simp only at g3 g4 hY ⊢
  have hiI:(i:Int)<ps.length:=by omega
  have hw:IntKind.i64.wrap ((i:Int)+1)=(i:Int)+1:=i64w (by omega) (by omega)
  obtain⟨_,hgp⟩:=List.getElem?_eq_some_iff.1 hpi
  have w218:=law218 p (hps p (List.mem_of_getElem? hpi))
  simp only[Parcel.c]at w218
  have hsl:=Zkv fl p
  have hc1:(fl.length+1)*16<=140737488355328:=by omega
  have hc2:fl.length+1<=140737488355328:=by omega
  have rp:rowsPlain [[AV.str (parcelForm p)]]=true:=rfl
  rw[List.foldl_cons]
  cases q:sEq (parcelForm p) ⟨#[]⟩
  ·by_cases h3:fl.length<300
   ·have h3I:(fl.length:Int)<300:=by omega
    have hst:sendF fl p=fl++[parcelForm p]:=by unfold sendF;simp[q,h3]
    rw[hst]
    cases f
    ·obtain rfl:=g3 rfl
     simp[head205,wcells,wheap,c205b0,hi,hiI,hgp,w218,q,h3I,takeRows,rp,hc1,hc2]
     refine hY (true,w.flight++[parcelForm p]) _ ⟨(fun h=>nomatch h),by simp;omega⟩ ?_
     simp[head205,wcells,wheap,hw,List.range,List.range.loop,rowT]
    ·simp[head205,wcells,wheap,c205b0,hi,hiI,hgp,w218,q,h3I,takeRows,rp,hc1,hc2]
     refine hY (true,fl++[parcelForm p]) _ ⟨(fun h=>nomatch h),by simp;omega⟩ ?_
     simp[head205,wcells,wheap,hw,List.range,List.range.loop,rowT]
   ·have hst:sendF fl p=fl:=by unfold sendF;simp[h3]
    rw[hst]
    cases f
    ·obtain rfl:=g3 rfl
     have h3I:¬ (w.flight.length:Int)<300:=by omega
     simp[head205,wcells,wheap,c205b0,hi,hiI,hgp,w218,q,h3I]
     refine hY (false,w.flight) _ ⟨fun _=>rfl,hf⟩ ?_
     simp[head205,wcells,wheap,hw,List.range,List.range.loop]
    ·have h3I:¬ (fl.length:Int)<300:=by omega
     simp[head205,wcells,wheap,c205b0,hi,hiI,hgp,w218,q,h3I]
     refine hY (true,fl) _ ⟨(fun h=>nomatch h),g4⟩ ?_
     simp[head205,wcells,wheap,hw,List.range,List.range.loop]
  ·have hst:sendF fl p=fl:=by unfold sendF;simp[q]
   rw[hst]
   cases f
   ·simp[head205,wcells,wheap,c205b0,hi,hiI,hgp,w218,q]
    refine hY (false,fl) _ ⟨g3,g4⟩ ?_
    simp[head205,wcells,wheap,hw,List.range,List.range.loop]
   ·simp[head205,wcells,wheap,c205b0,hi,hiI,hgp,w218,q]
    refine hY (true,fl) _ ⟨g3,g4⟩ ?_
    simp[head205,wcells,wheap,hw,List.range,List.range.loop]
 ·simp[head205,wcells,wheap,List.range,List.range.loop]
def zeroW:List AV:=[.int .i64 0,.sl .own 5 [],.sl .own 3 [],.sl .own 9 [],.sl .own 1 []]
theorem Zcd(l:List T):rowsPlain (l.map rowT)=true:=by
 induction l with
 | nil=>rfl
 | cons a l ih=>simp[rowsPlain,rowT]at ih ⊢
def ccells(n:Nat)(w:Wld)(acc:List Mate):List AV:=[.int .i64 w.land.time,.ref n,.ref (n+1),ownVi (n+2) 9 (acc.map (Mate.c .own)),.ref (if acc=[] then n+2 else n+3)]
def carrs(w:Wld)(acc:List Mate):List AO:=[.arr 5 (w.land.grants.map Grant.c),.arr 3 (w.land.places.map (Place.c .own))]++(ownH 9 (acc.map (Mate.c .own))++[.arr 1 (w.flight.map rowT)])
def head223(w:Wld)(mm:Md)(acc:List Mate)(i:Nat):St:=hd [(2,.ptr 0 0 0),(3,.ptr 1 0 0),(14,.sl .bor 9 (w.mates.map (Mate.c mm))),(15,.int .i64 w.mates.length),(16,.int .i64 i)] ([.box zeroW,.box (ccells 2 w acc)]++carrs w acc) 0
theorem law223c(w:Wld)(ml mm:Md)(hw:w.small)(hf:w.flight.length<=1000):F 223 [.agg (w.cc .bor ml mm)] []=some (.agg (w.c .own .own),[]):=by
 refine Zah fn223 rfl ?_
 have w122:=law122 w.land ml hw.land
 simp only[Land.c]at w122
 have e:(fun s:T=>[AV.str s])=rowT:=rfl
 have hc1:w.flight.length*16<=140737488355328:=by omega
 have hc2:w.flight.length<=140737488355328:=by omega
 have hlm:=hw.mates
 have rp:=Zcd w.flight
 simp[c223,w122,e,takeRows,hc1,hc2,rp]
 refine (Zab w.mates (fun i (acc:List Mate)=>head223 w mm acc i) (fun i acc=>acc.length=i) (fun _ r acc=>(AV.agg (({ w with mates:=acc++r }:Wld).c .own .own),([]:List (Option AO)))) (fun acc Y hacc=>?_) (fun i a r acc Y ha hi hr hacc hY=>?_) [] ?_ rfl ?_).trans ?_
 ·rcases acc with _|⟨x,acc⟩
  ·simp[head223,ccells,carrs,c223b0,zeroW,e]
  ·simp[head223,ccells,carrs,c223b0,zeroW,e]
 ·have hw1:IntKind.i64.wrap ((i:Int)+1)=(i:Int)+1:=i64w (by omega) (by omega)
  obtain⟨_,hg⟩:=List.getElem?_eq_some_iff.1 ha
  have w117:=law117 a (hw.each a (List.mem_of_getElem? ha))
  simp only[Mate.c]at w117
  have hb3:(acc.length+1)*144<=140737488355328:=by omega
  have hb4:acc.length+1<=140737488355328:=by omega
  have hY':=fun s' h=>hY (acc++[a]) s' (by simp[hacc]) h
  rcases acc with _|⟨x,acc⟩
  ·simp[head223,ccells,carrs,c223b0,zeroW,hi,hg,w117,takeRows]
   exact (hY' _ (by simp[head223,ccells,carrs,hw1,zeroW])).trans (by simp)
  ·simp at hb3 hb4
   simp[head223,ccells,carrs,c223b0,zeroW,hi,hg,w117,takeRows,hb3,hb4]
   exact (hY' _ (by simp[head223,ccells,carrs,hw1,zeroW])).trans (by simp)
 ·simp[head223,ccells,carrs,zeroW]
 ·unfold big;omega
 ·simp[e]
def outT(l:List T)(k:Nat):List T:=l.take k++l.drop (k+1)
def rateOf(rates:List Int)(i:Nat):Int:=match rates[i]? with
 | some r=>if inR r 1 4 then r else 2
 | none=>2
theorem Zpw(rates:List Int)(i:Nat):1<=rateOf rates i/\rateOf rates i<=4:=by
 unfold rateOf
 split
 ·split
  ·rename_i h
   simpa [inR] using h
  ·omega
 ·omega
def tickMates(rates:List Int):Nat->List Mate->List T->List Mate×List T
 | _,[],fl=>([],fl)
 | i,m::ms,fl=>((mateTick m (rateOf rates i)).1::(tickMates rates (i+1) ms ((mateTick m (rateOf rates i)).2.foldl sendF fl)).1,(tickMates rates (i+1) ms ((mateTick m (rateOf rates i)).2.foldl sendF fl)).2)
def tickW(w:Wld)(rates:List Int):Wld :=
 ⟨(landTick w.land).1,(tickMates rates 0 w.mates ((landTick w.land).2.foldl sendF w.flight)).1,(tickMates rates 0 w.mates ((landTick w.land).2.foldl sendF w.flight)).2⟩
structure Wld.fit(w:Wld):Prop where
 land:w.land.small
 mates:w.mates.length<=1000
 each:∀ m∈w.mates,Drawn m
 flight:w.flight.length<=1000
def rowI(n:Int):List AV:=[.int .i64 n]
theorem Zkx(l:Land)(h:l.small):(landTick l).1.small/\(landTick l).2.length<=1048576/\∀ p∈(landTick l).2,p.small:=by
 unfold landTick
 split
 ·split
  ·exact⟨h,by simp,fun p hp=>by simp at hp⟩
  ·refine⟨⟨h.1,h.2,h.3⟩,by simpa using h.places,fun p hp=>?_⟩
   obtain⟨x,hx,rfl⟩:=List.mem_map.1 hp
   exact⟨(h.3 x hx).wants⟩
 ·exact⟨⟨by simp[Land.zero],by simp[Land.zero],by simp[Land.zero]⟩,by simp,fun p hp=>by simp at hp⟩
def eraseG(h:T):List Grant->List Grant
 | []=>[]
 | g::r=>if sEq g.hold h then r else g::eraseG h r
theorem Zkp{h:T}{g:Grant}:∀ {gs:List Grant} {j:Nat},Asc Grant.k gs->gs[j]?=some g->g.hold=h->eraseG h gs=gs.take j++gs.drop (j+1)
 | [],j,_,hj,_=>by simp at hj
 | z::gs,j,ha,hj,he=>by
  have h1:=List.pairwise_cons.1 ha
  cases j with
  | zero =>
   simp at hj
   subst hj
   simp[eraseG,he]
  | succ j =>
   have hg:gs[j]?=some g:=by simpa using hj
   have hlt:=h1.1 g (List.mem_of_getElem? hg)
   unfold Grant.k at hlt
   rw[he]at hlt
   have hne:sEq z.hold h=false:=by
    cases q:sEq z.hold h with
    | false=>rfl
    | true=>rw[(Zac _ _).1 q,Zak]at hlt;cases hlt
   simp[eraseG,hne,Zkp h1.2 hg he]
def gotBack(p:Parcel):Parcel:=⟨5,p.berth,0,[],p.hold,⟨#[]⟩,p.at_⟩
def givenP(p:Parcel):Parcel:=⟨3,p.berth,0,[],p.hold,p.copy,p.at_⟩
def landBack(l:Land)(p:Parcel):Land:=match grantOf p.hold l.grants with
 | some g=>if sEq g.berth p.berth && decide (g.at_<=p.at_) then { l with grants:=eraseG p.hold l.grants } else l
 | none=>l
def takeOk(p:Parcel):Bool:=isName p.berth && (isHold p.hold && (isName p.copy && inR p.at_ 0 1000000))
def landTake(l:Land)(p:Parcel):Land×List Parcel :=
 if landOk l then
  if takeOk p then
   if p.kind=2 then match landGive l p with
    | some x=>(x,[givenP p])
    | none=>(l,[])
   else if p.kind=4 then (landBack l p,[gotBack p]) else (l,[])
  else (l,[])
 else (.zero,[])
theorem Zfc(t:Int):∀ (r pre:List Grant),Asc Grant.k pre->grantsGo t pre r=true->Asc Grant.k (pre++r)
 | [],pre,h,_=>by simpa using h
 | p::r,pre,h,k=>by
  simp only[grantsGo,Bool.and_eq_true]at k
  have e:ascG pre p=ascL Grant.k pre p:=by unfold ascG ascL;cases pre.getLast?<;>rfl
  have h2:=(Zco Grant.k pre p h).1 (by rw[<- e];exact k.2.1)
  have:=Zfc t r (pre++[p]) h2 k.2.2
  simpa using this
theorem Zjp{l:Land}(h:landOk l=true):Asc Grant.k l.grants/\0<=l.time/\l.time<=2000000/\l.grants.length<=40:=by
 have h40:=(Ze3 h).2.2
 simp only[landOk,inR,Bool.and_eq_true,decide_eq_true_eq]at h
 have:=Zfc l.time l.grants [] (Asc.nil _) (by first|exact h.2.2.2.2.1|exact h.2.2.2.1)
 exact⟨by simpa using this,h.1.1,h.1.2,h40⟩
theorem Zc5(t:Int):∀ (r pre:List Grant),Asc Grant.k pre->(grantsGo t pre r=true↔(∀ g∈r,grantOk t g=true)/\Asc Grant.k (pre++r))
 | [],pre,h=>by simp[grantsGo,h]
 | p::r,pre,h=>by
  simp only[grantsGo,Bool.and_eq_true]
  have e:ascG pre p=ascL Grant.k pre p:=by unfold ascG ascL;cases pre.getLast?<;>rfl
  have h2:=Zco Grant.k pre p h
  constructor
  ·rintro⟨h1,h3,h4⟩
   have h5:=h2.1 (by rw[<- e];exact h3)
   obtain⟨h6,h7⟩:=(Zc5 t r _ h5).1 h4
   refine⟨fun g hg=>?_,by simpa using h7⟩
   rcases List.mem_cons.1 hg with rfl|hg
   ·exact h1
   ·exact h6 g hg
  ·rintro⟨h1,h3⟩
   have h5:Asc Grant.k (pre++[p]):=by
    have:(pre++p::r)=(pre++[p])++r:=by simp
    rw[this]at h3
    exact (List.pairwise_append.1 h3).1
   refine⟨h1 p List.mem_cons_self,by rw[e];exact h2.2 h5,(Zc5 t r _ h5).2 ⟨fun g hg=>h1 g (List.mem_cons_of_mem _ hg),by simpa using h3⟩⟩
structure LandIs(l:Land):Prop where
 time:0<=l.time/\l.time<=2000000
 even:l.time.tmod 2=0
 ng:l.grants.length<=40
 np:l.places.length<=4
 grants:∀ g∈l.grants,grantOk l.time g=true
 asc:Asc Grant.k l.grants
 places:placesGo [] l.places=true
theorem Zbb(l:Land):landOk l=true↔LandIs l:=by
 simp only[landOk,inR,Bool.and_eq_true,decide_eq_true_eq,Zc5 l.time l.grants [] (Asc.nil _),List.nil_append]
 constructor
 ·rintro⟨h1,h2,h3,h4,⟨h5,h6⟩,h7⟩
  exact⟨h1,h2,h3,h4,h5,h6,h7⟩
 ·rintro⟨h1,h2,h3,h4,h5,h6,h7⟩
  exact⟨h1,h2,h3,h4,⟨h5,h6⟩,h7⟩
theorem LandIs.set{l:Land}(h:LandIs l){gs:List Grant}(h1:gs.length<=40)(h2:∀ g∈gs,grantOk l.time g=true)(h3:Asc Grant.k gs):LandIs { l with grants:=gs }:=⟨h.time,h.even,h1,h.np,h2,h3,h.places⟩
theorem Zl7{l:Land}(h:LandIs l){p:Parcel}(hp:takeOk p=true):grantOk l.time (newGrant l.time p)=true:=by
 simp only[takeOk,Bool.and_eq_true]at hp
 obtain⟨h1,h2,h3,h4⟩:=hp
 have hw:IntKind.i64.wrap (l.time+32)=l.time+32:=i64w (by have:=h.time;omega) (by have:=h.time;omega)
 have ht:=h.time
 have e:inR (l.time+32) 0 (l.time+32)=true:=by simp[inR];omega
 simp only[grantOk,newGrant,Bool.and_eq_true,hw]
 exact⟨h2,h1,h3,h4,e⟩
theorem Zj3{h:T}{gs:List Grant}{g:Grant}(hg:grantOf h gs=some g):g∈gs/\g.hold=h:=by
 unfold grantOf at hg
 exact⟨List.mem_of_find?_eq_some hg,(Zac _ _).1 (by simpa using List.find?_some hg)⟩
theorem Zkw{h:T}{gs:List Grant}(hg:grantOf h gs=none):Lacks Grant.k h gs:=fun y hy e=>by
 unfold grantOf at hg
 have:=List.find?_eq_none.1 hg y hy
 exact this ((Zac _ _).2 e)
theorem Zta{gs:List Grant}(ha:Asc Grant.k gs){g h:Grant}(hg:g∈gs)(hh:h∈gs)(e:g.hold=h.hold):g=h:=by
 obtain⟨i,hi⟩:=List.getElem?_of_mem hg
 obtain⟨j,hj⟩:=List.getElem?_of_mem hh
 have:=Zug Grant.k ha hi hj e
 subst this
 rw[hi]at hj
 exact Option.some.inj hj
theorem Zix{x g:Grant}{gs:List Grant}(ha:Asc Grant.k gs)(hg:g∈gs)(he:g.hold=x.hold):(putBy Grant.k x gs).length=gs.length:=by
 obtain⟨i,hi⟩:=List.getElem?_of_mem hg
 rw[Zcg Grant.k ha hi he,List.length_set]
theorem Zg1{t:Int}{gs:List Grant}:(lives40 t gs).Sublist gs:=by
 unfold lives40
 split
 ·exact List.filter_sublist
 ·exact List.Sublist.refl _
theorem Zhj{l x:Land}{p:Parcel}(h:LandIs l)(hp:takeOk p=true)(hg:landGive l p=some x):LandIs x/\x.places=l.places/\x.time=l.time/\∃ gs,gs.Sublist l.grants/\x.grants=putBy Grant.k (newGrant l.time p) gs /\
  (∀ g∈l.grants,g.hold=p.hold->blocks l.time p g=false):=by
 unfold landGive at hg
 split at hg
 case isFalse=>cases hg
 have key:∀ gs:List Grant,gs.Sublist l.grants->(putBy Grant.k (newGrant l.time p) gs).length<=40->LandIs { l with grants:=putBy Grant.k (newGrant l.time p) gs }:=fun gs hs hl=>by
  refine h.set hl (fun g hg=>?_) (Zap Grant.k (h.asc.sublist hs))
  rcases Zav Grant.k hg with rfl|hg
  ·exact Zl7 h hp
  ·exact h.grants g (hs.subset hg)
 cases hG:grantOf p.hold l.grants with
 | some g =>
  rw[hG]at hg
  simp only at hg
  split at hg
  ·cases hg
  ·rename_i hb
   obtain rfl:=Option.some.inj hg
   obtain⟨h1,h2⟩:=Zj3 hG
   refine⟨key _ (List.Sublist.refl _) (by rw[Zix h.asc h1 h2];exact h.ng),rfl,rfl,_,List.Sublist.refl _,rfl,fun g' hg' e=>?_⟩
   rw[Zta h.asc hg' h1 (e.trans h2.symm)]
   simpa using hb
 | none =>
  rw[hG]at hg
  simp only at hg
  split at hg
  ·cases hg
  ·rename_i hb
   obtain rfl:=Option.some.inj hg
   refine⟨key _ Zg1 (by have:=Zax Grant.k (newGrant l.time p) (lives40 l.time l.grants);omega),rfl,rfl,_,Zg1,rfl,fun g' hg' e=>absurd e (Zkw hG g' hg')⟩
theorem Zcf{h:T}:∀ {gs:List Grant},(eraseG h gs).Sublist gs
 | []=>List.Sublist.refl _
 | g::r=>by
  unfold eraseG
  split
  ·exact List.sublist_cons_self g r
  ·exact Zcf.cons_cons g
theorem Zg6{l:Land}{p:Parcel}(h:LandIs l):LandIs (landBack l p)/\(landBack l p).places=l.places/\(landBack l p).time=l.time/\(landBack l p).grants.Sublist l.grants:=by
 unfold landBack
 cases grantOf p.hold l.grants with
 | none=>exact⟨h,rfl,rfl,List.Sublist.refl _⟩
 | some g =>
  simp only
  split
  ·exact⟨h.set (Nat.le_trans Zcf.length_le h.ng) (fun g hg=>h.grants g (Zcf.subset hg)) (h.asc.sublist Zcf),rfl,rfl,Zcf⟩
  ·exact⟨h,rfl,rfl,List.Sublist.refl _⟩
theorem Zmj{l:Land}{p:Parcel}(h:landOk l=true):landOk (landTake l p).1=true:=by
 have hi:=(Zbb l).1 h
 unfold landTake
 rw[if_pos h]
 by_cases hp:takeOk p=true
 ·rw[if_pos hp]
  by_cases k2:p.kind=2
  ·rw[if_pos k2]
   cases hg:landGive l p with
   | none=>exact h
   | some x=>exact (Zbb x).2 (Zhj hi hp hg).1
  ·rw[if_neg k2]
   by_cases k4:p.kind=4
   ·rw[if_pos k4];exact (Zbb _).2 (Zg6 hi).1
   ·rw[if_neg k4];exact h
 ·rw[if_neg hp];exact h
theorem Zlz{l:Land}(h:landOk l=true):landOk (landTick l).1=true:=by
 have hi:=(Zbb l).1 h
 unfold landTick
 rw[if_pos h]
 split
 ·exact h
 ·rename_i ht
  have hb:=hi.time
  have he:=hi.even
  have hlt:l.time<2000000:=by omega
  have hm:(l.time+2).tmod 2=0:=by
   rw[Int.tmod_eq_emod_of_nonneg (by omega)]
   rw[Int.tmod_eq_emod_of_nonneg (by omega)]at he
   omega
  refine (Zbb _).2 ⟨?_,?_,hi.ng,hi.np,fun g hg=>?_,hi.asc,hi.places⟩
  ·simp only;have hev:l.time % 2=0:=by rw[Int.tmod_eq_emod_of_nonneg (by omega)]at he;exact he
   omega
  ·exact hm
  ·show grantOk (l.time+2) g=true
   have:=hi.grants g hg
   have e1:IntKind.i64.wrap (l.time+32)=l.time+32:=i64w (by omega) (by omega)
   have e2:IntKind.i64.wrap (l.time+2+32)=l.time+2+32:=i64w (by omega) (by omega)
   simp only[grantOk,inR,Bool.and_eq_true,decide_eq_true_eq,e1,e2]at this ⊢
   exact⟨this.1,this.2.1,this.2.2.1,this.2.2.2.1,by omega⟩
theorem Zkk{l:Land}{b:T}{ws:List Want}:(matePut l b ws).2=1\/landOk (matePut l b ws).1=true:=by
 unfold matePut
 by_cases h1:landOk l=true
 ·rw[if_pos h1]
  by_cases h2:(isName b && wantsOk ws)=true
  ·rw[if_pos h2]
   by_cases h3:landOk (landPut l b ws)=true
   ·rw[if_pos h3];exact .inr h3
   ·rw[if_neg h3];exact .inr h1
  ·rw[if_neg h2];exact .inr h1
 ·rw[if_neg h1];exact .inl rfl
/-! ### What an event makes of a world -/
def isDown(k:Int):Bool:=k == 1 || (k == 3 || k == 5)
def bringW (w:Wld) (k:Nat):Wld:=match w.flight[k]? with
  | none => w
  | some s =>
    if (readT s).2 then
      (if isDown (readT s).1.kind then { w with flight:=outT w.flight k,mates:=w.mates.map fun m => if sEq m.name (readT s).1.berth then mateTake m (readT s).1 else m }
       else sendW { w with flight:=outT w.flight k,land:=(landTake w.land (readT s).1).1 } (landTake w.land (readT s).1).2)
    else { w with flight:=outT w.flight k }
def atE(a:Int)(n:Nat):Bool:=decide (0<=a) && decide (a<n)
def doubleW(w:Wld)(k:Nat):Wld:=match w.flight[k]? with
 | none=>w
 | some s=>if w.flight.length<300 then { w with flight:=w.flight++[s] } else w
def mateW(w:Wld)(k:Nat)(f:Mate->Mate):Wld:=match w.mates[k]? with
 | none=>w
 | some m=>{ w with mates:=w.mates.set k (f m) }
def putW(w:Wld)(k:Nat)(ws:List Want):Wld:=match w.mates[k]? with
 | none=>w
 | some m=>if (matePut w.land m.name ws).2=0 then { w with land:=(matePut w.land m.name ws).1 } else w
def doW(w:Wld)(e:Event):Wld :=
 if e.kind=1 then tickW w e.rates
 else if e.kind=2 then (if atE e.a w.flight.length then bringW w e.a.toNat else w)
 else if e.kind=3 then (if atE e.a w.flight.length then doubleW w e.a.toNat else w)
 else if e.kind=4 then (if atE e.a w.flight.length then { w with flight:=outT w.flight e.a.toNat } else w)
 else if e.kind=5 then (if atE e.a w.mates.length then mateW w e.a.toNat (fun m=>mateFall m (e.b != 0)) else w)
 else if e.kind=6 then (if atE e.a w.mates.length then mateW w e.a.toNat mateRise else w)
 else if e.kind=7 then (if atE e.a w.mates.length then putW w e.a.toNat e.wants else w)
 else w
def bringsW:Nat->Wld->Wld
 | 0,w=>w
 | n+1,w=>bringsW n (bringW w 0)
def roundW(w:Wld)(rates:List Int):Wld :=
 let a:=tickW w rates
 let b:=bringsW a.flight.length a
 bringsW b.flight.length b
def roundsW(rates:List Int):Nat->Wld->Wld
 | 0,w=>w
 | n+1,w=>roundsW rates n (roundW w rates)
/-! ### Worlds that are ok, with few holds -/
structure HoldsM(m:Mate):Prop where
 wants:∀ w∈m.wants,inS w.hold=true
 runs:∀ r∈m.runs,inS r.want.hold=true
 asks:∀ a∈m.asks,inS a.hold=true
 gives:∀ a∈m.gives,inS a.hold=true
theorem Zrq{α:Type}(key:α->T):∀ (S:List T) (l:List α),l.Pairwise (fun a b=>key a≠key b)->(∀ a∈l,key a∈S)->l.length<=S.length
 | [],l,_,h=>by
  cases l with
  | nil=>simp
  | cons a l=>exact absurd (h a List.mem_cons_self) (by simp)
 | s::S,l,hp,h=>by
  have ih:=Zrq key S (l.filter fun a=>!sEq (key a) s) (hp.filter _) (fun a ha=>by
   obtain⟨h1,h2⟩:=List.mem_filter.1 ha
   rcases List.mem_cons.1 (h a h1) with e|e
   ·rw[(Zac _ _).2 e]at h2;cases h2
   ·exact e)
  have hone:∀ l:List α,l.Pairwise (fun a b=>key a≠key b)->l.length<=(l.filter fun a=>!sEq (key a) s).length+1:=by
   intro l
   induction l with
   | nil=>intro _;simp
   | cons a l ih2 =>
    intro hp2
    obtain⟨p1,p2⟩:=List.pairwise_cons.1 hp2
    rw[List.filter_cons]
    cases q:sEq (key a) s
    ·have:=ih2 p2
     simp
     omega
    ·have hall:l.filter (fun a=>!sEq (key a) s)=l:=List.filter_eq_self.2 fun b hb=>by
      have hne:=p1 b hb
      rw[(Zac _ _).1 q]at hne
      simp[Zad (Ne.symm hne)]
     simp[hall]
  have:=hone l hp
  rw[List.length_cons]
  omega
theorem Zrp{α:Type}{key:α->T}{l:List α}(h:Asc key l):l.Pairwise (fun a b=>key a≠key b) :=
 List.Pairwise.imp (fun {a b} h e=>by rw[e,Zak]at h;cases h) h
theorem few{l:List Ask}{c:Int}(h:AsksIs l c)(hS:∀ a∈l,inS a.hold=true):l.length<=20:=by
 refine Nat.le_trans (Zrq Ask.k [(⟨#[]⟩:T),⟨#[118,111,108]⟩,⟨#[105,112]⟩,⟨#[118,111,108,50]⟩,⟨#[122,122]⟩,⟨#[42]⟩,⟨#[120,32,121]⟩] l (Zrp h.asc) fun a ha=>?_) (by decide)
 have:=hS a ha
 unfold inS at this
 obtain⟨x,hx,e⟩:=List.any_eq_true.1 this
 rw[show Ask.k a=x from (Zac _ _).1 e]
 exact hx
structure WIs(w:Wld):Prop where
 land:landOk w.land=true
 one:1<=w.mates.length
 four:w.mates.length<=4
 fl:w.flight.length<=300
 mates:∀ m∈w.mates,MateIs m
 asc:Asc (·.name) w.mates
 texts:∀ s∈w.flight,s.size<=3000
 hm:∀ m∈w.mates,HoldsM m
 hl:∀ p∈w.land.places,∀ x∈p.wants,inS x.hold=true
 hf:∀ s∈w.flight,(readT s).2=true->∀ x∈(readT s).1.wants,inS x.hold=true
theorem Zdx:∀ (l pre:List Mate),Asc (·.name) pre->(matesGo pre l=true↔(∀ m∈l,mateValid m=true)/\Asc (·.name) (pre++l))
 | [],pre,h=>by simp[matesGo,h]
 | r::rs,pre,h=>by
  have e:=Zco (fun x:Mate=>x.name) pre r h
  have ea:ascM pre r=ascL (fun x:Mate=>x.name) pre r:=by unfold ascM ascL;cases pre.getLast?<;>rfl
  rw[<- ea]at e
  simp only[matesGo,Bool.and_eq_true,List.mem_cons,forall_eq_or_imp]
  constructor
  ·rintro⟨h1,h2,h3⟩
   have h4:=e.1 h2
   have:=(Zdx rs (pre++[r]) h4).1 h3
   exact⟨⟨h1,this.1⟩,by simpa using this.2⟩
  ·rintro⟨⟨h1,h2⟩,h3⟩
   have h4:Asc (fun x:Mate=>x.name) (pre++[r]):=by
    have:pre++r::rs=(pre++[r])++rs:=by simp
    rw[this]at h3
    exact (List.pairwise_append.1 h3).1
   exact⟨h1,e.2 h4,(Zdx rs (pre++[r]) h4).2 ⟨h2,by simpa using h3⟩⟩
theorem Zgt(w:Wld):worldOk w=true↔landOk w.land=true/\(1<=w.mates.length/\w.mates.length<=4)/\w.flight.length<=300/\(∀ m∈w.mates,MateIs m)/\Asc (·.name) w.mates:=by
 simp only[worldOk,Bool.and_eq_true,decide_eq_true_eq,Zdx w.mates [] (Asc.nil _),List.nil_append]
 constructor
 ·rintro⟨h1,h2,h3,h4,h5,h6⟩
  exact⟨h1,⟨h2,h3⟩,h4,fun m hm=>Zai.1 (h5 m hm),h6⟩
 ·rintro⟨h1,⟨h2,h3⟩,h4,h5,h6⟩
  exact⟨h1,h2,h3,h4,fun m hm=>Zai.2 (h5 m hm),h6⟩
theorem WIs.ok{w:Wld}(h:WIs w):worldOk w=true:=(Zgt w).2 ⟨h.land,⟨h.one,h.four⟩,h.fl,h.mates,h.asc⟩
theorem Zi6{r r':Run}{w:Want}{b:Bool}{c:Int}(e:mateLive r w b c=some r'):r'.want=r.want:=by
 have hb:(beginR r c).want=r.want:=by unfold beginR;split<;>rfl
 unfold mateLive at e
 repeat' split at e
 all_goals first|(cases e;done)|(obtain rfl:=Option.some.inj e;first|exact hb|rfl)
theorem Zkt{h:T}{s:LV}(ha:∀ a∈s.asks,inS a.hold=true)(hg:∀ a∈s.gives,inS a.hold=true):(∀ a∈(giveUp h s).asks,inS a.hold=true)/\(∀ a∈(giveUp h s).gives,inS a.hold=true)/\(giveUp h s).runs=s.runs:=by
 unfold giveUp
 split
 ·exact⟨ha,hg,rfl⟩
 ·split
  ·exact⟨ha,hg,rfl⟩
  ·rename_i a e
   refine⟨fun x hx=>ha x (List.mem_filter.1 hx).1,fun x hx=>?_,rfl⟩
   simp only at hx
   split at hx
   ·rcases Zav Ask.k hx with rfl|hx
    ·exact ha _ (List.mem_of_find?_eq_some e)
    ·exact hg x hx
   ·exact hg x hx
theorem Zd4(c:Int)(ws:List Want):∀ (rs:List Run) (s:LV),(∀ r∈rs,inS r.want.hold=true)->(∀ r∈s.runs,inS r.want.hold=true)->(∀ a∈s.asks,inS a.hold=true)->(∀ a∈s.gives,inS a.hold=true) ->
  (∀ r∈(rs.foldl (liveStep c ws) s).runs,inS r.want.hold=true)/\(∀ a∈(rs.foldl (liveStep c ws) s).asks,inS a.hold=true)/\(∀ a∈(rs.foldl (liveStep c ws) s).gives,inS a.hold=true)
 | [],s,_,h1,h2,h3=>⟨h1,h2,h3⟩
 | r::rs,s,hr,h1,h2,h3=>by
  have hk:(∀ x∈(liveStep c ws s r).runs,inS x.want.hold=true)/\(∀ a∈(liveStep c ws s r).asks,inS a.hold=true)/\(∀ a∈(liveStep c ws s r).gives,inS a.hold=true):=by
   unfold liveStep
   split
   ·rename_i n e
    refine⟨fun x hx=>?_,h2,h3⟩
    simp only at hx
    rcases List.mem_append.1 hx with hx|hx
    ·exact h1 x hx
    ·rw[List.mem_singleton.1 hx,Zi6 e]
     exact hr r List.mem_cons_self
   ·obtain⟨a1,a2,a3⟩:=Zkt (h:=r.want.hold) h2 h3
    exact⟨by rw[a3];exact h1,a1,a2⟩
  exact Zd4 c ws rs _ (fun x hx=>hr x (List.mem_cons_of_mem _ hx)) hk.1 hk.2.1 hk.2.2
theorem Zd7:∀ (ws:List Want) (rs:List Run),(∀ w∈ws,inS w.hold=true)->(∀ r∈rs,inS r.want.hold=true)->∀ r∈ws.foldl addRun rs,inS r.want.hold=true
 | [],_,_,h=>h
 | w::ws,rs,hw,h=>by
  refine Zd7 ws _ (fun x hx=>hw x (List.mem_cons_of_mem _ hx)) fun r hr=>?_
  unfold addRun at hr
  split at hr
  ·exact h r hr
  ·rcases Zav Run.k hr with rfl|hr
   ·exact hw w List.mem_cons_self
   ·exact h r hr
theorem Zjr{c:Int}{r:Run}{l:List Ask}{a:Ask}(e:freshAsk c r l=some a):a.hold=r.want.hold:=by
 unfold freshAsk at e
 repeat' split at e
 all_goals first|(cases e;done)|(rw[<- Option.some.inj e])
theorem Zfo(m:Mate):∀ (rs:List Run) (s:List Ask×List Parcel),(∀ r∈rs,inS r.want.hold=true)->(∀ a∈s.1,inS a.hold=true)->∀ a∈(rs.foldl (askStep m) s).1,inS a.hold=true
 | [],_,_,h=>h
 | r::rs,s,hr,h=>by
  refine Zfo m rs _ (fun x hx=>hr x (List.mem_cons_of_mem _ hx)) fun a ha=>?_
  unfold askStep at ha
  split at ha
  ·split at ha
   ·rename_i b e
    rcases Zav Ask.k ha with rfl|ha
    ·rw[Zjr e];exact hr r List.mem_cons_self
    ·exact h a ha
   ·exact h a ha
  ·exact h a ha
theorem Zdc:HoldsM .zero:=⟨fun _ h=>by simp[Mate.zero]at h,fun _ h=>by simp[Mate.zero]at h,fun _ h=>by simp[Mate.zero]at h,fun _ h=>by simp[Mate.zero]at h⟩
theorem Zkf{b:Bool}{r r':Run}(e:fallRun b r=some r'):r'.want=r.want:=by
 unfold fallRun at e
 repeat' split at e
 all_goals first|(cases e;done)|(rw[<- Option.some.inj e])
theorem Zh5{m:Mate}(b:Bool)(h:HoldsM m):HoldsM (mateFall m b):=by
 unfold mateFall
 split
 ·refine⟨fun _ h=>by simp[Mate.zero]at h,fun r hr=>?_,fun _ h=>by simp[Mate.zero]at h,fun _ h=>by simp[Mate.zero]at h⟩
  obtain⟨r0,k1,k2⟩:=List.mem_filterMap.1 hr
  rw[Zkf k2]
  exact h.runs r0 k1
 ·exact Zdc
theorem Zoz{m:Mate}(h:HoldsM m):HoldsM (mateRise m):=by
 unfold mateRise
 split
 ·exact⟨h.wants,h.runs,h.asks,h.gives⟩
 ·exact Zdc
theorem Zny{m:Mate}{rate:Int}(h:HoldsM m):HoldsM (mateTick m rate).1/\∀ p∈(mateTick m rate).2,p.wants=[]:=by
 have h1:HoldsM (tickOn m rate):=⟨h.wants,fun r hr=>by
  obtain⟨r0,k1,rfl⟩:=List.mem_map.1 hr
  rw[Zl9];exact h.runs r0 k1,h.asks,h.gives⟩
 have key:∀ x:Mate,HoldsM x->HoldsM (mAsks x)/\∀ p∈tickOut x,p.wants=[]:=fun x hx=>by
  refine⟨⟨hx.wants,hx.runs,Zfo x x.runs (x.asks,[]) hx.runs hx.asks,hx.gives⟩,fun p hp=>?_⟩
  simp only[tickOut,List.mem_append,List.mem_singleton,List.mem_map]at hp
  rcases hp with (hp|⟨b,_,rfl⟩)|rfl
  ·exact (Zev x x.runs (x.asks,[])).2.2 (fun p hp=>by simp at hp) p hp
  ·rfl
  ·rfl
 unfold mateTick
 split
 case isFalse=>exact⟨Zdc,fun p hp=>by simp at hp⟩
 split
 case isFalse=>exact⟨h,fun p hp=>by simp at hp⟩
 split
 ·have hf:=Zh5 true h
  exact⟨⟨hf.wants,hf.runs,hf.asks,hf.gives⟩,fun p hp=>by simp at hp⟩
 split
 case isFalse=>exact⟨h1,fun p hp=>by simp at hp⟩
 unfold tickRuns
 split
 ·obtain⟨a1,a2,a3⟩:=Zd4 (tickOn m rate).clock (tickOn m rate).wants (tickOn m rate).runs ⟨[],(tickOn m rate).asks,(tickOn m rate).gives⟩ h1.runs (fun r hr=>by simp at hr) h1.asks h1.gives
  exact key _ ⟨h1.wants,Zd7 _ _ h1.wants a1,a2,a3⟩
 ·exact key _ h1
theorem Znw{m:Mate}{p:Parcel}(h:HoldsM m)(hp:∀ x∈p.wants,inS x.hold=true):HoldsM (mateTake m p):=by
 unfold mateTake
 split
 case isFalse=>exact Zdc
 split
 case isFalse=>exact h
 unfold takeKind
 split
 ·unfold takeTold
  split
  ·exact⟨hp,h.runs,h.asks,h.gives⟩
  ·exact h
 split
 ·unfold takeGiven
  split
  ·split
   ·refine⟨h.wants,fun r hr=>?_,h.asks,h.gives⟩
    obtain⟨r0,k1,rfl⟩:=List.mem_map.1 hr
    have:(giveRun p r0).want=r0.want:=by unfold giveRun;split<;>rfl
    rw[this];exact h.runs r0 k1
   ·exact h
  ·exact h
 split
 ·unfold takeBack'
  split
  ·split
   ·exact⟨h.wants,h.runs,h.asks,fun a ha=>h.gives a (List.mem_filter.1 ha).1⟩
   ·exact h
  ·exact h
 ·exact h
/-! Names. -/
theorem Zp5{m:Mate}{rate:Int}(h:mateValid m=true):(mateTick m rate).1.name=m.name:=by
 have ef:mateFall m true={ Mate.zero with name:=m.name,clock:=m.clock,runs:=m.runs.filterMap (fallRun true) }:=if_pos h
 unfold mateTick
 rw[if_pos h]
 split
 case isFalse=>rfl
 split
 ·rw[ef]
 split
 case isFalse=>rfl
 unfold tickRuns
 split<;>rfl
theorem Zqe{m:Mate}{p:Parcel}(h:mateValid m=true):(mateTake m p).name=m.name:=by
 unfold mateTake
 rw[if_pos h]
 split
 case isFalse=>rfl
 unfold takeKind
 split
 ·unfold takeTold;split<;>rfl
 split
 ·unfold takeGiven
  split
  ·split<;>rfl
  ·rfl
 split
 ·unfold takeBack'
  split
  ·split<;>rfl
  ·rfl
 ·rfl
theorem Zpv{m:Mate}{b:Bool}(h:mateValid m=true):(mateFall m b).name=m.name:=by
 unfold mateFall;rw[if_pos h]
theorem Zqj{m:Mate}(h:mateValid m=true):(mateRise m).name=m.name:=by
 unfold mateRise;rw[if_pos h]
/-! The flight. -/
structure FlOk(fl:List T):Prop where
 len:fl.length<=300
 texts:∀ s∈fl,s.size<=3000
 holds:∀ s∈fl,(readT s).2=true->∀ x∈(readT s).1.wants,inS x.hold=true
theorem FlOk.send:∀ (ps:List Parcel) (fl:List T),FlOk fl->(∀ p∈ps,∀ x∈p.wants,inS x.hold=true)->FlOk (ps.foldl sendF fl)
 | [],_,h,_=>h
 | p::ps,fl,h,hp=>by
  have h1:FlOk (sendF fl p):=by
   unfold sendF
   split
   ·rename_i q
    simp only[Bool.and_eq_true,decide_eq_true_eq,Bool.not_eq_true']at q
    have hne:parcelForm p≠⟨#[]⟩:=fun e=>by rw[(Zac _ _).2 e]at q;cases q.1
    refine⟨by rw[List.length_append,List.length_singleton];omega,fun s hs=>?_,fun s hs=>?_⟩
    ·rcases List.mem_append.1 hs with hs|hs
     ·exact h.texts s hs
     ·rw[List.mem_singleton.1 hs];exact Zhg p
    ·rcases List.mem_append.1 hs with hs|hs
     ·exact h.holds s hs
     ·rw[List.mem_singleton.1 hs,Zig hne]
      exact fun _=>hp p List.mem_cons_self
   ·exact h
  exact FlOk.send ps _ h1 fun q hq=>hp q (List.mem_cons_of_mem _ hq)
theorem FlOk.sub{fl gl:List T}(h:FlOk fl)(hs:∀ s∈gl,s∈fl)(hl:gl.length<=300):FlOk gl :=
 ⟨hl,fun s k=>h.texts s (hs s k),fun s k=>h.holds s (hs s k)⟩
theorem FlOk.out{fl:List T}(h:FlOk fl)(k:Nat):FlOk (outT fl k):=by
 refine h.sub (fun s hs=>?_) ?_
 ·rcases List.mem_append.1 hs with hs|hs
  ·exact List.mem_of_mem_take hs
  ·exact List.mem_of_mem_drop hs
 ·have:=h.len
  simp only[outT,List.length_append,List.length_take,List.length_drop]
  omega
theorem WIs.flight{w:Wld}(h:WIs w):FlOk w.flight:=⟨h.fl,h.texts,h.hf⟩
theorem WIs.mk'{w:Wld}(h:WIs w){l:Land}{ms:List Mate}{fl:List T}(h1:landOk l=true)(h2:∀ p∈l.places,∀ x∈p.wants,inS x.hold=true)(h3:ms.map (·.name)=w.mates.map (·.name))(h4:∀ m∈ms,MateIs m)(h5:∀ m∈ms,HoldsM m)(h6:FlOk fl):WIs ⟨l,ms,fl⟩:=by
 have hlen:ms.length=w.mates.length:=by simpa using congrArg List.length h3
 have hasc:Asc (·.name) ms:=by
  have:=h.asc
  rw[Zgh]at this ⊢
  rw[h3];exact this
 exact⟨h1,by have:=h.one;simp only;omega,by have:=h.four;simp only;omega,h6.len,h4,hasc,h6.texts,h5,h2,h6.holds⟩
theorem Zf0(rates:List Int):∀ (ms:List Mate) (i:Nat) (fl:List T),(∀ m∈ms,MateIs m)->(∀ m∈ms,HoldsM m)->FlOk fl ->
  (tickMates rates i ms fl).1.map (·.name)=ms.map (·.name)/\(∀ m∈(tickMates rates i ms fl).1,MateIs m)/\(∀ m∈(tickMates rates i ms fl).1,HoldsM m)/\FlOk (tickMates rates i ms fl).2
 | [],_,_,h1,h2,h3=>⟨rfl,h1,h2,h3⟩
 | m::ms,i,fl,h1,h2,h3=>by
  have m1:=h1 m List.mem_cons_self
  have m2:=h2 m List.mem_cons_self
  obtain⟨t1,t2,t3⟩:=Zt3 (rate:=rateOf rates i) m1 (few m1.asks m2.asks)
  obtain⟨u1,u2⟩:=Zny (rate:=rateOf rates i) m2
  have u3:=Zp5 (rate:=rateOf rates i) (Zai.2 m1)
  have h4:=FlOk.send (mateTick m (rateOf rates i)).2 fl h3 (fun p hp=>by rw[u2 p hp];exact fun x hx=>by simp at hx)
  obtain⟨r1,r2,r3,r4⟩:=Zf0 rates ms (i+1) _ (fun x hx=>h1 x (List.mem_cons_of_mem _ hx)) (fun x hx=>h2 x (List.mem_cons_of_mem _ hx)) h4
  unfold tickMates
  refine⟨by simp only[List.map_cons,u3,r1],fun x hx=>?_,fun x hx=>?_,r4⟩
  ·rcases List.mem_cons.1 hx with rfl|hx
   ·exact t1
   ·exact r2 x hx
  ·rcases List.mem_cons.1 hx with rfl|hx
   ·exact u1
   ·exact r3 x hx
theorem Zmd{l:Land}(h:landOk l=true):(landTick l).1.places=l.places/\∀ p∈(landTick l).2,∃ q∈l.places,p.wants=q.wants:=by
 unfold landTick
 rw[if_pos h]
 split
 ·exact⟨rfl,fun p hp=>by simp at hp⟩
 ·refine⟨rfl,fun p hp=>?_⟩
  obtain⟨q,hq,rfl⟩:=List.mem_map.1 hp
  exact⟨q,hq,rfl⟩
theorem Zgs{l:Land}{p:Parcel}(h:landOk l=true):(landTake l p).1.places=l.places/\(landTake l p).2.length<=1/\∀ q∈(landTake l p).2,q.wants=[]:=by
 have hi:=(Zbb l).1 h
 unfold landTake
 rw[if_pos h]
 split
 case isFalse=>exact⟨rfl,by simp,fun q hq=>by simp at hq⟩
 rename_i hp
 split
 ·split
  ·rename_i x hg
   exact⟨(Zhj hi hp hg).2.1,by simp,fun q hq=>by rw[List.mem_singleton.1 hq];rfl⟩
  ·exact⟨rfl,by simp,fun q hq=>by simp at hq⟩
 split
 ·exact⟨(Zg6 hi).2.1,by simp,fun q hq=>by rw[List.mem_singleton.1 hq];rfl⟩
 ·exact⟨rfl,by simp,fun q hq=>by simp at hq⟩
theorem WIs.tick{w:Wld}(h:WIs w)(rates:List Int):WIs (tickW w rates):=by
 obtain⟨a1,a2⟩:=Zmd h.land
 have h4:=FlOk.send (landTick w.land).2 w.flight h.flight (fun p hp=>by
  obtain⟨q,hq,e⟩:=a2 p hp
  rw[e];exact h.hl q hq)
 obtain⟨r1,r2,r3,r4⟩:=Zf0 rates w.mates 0 _ h.mates h.hm h4
 exact h.mk' (Zlz h.land) (by rw[a1];exact h.hl) r1 r2 r3 r4
theorem WIs.bring{w:Wld}(h:WIs w)(k:Nat):WIs (bringW w k):=by
 unfold bringW
 split
 ·exact h
 ·rename_i s hs
  have hm:=List.mem_of_getElem? hs
  have ho:=h.flight.out k
  split
  ·rename_i hok
   have hw:=h.hf s hm hok
   split
   ·refine h.mk' h.land h.hl ?_ (fun m hm'=>?_) (fun m hm'=>?_) ho
    ·rw[List.map_map]
     refine List.map_congr_left fun m hm'=>?_
     simp only[Function.comp_apply]
     split
     ·exact Zqe (Zai.2 (h.mates m hm'))
     ·rfl
    ·obtain⟨m0,k1,rfl⟩:=List.mem_map.1 hm'
     split
     ·exact Zuj (h.mates m0 k1)
     ·exact h.mates m0 k1
    ·obtain⟨m0,k1,rfl⟩:=List.mem_map.1 hm'
     split
     ·exact Znw (h.hm m0 k1) hw
     ·exact h.hm m0 k1
   ·obtain⟨b1,_,b2⟩:=Zgs (p:=(readT s).1) h.land
    exact h.mk' (Zmj h.land) (by rw[b1];exact h.hl) rfl h.mates h.hm (FlOk.send _ _ ho (fun p hp=>by rw[b2 p hp];exact fun x hx=>by simp at hx))
  ·exact h.mk' h.land h.hl rfl h.mates h.hm ho
theorem WIs.double{w:Wld}(h:WIs w)(k:Nat):WIs (doubleW w k):=by
 unfold doubleW
 split
 ·exact h
 ·rename_i s hs
  split
  ·rename_i hl
   refine h.mk' h.land h.hl rfl h.mates h.hm (h.flight.sub (fun x hx=>?_) (by simp;omega))
   rcases List.mem_append.1 hx with hx|hx
   ·exact hx
   ·rw[List.mem_singleton.1 hx];exact List.mem_of_getElem? hs
  ·exact h
theorem WIs.mate{w:Wld}(h:WIs w)(k:Nat){f:Mate->Mate}(h1:∀ m,MateIs m->MateIs (f m))(h2:∀ m,HoldsM m->HoldsM (f m))(h3:∀ m,MateIs m->(f m).name=m.name):WIs (mateW w k f):=by
 unfold mateW
 split
 ·exact h
 ·rename_i m hm
  have hmem:=List.mem_of_getElem? hm
  refine h.mk' h.land h.hl ?_ (fun x hx=>?_) (fun x hx=>?_) h.flight
  ·rw[List.map_set,h3 m (h.mates m hmem)]
   obtain⟨hlt,e⟩:=List.getElem?_eq_some_iff.1 hm
   have:m.name=(w.mates.map (·.name))[k]'(by simpa using hlt):=by simp[e]
   rw[this,List.set_getElem_self]
  ·rcases List.mem_or_eq_of_mem_set hx with hx|rfl
   ·exact h.mates x hx
   ·exact h1 m (h.mates m hmem)
  ·rcases List.mem_or_eq_of_mem_set hx with hx|rfl
   ·exact h.hm x hx
   ·exact h2 m (h.hm m hmem)
theorem WIs.put{w:Wld}(h:WIs w)(k:Nat){ws:List Want}(hw:∀ x∈ws,inS x.hold=true):WIs (putW w k ws):=by
 unfold putW
 split
 ·exact h
 ·rename_i m hm
  split
  ·rename_i hc
   have hok:=(Zkk (l:=w.land) (b:=m.name) (ws:=ws)).resolve_left (by omega)
   refine h.mk' hok ?_ rfl h.mates h.hm h.flight
   have e:(matePut w.land m.name ws).1=landPut w.land m.name ws:=by
    unfold matePut at hc ⊢
    rw[if_pos h.land]at hc ⊢
    split at hc
    ·rename_i q
     rw[if_pos q]
     split at hc
     ·rename_i q2;rw[if_pos q2]
     ·simp at hc
    ·simp at hc
   rw[e]
   intro p hp
   rcases Zav _ hp with rfl|hp
   ·exact hw
   ·exact h.hl p hp
  ·exact h
theorem WIs.do'{w:Wld}(h:WIs w){e:Event}(hw:∀ x∈e.wants,inS x.hold=true):WIs (doW w e):=by
 unfold doW
 split
 ·exact h.tick _
 split
 ·split
  ·exact h.bring _
  ·exact h
 split
 ·split
  ·exact h.double _
  ·exact h
 split
 ·split
  ·exact h.mk' h.land h.hl rfl h.mates h.hm (h.flight.out _)
  ·exact h
 split
 ·split
  ·exact h.mate _ (fun m hm=>Zai.1 (Zin _ (Zai.2 hm))) (fun m hm=>Zh5 _ hm) (fun m hm=>Zpv (Zai.2 hm))
  ·exact h
 split
 ·split
  ·exact h.mate _ (fun m hm=>Zai.1 (Znu (Zai.2 hm))) (fun m hm=>Zoz hm) (fun m hm=>Zqj (Zai.2 hm))
  ·exact h
 split
 ·split
  ·exact h.put _ hw
  ·exact h
 ·exact h
theorem WIs.brings:∀ (n:Nat) {w:Wld},WIs w->WIs (bringsW n w)
 | 0,_,h=>h
 | n+1,_,h=>WIs.brings n (h.bring 0)
theorem WIs.round{w:Wld}(h:WIs w)(rates:List Int):WIs (roundW w rates):=((h.tick rates).brings _).brings _
theorem WIs.rounds(rates:List Int):∀ (n:Nat) {w:Wld},WIs w->WIs (roundsW rates n w)
 | 0,_,h=>h
 | n+1,_,h=>WIs.rounds rates n (h.round rates)
set_option linter.unusedVariables false
def GS.g(g:GS):Grant:=⟨volT,nmT g.a,cpX,g.at_,g.til⟩
def placeW(G:Int)(a:Bool)(p:Int×Bool):Place:=⟨nmT a,p.1,wantsW G p.2⟩
def LS.l(G:Int)(l:LS):Land:=⟨l.time,(l.gr.map GS.g).toList,(l.pa.map (placeW G true)).toList++(l.pb.map (placeW G false)).toList⟩
def formK(G:Int)(p:PK):T:=parcelForm (p.p G)
def MW.v(G:Int)(x:MW):Wld:=⟨x.land.l G,[x.a.m G true,x.b.m G false],x.fl.map (formK G)⟩
def okF:PK->Prop
 | .told _ s _=>1<=s/\s<=1000000
 | .asked _ t=>0<=t/\t<=1000000
 | .given _ t=>0<=t/\t<=1000000
 | .back _ t=>0<=t/\t<=1000000
 | .got _ t=>0<=t/\t<=1000000
 | .here _ s=>0<=s/\s<=1000000
theorem Zko(acc:T):∀ (ws:List Want),acc.size<=(formWants acc ws).size:=by
 intro ws
 induction ws generalizing acc with
 | nil=>exact Nat.le_refl _
 | cons w ws ih =>
  refine Nat.le_trans ?_ (ih _)
  simp[Zal]
theorem Zqt{G:Int}(hG:0<=G/\G<=8){p:PK}(h:okF p):formK G p≠⟨#[]⟩:=by
 intro e
 have:=congrArg ByteArray.size e
 have z0:(⟨#[]⟩:T).size=0:=rfl
 have z1:(⟨#[10]⟩:T).size=1:=rfl
 have hv:=Zf8
 have hc:=Zit
 have hn:∀ a,isName (nmT a)=true:=Zjn
 have hs:sEq (⟨#[]⟩:T) ⟨#[]⟩=true:=(Zac _ _).2 rfl
 cases p with
 | told a s w =>
  have hi:inR s 1 1000000=true:=by simp only[inR,Bool.and_eq_true,decide_eq_true_eq];exact h
  have hf:=Zko (toldHead ⟨1,nmT a,s,wantsW G w,⟨#[]⟩,⟨#[]⟩,0⟩) (wantsW G w)
  simp only[formK,PK.p,parcelForm,formSw,hn,if_true,hi,Zga hG w,noHold,hs,beq_self_eq_true,Bool.and_self]at this
  rw[this,z0]at hf
  simp only[toldHead,Zal,z1]at hf
  omega
 | asked a t=>simp[formK,PK.p,parcelForm,formSw,hn,hv,hc,inR,h.1,h.2,word,Zal]at this;omega
 | given a t=>simp[formK,PK.p,parcelForm,formSw,hn,hv,hc,inR,h.1,h.2,word,Zal]at this;omega
 | back a t=>simp[formK,PK.p,parcelForm,formSw,hn,hv,hc,inR,h.1,h.2,word,Zal]at this;omega
 | got a t=>simp[formK,PK.p,parcelForm,formSw,hn,hv,hs,inR,h.1,h.2,word,Zal]at this;omega
 | here a s=>simp[formK,PK.p,parcelForm,formSw,hn,noHold,inR,h.1,h.2,Zal,hs]at this;omega
theorem Zvf{G:Int}(hG:0<=G/\G<=8){p:PK}(h:okF p):readT (formK G p)=(p.p G,true):=Zig (Zqt hG h)
theorem Zj5{G:Int}(hG:0<=G/\G<=8):∀ (ps fl:List PK),(∀ p∈ps,okF p)->(ps.map (PK.p G)).foldl sendF (fl.map (formK G))=(sendS fl ps).map (formK G)
 | [],fl,_=>rfl
 | p::ps,fl,h=>by
  have hp:sendF (fl.map (formK G)) (p.p G)=(if fl.length<300 then fl++[p] else fl).map (formK G):=by
   have hn:sEq (parcelForm (p.p G)) ⟨#[]⟩=false:=Zad (Zqt hG (h p List.mem_cons_self))
   simp only[sendF,hn,Bool.not_false,Bool.true_and,List.length_map,decide_eq_true_eq]
   split
   ·simp[formK]
   ·rfl
  simp only[List.map_cons,List.foldl_cons,hp]
  exact Zj5 hG ps _ fun q hq=>h q (List.mem_cons_of_mem _ hq)
theorem Zo2{G:Int}{l:LS}(hv:landOk (l.l G)=true)(ht:l.time≠2000000):landTick (l.l G)=(({ l with time:=l.time+2 }:LS).l G,(toldS l).map (PK.p G)):=by
 obtain⟨time,gr,pa,pb⟩:=l
 unfold landTick
 rw[if_pos hv,if_neg (show ¬ (LS.l G ⟨time,gr,pa,pb⟩).time=2000000 from ht)]
 cases pa<;>cases pb<;>rfl
theorem Zt6{G:Int}{l:LS}{a:Bool}:(l.l G).places.any (wantsHold (nmT a) cpX volT)=wantsS l a:=by
 have hp:∀ (b:Bool) (p:Int×Bool),wantsHold (nmT a) cpX volT (placeW G b p)=(p.2 && (b == a)):=fun b p=>by
  obtain⟨s,w⟩:=p
  cases w
  ·rfl
  ·have h1:sEq (oneW G).copy cpX=true:=Zbp
   have h2:sEq (oneW G).hold volT=true:=Zaz
   simp[wantsHold,placeW,wantsW,h1,h2,Zb2]
 obtain⟨time,gr,pa,pb⟩:=l
 cases a<;>cases pa<;>cases pb<;>simp[LS.l,wantsS,hp]
theorem Zo5{G:Int}{l:LS}{p:PK}(hv:landOk (l.l G)=true)(hp:okF p)(hd:isDownS p=false):landTake (l.l G) (p.p G)=((landS l p).1.l G,(landS l p).2.map (PK.p G)):=by
 have hn:∀ a,isName (nmT a)=true:=Zjn
 unfold landTake
 rw[if_pos hv]
 cases p with
 | told a s w=>cases hd
 | given a t=>cases hd
 | got a t=>cases hd
 | here a s =>
  have hh:isHold (⟨#[]⟩:T)=false:=by decide
  have:takeOk ((PK.here a s).p G)=false:=by simp[takeOk,PK.p,hh]
  rw[this];rfl
 | asked a t =>
  have hi:inR t 0 1000000=true:=by simp only[inR,Bool.and_eq_true,decide_eq_true_eq];exact hp
  have hk:takeOk ((PK.asked a t).p G)=true:=by simp[takeOk,PK.p,hn,Zf8,Zit,hi]
  rw[hk]
  have hb:((PK.asked a t).p G).berth=nmT a/\((PK.asked a t).p G).copy=cpX/\((PK.asked a t).p G).hold=volT/\((PK.asked a t).p G).kind=2:=⟨rfl,rfl,rfl,rfl⟩
  obtain⟨hb1,hb2,hb3,hb4⟩:=hb
  simp only[if_true,hb4]
  unfold landGive
  rw[hb1,hb2,hb3,Zt6]
  simp only[landS]
  cases hw:wantsS l a
  ·simp
  ·simp only[if_true]
   obtain⟨time,gr,pa,pb⟩:=l
   cases gr with
   | none =>
    have:lives40 time ([]:List Grant)=[]:=rfl
    simp only[LS.l,Option.map_none,Option.toList_none,grantOf,List.find?_nil,this,List.length_nil]
    rfl
   | some g =>
    have h1:sEq (GS.g g).hold volT=true:=Zaz
    have hbl:blocks time ((PK.asked a t).p G) (GS.g g)=decide (time<g.til/\¬(g.a=a/\g.at_<=t)):=by
     have h2:sEq (GS.g g).berth (nmT a)=(g.a == a):=Zb2 _ _
     have h3:sEq (GS.g g).copy cpX=true:=Zbp
     simp only[blocks,hb1,hb2,h2,h3,Bool.true_and]
     have e1:(GS.g g).til=g.til:=rfl
     have e2:(GS.g g).at_=g.at_:=rfl
     have e3:((PK.asked a t).p G).at_=t:=rfl
     rw[e1,e2,e3]
     by_cases q1:time<g.til<;>by_cases q2:g.a=a<;>by_cases q3:g.at_<=t<;>simp[q1,q2,q3]
    have hpb:putBy Grant.k (newGrant time ((PK.asked a t).p G)) [GS.g g]=[GS.g ⟨a,t,time+32⟩]:=by
     have e1:sEq (Grant.k (GS.g g)) (Grant.k (newGrant time ((PK.asked a t).p G)))=true:=Zaz
     have e2:sLt (Grant.k (GS.g g)) (Grant.k (newGrant time ((PK.asked a t).p G)))=false:=Zak _
     simp only[putBy,e1,e2,Bool.false_eq_true,if_false,if_true]
     rfl
    simp only[LS.l,Option.map_some,Option.toList_some,grantOf,List.find?_cons,h1,hbl,hpb]
    by_cases q:time<g.til/\¬(g.a=a/\g.at_<=t)
    ·simp[q]
    ·simp only[q,decide_false,Bool.false_eq_true,if_false]
     rfl
 | back a t =>
  have hi:inR t 0 1000000=true:=by simp only[inR,Bool.and_eq_true,decide_eq_true_eq];exact hp
  have hk:takeOk ((PK.back a t).p G)=true:=by simp[takeOk,PK.p,hn,Zf8,Zit,hi]
  rw[hk]
  have hb4:((PK.back a t).p G).kind=4:=rfl
  have e42:¬ (4:Int)=2:=by decide
  simp only[if_true,hb4,e42,if_false,landS]
  refine Prod.ext ?_ rfl
  obtain⟨time,gr,pa,pb⟩:=l
  cases gr with
  | none=>rfl
  | some g =>
   have h1:sEq (GS.g g).hold volT=true:=Zaz
   have h2:sEq (GS.g g).berth (nmT a)=(g.a == a):=Zb2 _ _
   have e0:((PK.back a t).p G).hold=volT:=rfl
   have e1:((PK.back a t).p G).berth=nmT a:=rfl
   have e2:(GS.g g).at_=g.at_:=rfl
   have e3:((PK.back a t).p G).at_=t:=rfl
   simp only[landBack,LS.l,Option.map_some,Option.toList_some,grantOf,List.find?_cons,e0,e1,h1,h2,e2,e3,eraseG,if_true]
   by_cases q1:g.a=a<;>by_cases q2:g.at_<=t<;>simp[q1,q2,GS.g]
theorem Zut{G:Int}{l:List PK}{k:Nat}:outT (l.map (formK G)) k=(outK l k).map (formK G):=by
 simp[outT,outK]
theorem Zvo{p:PK}(G:Int):isDown (p.p G).kind=isDownS p:=by cases p<;>rfl
theorem Zua{p:PK}{G:Int}:∃ a,(p.p G).berth=nmT a/\∀ b m,a≠b->isDownS p=true->takeS b m p=m:=by
 cases p with
 | told a s w=>exact⟨a,rfl,fun b m h _=>by unfold takeS;split<;>simp[h]⟩
 | given a t=>exact⟨a,rfl,fun b m h _=>by unfold takeS;split<;>simp[h]⟩
 | got a t=>exact⟨a,rfl,fun b m h _=>by unfold takeS;split<;>simp[h]⟩
 | asked a t=>exact⟨a,rfl,fun b m h h2=>by cases h2⟩
 | back a t=>exact⟨a,rfl,fun b m h h2=>by cases h2⟩
 | here a t=>exact⟨a,rfl,fun b m h h2=>by cases h2⟩
theorem Ztj{l:LS}{p q:PK}(hp:okF p)(hq:q∈(landS l p).2):okF q:=by
 unfold landS at hq
 repeat' split at hq
 all_goals first|(cases hq;done)|(rw[List.mem_singleton.1 hq];exact hp)
theorem Zlk{G:Int}{x:MW}{k:Nat}(hG:0<=G/\G<=8)(hw:WIs (x.v G))(hf:∀ p∈x.fl,okF p):bringW (x.v G) k=(bringS x k).v G:=by
 have hva:mateValid (x.a.m G true)=true:=Zai.2 (hw.mates _ (by simp[MW.v]))
 have hvb:mateValid (x.b.m G false)=true:=Zai.2 (hw.mates _ (by simp[MW.v]))
 have hfl:(x.v G).flight[k]?=x.fl[k]?.map (formK G):=by simp[MW.v]
 unfold bringW bringS
 rw[hfl]
 cases hk:x.fl[k]? with
 | none=>rfl
 | some p =>
  have hp:=hf p (List.mem_of_getElem? hk)
  have hr:=Zvf hG hp
  simp only[Option.map_some,hr,if_true,Zvo]
  cases hd:isDownS p
  ·have hl:=Zo5 (G:=G) (l:=x.land) hw.land hp hd
   have e1:(x.v G).land=x.land.l G:=rfl
   simp only[Bool.false_eq_true,if_false,e1,hl,sendW]
   have e2:outT (x.v G).flight k=(outK x.fl k).map (formK G):=Zut
   rw[e2,Zj5 hG _ _ fun q hq=>Ztj hp hq]
   rfl
  ·simp only[if_true]
   have e2:outT (x.v G).flight k=(outK x.fl k).map (formK G):=Zut
   obtain⟨c,hb,hne⟩:=@Zua p G
   have hpp:okT p:=by cases p<;>first|exact hp|trivial
   have ta:=Ztk hG hva hpp hd
   have tb:=Ztk hG hvb hpp hd
   have n1:(x.a.m G true).name=nmT true:=rfl
   have n2:(x.b.m G false).name=nmT false:=rfl
   have e3:(x.v G).mates=[x.a.m G true,x.b.m G false]:=rfl
   rw[e2,e3]
   simp only[List.map_cons,List.map_nil,n1,n2,hb,Zb2]
   cases c
   ·rw[hne true x.a (by decide) hd]
    simp only[beq_self_eq_true,if_true,tb,Bool.true_eq_false,show (true == false)=false from rfl,Bool.false_eq_true,if_false]
    rfl
   ·rw[hne false x.b (by decide) hd]
    simp only[beq_self_eq_true,if_true,ta,show (false == true)=false from rfl,Bool.false_eq_true,if_false]
    rfl
theorem tick_v{G ra rb:Int}{x:MW}(hG:0<=G/\G<=8)(hw:WIs (x.v G))(h1:1<=ra/\ra<=4)(h2:1<=rb/\rb<=4)(ha:OkM G x.a)(hb:OkM G x.b)(ca:x.a.clock+ra<=1000000)(cb:x.b.clock+rb<=1000000)(ct:x.land.time≠2000000)
  (ho:(∀ p∈toldS x.land,okF p)/\(∀ p∈(tickS G true x.a ra).2,okF p)/\∀ p∈(tickS G false x.b rb).2,okF p):tickW (x.v G) [ra,rb]=(tickMW G ra rb x).v G:=by
 have hva:mateValid (x.a.m G true)=true:=Zai.2 (hw.mates _ (by simp[MW.v]))
 have hvb:mateValid (x.b.m G false)=true:=Zai.2 (hw.mates _ (by simp[MW.v]))
 have hl:=Zo2 (G:=G) (l:=x.land) hw.land ct
 have ta:=Ztc (a:=true) hG.1 hva h1 ca ha
 have tb:=Ztc (a:=false) hG.1 hvb h2 cb hb
 have r0:rateOf [ra,rb] 0=ra:=by simp[rateOf,inR,h1.1,h1.2]
 have r1:rateOf [ra,rb] 1=rb:=by simp[rateOf,inR,h2.1,h2.2]
 have e1:(x.v G).land=x.land.l G:=rfl
 have e3:(x.v G).mates=[x.a.m G true,x.b.m G false]:=rfl
 have e4:(x.v G).flight=x.fl.map (formK G):=rfl
 unfold tickW
 rw[e1,e3,e4,hl]
 simp only[tickMates,r0,r1,ta,tb,Zj5 hG _ _ ho.1,Zj5 hG _ _ ho.2.1,Zj5 hG _ _ ho.2.2]
 rfl
def isIn(held:List T)(k:T):Bool:=held.any fun x=>sEq x k
def safeGo(held:List T):List Run->Bool
 | []=>true
 | r::rs=>if alive r && !sEq r.want.hold ⟨#[]⟩ then (if isIn held r.want.hold then false else safeGo (held++[r.want.hold]) rs) else safeGo held rs
def safe(w:Wld):Bool:=worldOk w && safeGo [] (w.mates.flatMap Mate.runs)
def mapT(held:List T):ByteArray->Option AV:=held.foldl (fun m k=>mapPut k (.bool true) m) noKeys
@[simp] theorem mapT_get(held:List T)(k:T):(mapGet k (mapT held)).getD (.bool false)=.bool (isIn held k):=by
 have h:∀ (l:List T) (m:ByteArray->Option AV) (b:Bool),(mapGet k m).getD (.bool false)=.bool b->(mapGet k (l.foldl (fun m k=>mapPut k (.bool true) m) m)).getD (.bool false)=.bool (b || l.any fun x=>sEq x k):=by
  intro l
  induction l with
  | nil=>intro m b h;simpa using h
  | cons w l ih =>
   intro m b h
   rw[List.foldl_cons,ih _ (b || sEq w k)]
   ·simp[Bool.or_assoc]
   ·rw[Zic,Zei w k]
    by_cases h2:sEq k w=true
    ·simp[h2]
    ·simp[h2,h]
 have:=h held noKeys false rfl
 rw[Bool.false_or]at this
 exact this
theorem Zrr(held:List T)(k:T):mapT (held++[k])=mapPut k (.bool true) (mapT held):=by simp[mapT]
def head66m(w:Wld)(mm:Md)(i:Nat)(held:List T):St:=hd [(3,.mapr 0),(14,.sl .bor 9 (w.mates.map (Mate.c mm))),(15,.int .i64 w.mates.length),(16,.int .i64 i)] [.map false (mapT held)] 0
def head66r(w:Wld)(mm:Md)(i:Nat)(rs:List Run)(j:Nat)(held:List T):St:=hd [(3,.mapr 0),(14,.sl .bor 9 (w.mates.map (Mate.c mm))),(15,.int .i64 w.mates.length),(16,.int .i64 i),(21,.sl .bor 11 (rs.map Run.c)),(22,.int .i64 rs.length),(23,.int .i64 j)] [.map false (mapT held)] 0
theorem law66c(w:Wld)(ml mm:Md)(hw:w.small):F 66 [.agg (w.cc .bor ml mm)] []=some (.bool (safe w),[]):=by
 refine Zah fn66 rfl ?_
 have w1:=law57c w ml mm hw
 simp only[Wld.cc,Wld.c]at w1
 have hl:=hw.mates
 simp[c66,safe,w1]
 cases q1:worldOk w<;>simp
 refine (Zab w.mates (fun i (held:List T)=>head66m w mm i held) (fun _ _=>True) (fun _ r held=>(.bool (safeGo held (r.flatMap Mate.runs)),[])) (fun held Y _=>?_) (fun i a r held Y ha hi hr _ hY=>?_) [] ?_ trivial ?_).trans rfl
 ·simp[head66m,c66b1,safeGo]
 ·have hw1:IntKind.i64.wrap ((i:Int)+1)=(i:Int)+1:=i64w (by omega) (by omega)
  obtain⟨_,hg⟩:=List.getElem?_eq_some_iff.1 ha
  have hrs:=(hw.each a (List.mem_of_getElem? ha)).runs
  simp[head66m,c66b1,hg,hi]
  refine (Zab a.runs (fun j (held:List T)=>head66r w mm i a.runs j held) (fun _ _=>True) (fun _ t held=>(.bool (safeGo held (t++r.flatMap Mate.runs)),[])) (fun held Z _=>?_) (fun j b t held Z hb hj ht _ hZ=>?_) held ?_ trivial ?_).trans rfl
  ·simp[head66r,c66b0]
   rw[hY held _ trivial (by simp[head66m,hw1])]
  ·have hwj:IntKind.i64.wrap ((j:Int)+1)=(j:Int)+1:=i64w (by omega) (by omega)
   obtain⟨_,hgb⟩:=List.getElem?_eq_some_iff.1 hb
   simp only[List.cons_append,safeGo,alive]
   simp[head66r,c66b0,hgb,hj]
   cases q2:sEq b.want.hold ⟨#[]⟩<;>simp
   ·cases q3:aliveS b.state<;>simp
    ·exact hZ held _ trivial (by simp[head66r,hwj])
    ·cases q4:isIn held b.want.hold<;>simp
     exact hZ (held++[b.want.hold]) _ trivial (by simp[head66r,hwj,Zrr])
   ·exact hZ held _ trivial (by simp[head66r,hwj])
  ·simp[head66r]
  ·unfold big;omega
 ·simp[head66m,mapT]
 ·unfold big;omega
structure Cap(K i j n:Nat):Prop where
 le:n<=i*K+j
def textRows(held:List T):List (List AV):=held.map fun s=>[.str s]
def head67m(w:Wld)(ml mm:Md)(i:Nat)(held:List T):St:=hd [(1,.ptr 0 0 0),(3,.ref 1),(4,.int .i64 i)] [.box (w.cc .bor ml mm),.arr 1 (textRows held)] 0
def head67r(w:Wld)(ml mm:Md)(i j:Nat)(held:List T):St:=hd [(1,.ptr 0 0 0),(3,.ref 1),(4,.int .i64 i),(5,.int .i64 j)] [.box (w.cc .bor ml mm),.arr 1 (textRows held)] 0
def head67k(w:Wld)(ml mm:Md)(i j:Nat)(held:List T)(r:Run)(k:Nat):St:=hd [(1,.ptr 0 0 0),(3,.ref 1),(4,.int .i64 i),(5,.int .i64 j),(6,.ptr 2 0 0),(7,.int .i64 k)] [.box (w.cc .bor ml mm),.arr 1 (textRows held),.box r.c] 0
theorem law67c(w:Wld)(ml mm:Md)(hw:w.small):F 67 [.agg (w.cc .bor ml mm)] []=some (.bool (safe w),[]):=by
 refine Zah fn67 rfl ?_
 have w1:=law58c w ml mm hw
 simp only[Wld.cc,Wld.c]at w1
 have hl:=hw.mates
 obtain⟨K,hK⟩:∃ K:Nat,K=1048576:=⟨_,rfl⟩
 simp[c67,safe,w1]
 cases q1:worldOk w<;>simp
 refine (Zab w.mates (fun i (held:List T)=>head67m w ml mm i held) (fun i held=>Cap K i 0 held.length) (fun _ r held=>(.bool (safeGo held (r.flatMap Mate.runs)),[])) (fun held Y _=>?_) (fun i a r held Y ha hi hr hinv hY=>?_) [] ?_ ⟨Nat.zero_le _⟩ ?_).trans rfl
 ·simp[head67m,c67b2,safeGo]
 ·have hw1:IntKind.i64.wrap ((i:Int)+1)=(i:Int)+1:=i64w (by omega) (by omega)
  obtain⟨_,hg⟩:=List.getElem?_eq_some_iff.1 ha
  have hrs:=(hw.each a (List.mem_of_getElem? ha)).runs
  simp[head67m,c67b2,hi]
  refine (Zab a.runs (fun j (held:List T)=>head67r w ml mm i j held) (fun j held=>Cap K i j held.length) (fun _ t held=>(.bool (safeGo held (t++r.flatMap Mate.runs)),[])) (fun held Z hinv=>?_) (fun j b t held Z hb hj ht hinv hZ=>?_) held ?_ hinv ?_).trans rfl
  ·simp[head67r,c67b1,hi,hg]
   rw[hY held _ ⟨by have:=hinv.le;have e:(i+1)*K=i*K+K:=Nat.succ_mul i K;omega⟩ (by simp[head67m,hw1])]
  ·have hwj:IntKind.i64.wrap ((j:Int)+1)=(j:Int)+1:=i64w (by omega) (by omega)
   obtain⟨_,hgb⟩:=List.getElem?_eq_some_iff.1 hb
   have hinv:=hinv.le
   have hb3:(held.length+1)*16<=140737488355328:=by
    have h9:i*K<=1048576*K:=Nat.mul_le_mul_right _ (by omega)
    omega
   have hb4:held.length+1<=140737488355328:=by
    have h9:i*K<=1048576*K:=Nat.mul_le_mul_right _ (by omega)
    omega
   simp only[List.cons_append,safeGo,alive]
   simp[head67r,c67b1,hi,hg,hj,hgb]
   cases q3:aliveS b.state<;>simp
   ·exact hZ held _ ⟨by omega⟩ (by simp[head67r,hwj])
   cases q2:sEq b.want.hold ⟨#[]⟩<;>simp
   ·refine (Zab held (fun k (_:Unit)=>head67k w ml mm i j held b k) (fun _ _=>True) (fun _ u _=>(.bool (!isIn u b.want.hold && safeGo (held++[b.want.hold]) (t++r.flatMap Mate.runs)),[])) (fun acc V _=>?_) (fun k x u acc V hx hk hu _ hV=>?_) () ?_ trivial ?_).trans rfl
    ·simp[head67k,c67b0,textRows,takeRows,rowsPlain,hb3,hb4,isIn]
     exact hZ (held++[b.want.hold]) _ ⟨by simp;omega⟩ (by simp[head67r,hwj,textRows])
    ·have hwk:IntKind.i64.wrap ((k:Int)+1)=(k:Int)+1:=i64w (by omega) (by omega)
     obtain⟨_,hgx⟩:=List.getElem?_eq_some_iff.1 hx
     simp only[isIn,List.any_cons]
     simp[head67k,c67b0,textRows,hk,hgx]
     cases q5:sEq x b.want.hold<;>simp
     exact (hV () _ trivial (by simp[head67k,hwk,textRows])).trans (by simp[isIn])
    ·simp[head67k,textRows]
    ·unfold big;omega
   ·exact hZ held _ ⟨by omega⟩ (by simp[head67r,hwj])
  ·simp[head67r]
  ·unfold big;omega
 ·simp[head67m,textRows]
 ·unfold big;omega
theorem law66(w:Wld)(mm:Md)(hw:w.small):F 66 [.agg (w.c .bor mm)] []=some (.bool (safe w),[]):=law66c w mm mm hw
theorem law67(w:Wld)(mm:Md)(hw:w.small):F 67 [.agg (w.c .bor mm)] []=some (.bool (safe w),[]):=law67c w mm mm hw
theorem Zoo{s:T}(h:(readT s).2=true):parcelForm (readT s).1=s:=by
 unfold readT at h ⊢
 split at h
 ·cases h
 ·rename_i hn
  rw[if_neg hn]
  simp only[Bool.or_eq_true,Bool.not_eq_true',not_or,Bool.not_eq_false]at hn
  exact (Zac _ _).1 hn.2
theorem Zpb:readT ⟨#[]⟩=(noParcel,false):=by
 unfold readT
 rw[(Zac _ _).2 rfl]
 rfl
theorem Zn5{s:T}(h:(readT s).2=true):(readT s).1.wants.length<=10:=by
 have h1:=Zoo h
 have hne:s≠⟨#[]⟩:=fun e=>by rw[e,Zpb]at h;cases h
 rw[<- h1]at hne
 generalize (readT s).1=p at hne
 have hz:∀ l:List Want,l.isEmpty=true->l.length<=10:=fun l h=>by rw[List.isEmpty_iff.1 h];simp
 unfold parcelForm formSw at hne
 split at hne
 case isFalse=>exact absurd rfl hne
 split at hne
 ·split at hne
  ·rename_i q
   simp only[Bool.and_eq_true]at q
   exact ((Zas _).1 q.2.1).1
  ·exact absurd rfl hne
 split at hne
 ·split at hne
  ·rename_i q
   simp only[Bool.and_eq_true]at q
   exact hz _ q.2.2.2.2
  ·exact absurd rfl hne
 split at hne
 ·split at hne
  ·rename_i q
   simp only[Bool.and_eq_true]at q
   exact hz _ q.2.2.2.2
  ·exact absurd rfl hne
 split at hne
 ·split at hne
  ·rename_i q
   simp only[Bool.and_eq_true]at q
   exact hz _ q.2.1
  ·exact absurd rfl hne
 ·exact absurd rfl hne
def outs4(y:Option (List (List AV)×List (List AV)))(z:Option (List (List AV))):List (Option AO):=[y.map fun a=>.arr 5 a.1,y.map fun a=>.arr 3 a.2,none,z.map fun c=>.arr 1 c]
theorem WIs.drawn{w:Wld}(h:WIs w):∀ m∈w.mates,Drawn m:=fun m hm=>by
 have a:=h.mates m hm
 have b:=h.hm m hm
 have w1:=((Zas _).1 a.wants).1
 have f1:=few a.asks b.asks
 have f2:=few a.gives b.gives
 have:=a.runsN
 exact⟨⟨by omega,by omega,by omega,by omega⟩,f1,f2⟩
theorem Zfj:∀ (r pre:List Place),placesGo pre r=true->∀ p∈r,placeOk p=true
 | [],_,_,_,h=>by simp at h
 | q::r,pre,h,p,hp=>by
  simp only[placesGo,Bool.and_eq_true]at h
  rcases List.mem_cons.1 hp with rfl|hp
  ·exact h.1
  ·exact Zfj r _ h.2.2.2 p hp
theorem WIs.lsmall{w:Wld}(h:WIs w):w.land.small:=by
 have hi:=(Zbb _).1 h.land
 have:=hi.ng
 have:=hi.np
 exact⟨by omega,by omega,fun p hp=>⟨by
  have:=Zfj _ _ hi.places p hp
  simp only[placeOk,Bool.and_eq_true]at this
  have:=((Zas _).1 this.2.2).1
  omega⟩⟩
theorem WIs.fit{w:Wld}(h:WIs w):w.fit:=⟨h.lsmall,by have:=h.four;omega,h.drawn,by have:=h.fl;omega⟩
theorem WIs.small{w:Wld}(h:WIs w):w.small:=⟨h.lsmall,by have:=h.four;omega,fun m hm=>(h.drawn m hm).small,by have:=h.fl;omega⟩
theorem Zju(a:Int)(n:Nat):(atE a n=false/\inR a 0 ((n:Int)-1)=false)\/(atE a n=true/\inR a 0 ((n:Int)-1)=true/\∃ k:Nat,a=k/\k<n):=by
 unfold atE inR
 by_cases h:0<=a/\a<n
 ·exact .inr ⟨by simp;omega,by simp;omega,a.toNat,by omega,by omega⟩
 ·refine .inl ⟨?_,?_⟩
  ·simp only[Bool.and_eq_false_iff,decide_eq_false_iff_not];omega
  ·simp only[Bool.and_eq_false_iff,decide_eq_false_iff_not];omega
def Wld.zero:Wld:=⟨.zero,[],[]⟩
def mate0(n:T):Mate:=⟨n,true,0,false,0,[],[],[],[]⟩
def ascT(pre:List T)(n:T):Bool :=
 match pre.getLast? with
 | none=>true
 | some p=>sLt p n
def namesGo(pre:List T):List T->Bool
 | []=>true
 | n::r=>isName n && (ascT pre n && namesGo (pre++[n]) r)
def namesOk(l:List T):Bool:=decide (1<=l.length) && (decide (l.length<=4) && namesGo [] l)
def world0(l:List T):Wld:=⟨.zero,l.map mate0,[]⟩
def newWorld(l:List T):Wld:=if namesOk l then world0 l else .zero
def zeroV:List AV:=[.int .i64 0,.sl .own 5 [],.sl .own 3 [],.sl .own 9 [],.sl .own 1 []]
def head50(l:List T)(i:Nat)(acc:List T):St :=
 hd [(0,.sl .bor 1 (l.map fun s=>[.str s])),(2,.ptr 0 0 0),(3,.ptr 1 0 0),(15,.sl .bor 1 (l.map fun s=>[.str s])),(16,.int .i64 l.length),(17,.int .i64 i)]
  (.box zeroV::.box [.int .i64 0,.sl .own 5 [],.sl .own 3 [],ownVi 2 9 (acc.map fun n=>(mate0 n).c .own),.sl .own 1 []]::ownH 9 (acc.map fun n=>(mate0 n).c .own)) 0
theorem law50(l:List T)(hl:l.length<=1048576):F 50 [.sl .bor 1 (l.map fun s=>[.str s])] []=some (.agg ((newWorld l).c .own .own),[]):=by
 refine Zah fn50 rfl ?_
 unfold newWorld namesOk
 simp[c50]
 by_cases q2:1<=l.length
 case neg =>
  have q2':¬ (1<=(l.length:Int)):=by omega
  have q2a:(l.length:Int)<1:=by omega
  simp[q2,q2',q2a,Wld.zero,Land.zero]
 have q2':1<=(l.length:Int):=by omega
 have q2a:¬ ((l.length:Int)<1):=by omega
 simp[q2,q2',q2a]
 by_cases q3:l.length<=4
 case neg =>
  have q3':¬ ((l.length:Int)<=4):=by omega
  have q3a:4<(l.length:Int):=by omega
  simp[q3,q3',q3a,Wld.zero,Land.zero]
 have q3':(l.length:Int)<=4:=by omega
 have q3a:¬ (4<(l.length:Int)):=by omega
 simp[q3,q3',q3a]
 refine (Zab l (fun i (acc:List T)=>head50 l i acc) (fun i acc=>acc=l.take i) (fun i r acc=>(.agg ((if namesGo (l.take i) r then world0 (acc++r) else .zero).c .own .own),[])) (fun acc Y hacc=>?_) (fun i a r acc Y ha hi hr hacc hY=>?_) [] ?_ rfl ?_).trans ?_
 ·rcases acc with _|⟨x,acc⟩
  ·simp[head50,c50b0,zeroV,namesGo,world0,Land.zero]
  ·simp[head50,c50b0,zeroV,namesGo,world0,Land.zero,mate0]
 ·have hw1:IntKind.i64.wrap ((i:Int)+1)=(i:Int)+1:=i64w (by omega) (by omega)
  obtain⟨_,hg⟩:=List.getElem?_eq_some_iff.1 ha
  have hs:=Zao ha
  have hln:acc.length=i:=by rw[hacc];simp;omega
  have hb3:(acc.length+1)*144<=140737488355328:=by omega
  have hb4:acc.length+1<=140737488355328:=by omega
  have hY':∀ s',s'.norm [0,2,3,15,16,17]=head50 l (i+1) (acc++[a])->fin [CRes.cell 2 5 true] 0 (Y s')=some (.agg ((if namesGo (l.take i++[a]) r then world0 (acc++[a]++r) else .zero).c .own .own),[]):=fun s' h=>by rw[<- hs];exact hY (acc++[a]) s' (by rw[hacc,hs]) h
  rcases Zmy hi (by omega) with ⟨hp,hlast⟩|⟨j,hp,hw2,hj,hlast⟩
  ·rcases acc with _|⟨x,acc⟩
   ·simp[head50,c50b0,zeroV,namesGo,hg,hi,ascT,hp,hlast]
    cases r1:isName a<;>simp
    ·simp[Wld.zero,Land.zero]
    exact (hY' _ (by simp[head50,hw1,zeroV,mate0])).trans (by simp)
   ·simp only[List.length_cons]at hln;omega
  ·rcases acc with _|⟨x,acc⟩
   ·simp only[List.length_nil]at hln;omega
   ·simp at hb3 hb4
    simp[head50,c50b0,zeroV,namesGo,hg,hi,ascT,hp,hw2,hj,hlast,hb3,hb4,takeRows]
    cases r1:isName a<;>simp
    ·simp[Wld.zero,Land.zero]
    cases r2:sLt l[j] a<;>simp
    ·simp[Wld.zero,Land.zero]
    exact (hY' _ (by simp[head50,hw1,zeroV,mate0])).trans (by simp)
 ·simp[head50,zeroV]
 ·unfold big;omega
 ·simp only[List.take_zero,List.nil_append];rfl
def passN:Nat->Wld->Wld
 | 0,w=>w
 | n+1,w=>passN n (bringsW w.flight.length w)
theorem Zn7(w:Wld)(rates:List Int):roundW w rates=passN 2 (tickW w rates):=rfl
def mateDo(w:Wld)(e:Event):Wld:=if worldOk w then doW w e else .zero
def mateCalm(w:Wld)(n:Int)(rates:List Int):Wld:=if worldOk w then roundsW rates (min n.toNat 1000) w else .zero
theorem Zsm:sLt (nmT true) (nmT false)=true:=by kernel_rfl
theorem Zt2:sLt (nmT false) (nmT true)=false:=by kernel_rfl
/-! ### Puts -/
def putL(l:LS)(a w:Bool):LS:=if a then { l with pa:=some (match l.pa with
  | some p=>(p.1+1,w)
  | none=>(1,w)) } else { l with pb:=some (match l.pb with
  | some p=>(p.1+1,w)
  | none=>(1,w)) }
structure PlOk(l:LS):Prop where
 pa:∀ p,l.pa=some p->1<=p.1/\p.1<=1000000
 pb:∀ p,l.pb=some p->1<=p.1/\p.1<=1000000
 one:∀ p q,l.pa=some p->l.pb=some q->p.2=true->q.2=false
theorem Zre{G:Int}(hG:0<=G/\G<=8){l:LS}(h:PlOk l):placesGo [] (l.l G).places=true/\(l.l G).places.length<=4:=by
 have hp:∀ (a:Bool) (p:Int×Bool),1<=p.1/\p.1<=1000000->placeOk (placeW G a p)=true:=fun a p hp=>by
  have hi:inR p.1 1 1000000=true:=by simp only[inR,Bool.and_eq_true,decide_eq_true_eq];exact hp
  simp only[placeOk,placeW,Zjn,Zga hG,hi,Bool.and_self]
 obtain⟨time,gr,pa,pb⟩:=l
 obtain⟨h1,h2,h3⟩:=h
 simp only at h1 h2 h3
 cases pa with
 | none=>cases pb with
  | none=>simp[LS.l,placesGo]
  | some q =>
   have k2:=hp false q (h2 q rfl)
   have f0:freshP [] (placeW G false q)=true:=by
    simp only[freshP,heldIn,heldB];simp
   simp[LS.l,placesGo,k2,f0,ascP]
 | some p =>
  have k1:=hp true p (h1 p rfl)
  have f1:freshP [] (placeW G true p)=true:=by
   simp only[freshP,heldIn,heldB];simp
  cases pb with
  | none=>simp[LS.l,placesGo,k1,f1,ascP]
  | some q =>
   have k2:=hp false q (h2 q rfl)
   have f2:freshP [placeW G true p] (placeW G false q)=true:=by
    have h4:=h3 p q rfl rfl
    obtain⟨s,w⟩:=p
    obtain⟨t,v⟩:=q
    simp only at h4
    cases v
    ·rfl
    ·cases w
     ·simp[freshP,heldIn,heldB,placeW,wantsW]
     ·exact absurd (h4 rfl) (by simp)
   have f3:ascP [placeW G true p] (placeW G false q)=true:=Zsm
   have f4:ascP [] (placeW G true p)=true:=rfl
   simp[LS.l,placesGo,k1,k2,f1,f2,f3,f4]
theorem Zvv{G:Int}(hG:0<=G/\G<=8){l:LS}{a w:Bool}(hl:landOk (l.l G)=true)(hp:PlOk (putL l a w))(hs:∀ p,l.pa=some p->1<=p.1/\p.1<=999999)(ht:∀ p,l.pb=some p->1<=p.1/\p.1<=999999) :
  matePut (l.l G) (nmT a) (wantsW G w)=((putL l a w).l G,0):=by
 have hput:landPut (l.l G) (nmT a) (wantsW G w)=(putL l a w).l G:=by
  have ea:sEq (nmT true) (nmT true)=true:=Zb2 _ _
  have eb:sEq (nmT false) (nmT false)=true:=Zb2 _ _
  have eab:sEq (nmT true) (nmT false)=false:=Zb2 _ _
  have eba:sEq (nmT false) (nmT true)=false:=Zb2 _ _
  have laa:sLt (nmT true) (nmT true)=false:=Zak _
  have lbb:sLt (nmT false) (nmT false)=false:=Zak _
  obtain⟨time,gr,pa,pb⟩:=l
  simp only at hs ht
  have w1:∀ p,pa=some p->IntKind.i64.wrap (p.1+1)=p.1+1:=fun p e=>by have:=hs p e;exact i64w (by omega) (by omega)
  have w2:∀ p,pb=some p->IntKind.i64.wrap (p.1+1)=p.1+1:=fun p e=>by have:=ht p e;exact i64w (by omega) (by omega)
  cases a<;>cases pa with
  | none=>cases pb with
   | none=>simp[landPut,putPlace,LS.l,putL,putBy,seenAt,ltCount,placeW]
   | some q=>simp[landPut,putPlace,LS.l,putL,putBy,seenAt,ltCount,placeW,ea,eb,eab,eba,laa,lbb,Zsm,Zt2,w2]
  | some p=>cases pb with
   | none=>simp[landPut,putPlace,LS.l,putL,putBy,seenAt,ltCount,placeW,ea,eb,eab,eba,laa,lbb,Zsm,Zt2,w1]
   | some q=>simp[landPut,putPlace,LS.l,putL,putBy,seenAt,ltCount,placeW,ea,eb,eab,eba,laa,lbb,Zsm,Zt2,w1,w2]
 have hok:landOk ((putL l a w).l G)=true:=by
  obtain⟨k1,k2⟩:=Zre hG hp
  have e1:((putL l a w).l G).time=(l.l G).time:=by cases a<;>rfl
  have e2:((putL l a w).l G).grants=(l.l G).grants:=by cases a<;>rfl
  simp only[landOk,Bool.and_eq_true,decide_eq_true_eq]at hl ⊢
  rw[e1,e2]
  exact⟨hl.1,hl.2.1,hl.2.2.1,k2,hl.2.2.2.2.1,k1⟩
 unfold matePut
 rw[if_pos hl]
 have:(isName (nmT a) && wantsOk (wantsW G w))=true:=by rw[Zjn,Zga hG];rfl
 rw[if_pos this,hput,if_pos hok]
theorem Zrh{G:Int}(hG:0<=G/\G<=8){x:MW}{a w:Bool}(hw:WIs (x.v G))(hp:PlOk (putL x.land a w))(hs:∀ p,x.land.pa=some p->1<=p.1/\p.1<=999999)(ht:∀ p,x.land.pb=some p->1<=p.1/\p.1<=999999) :
  doW (x.v G) ⟨7,if a then 0 else 1,0,wantsW G w,[]⟩=({ x with land:=putL x.land a w }:MW).v G:=by
 have hm:=Zvv (a:=a) (w:=w) hG (l:=x.land) hw.land hp hs ht
 have e1:(x.v G).land=x.land.l G:=rfl
 have e2:(x.v G).mates=[x.a.m G true,x.b.m G false]:=rfl
 have n1:(x.a.m G true).name=nmT true:=rfl
 have n2:(x.b.m G false).name=nmT false:=rfl
 cases a
 ·have ha:atE 1 (x.v G).mates.length=true:=by rw[e2];rfl
  simp only[doW,Bool.false_eq_true,if_false,ha,if_true,putW,e1,e2]
  simp only[show (1:Int).toNat=1 from rfl,List.getElem?_cons_succ,List.getElem?_cons_zero,n2,hm]
  simp
  rfl
 ·have ha:atE 0 (x.v G).mates.length=true:=by rw[e2];rfl
  simp only[doW,if_true,ha,putW,e1,e2]
  simp only[show (0:Int).toNat=0 from rfl,List.getElem?_cons_zero,n1,hm]
  simp
  rfl
/-! ### Events -/
def ekS(e:Event):EK :=
 if e.kind=1 then .tick else if e.kind=2 then .bring e.a.toNat else if e.kind=3 then .double e.a.toNat else if e.kind=4 then .lose e.a.toNat
 else if e.kind=5 then (if e.a=0 then .fall true (e.b != 0) else if e.a=1 then .fall false (e.b != 0) else .none)
 else if e.kind=6 then (if e.a=0 then .rise true else if e.a=1 then .rise false else .none) else .none
theorem InvS.okF{G C:Int}{x:MW}(h:InvS G C x)(hC:C<=900000):∀ p∈x.fl,okF p:=fun p hp=>by
 have h1:=h.fl p hp
 have h2:=h.ca
 have h3:=h.cb
 cases p with
 | told a s w=>cases a<;>simp only[okP]at h1<;>simp only[YtfemiipgkhekiaaGreatDoor.okF]<;>omega
 | asked a t=>cases a<;>simp only[okP]at h1<;>simp only[YtfemiipgkhekiaaGreatDoor.okF]<;>omega
 | given a t=>cases a<;>simp only[okP]at h1<;>simp only[YtfemiipgkhekiaaGreatDoor.okF]<;>omega
 | back a t=>cases a<;>simp only[okP]at h1<;>simp only[YtfemiipgkhekiaaGreatDoor.okF]<;>omega
 | got a t=>simp only[okP]at h1;simp only[YtfemiipgkhekiaaGreatDoor.okF];omega
 | here a s=>cases a<;>simp only[okP]at h1<;>simp only[YtfemiipgkhekiaaGreatDoor.okF]<;>omega
theorem InvS.tick_v{G C ra rb:Int}{x:MW}(hG:0<=G/\G<=8)(hw:WIs (x.v G))(h:InvS G C x)(hC:C<=900000)(h1:1<=ra/\ra<=4)(h2:1<=rb/\rb<=4):tickW (x.v G) [ra,rb]=(tickMW G ra rb x).v G:=by
 have ca:=h.ca
 have cb:=h.cb
 have ct:=h.ct
 have sa:=h.sa
 have sb:=h.sb
 have ta:=Zdl true hG.1 h1.1 h.ga
 have tb:=Zdl false hG.1 h2.1 h.gb
 obtain⟨s1,s2,s3,s3'⟩:=h.pa
 obtain⟨s4,s5,s6,s6'⟩:=h.pb
 refine YtfemiipgkhekiaaGreatDoor.tick_v hG hw h1 h2 h.ga h.gb (by omega) (by omega) (by omega) ⟨fun p hp=>?_,fun p hp=>?_,fun p hp=>?_⟩
 ·simp only[toldS,s2,s5,List.mem_append,List.mem_singleton]at hp
  rcases hp with rfl|rfl
  ·simp only[YtfemiipgkhekiaaGreatDoor.okF];omega
  ·simp only[YtfemiipgkhekiaaGreatDoor.okF];omega
 ·rcases Zcx hp with rfl|⟨g,g1,rfl⟩|rfl
  ·have:=ta.ok.clock;have:=ta.clock;simp only[YtfemiipgkhekiaaGreatDoor.okF];omega
  ·have:=ta.ok.give g g1;have:=ta.clock;simp only[YtfemiipgkhekiaaGreatDoor.okF];omega
  ·have:=ta.ok.seen;have:=ta.seen;simp only[YtfemiipgkhekiaaGreatDoor.okF];omega
 ·rcases Zcx hp with rfl|⟨g,g1,rfl⟩|rfl
  ·have:=tb.ok.clock;have:=tb.clock;simp only[YtfemiipgkhekiaaGreatDoor.okF];omega
  ·have:=tb.ok.give g g1;have:=tb.clock;simp only[YtfemiipgkhekiaaGreatDoor.okF];omega
  ·have:=tb.ok.seen;have:=tb.seen;simp only[YtfemiipgkhekiaaGreatDoor.okF];omega
theorem Zr4{l:List PK}{k:Nat}(h:l.length<=k):outK l k=l:=by
 unfold outK
 rw[List.take_of_length_le h,List.drop_eq_nil_of_le (by omega)]
 simp
theorem Znk{x:MW}{k:Nat}(h:x.fl.length<=k):bringS x k=x:=by
 unfold bringS
 rw[List.getElem?_eq_none h]
theorem Zpg{G C ra rb:Int}{x:MW}{e:Event}(hG:0<=G/\G<=8)(hw:WIs (x.v G))(h:InvS G C x)(hC:C<=900000)(h1:1<=ra/\ra<=4)(h2:1<=rb/\rb<=4)(ha:0<=e.a)(h7:e.kind≠7)(hr:e.kind=1->e.rates=[ra,rb]) :
  doW (x.v G) e=(stepS G ra rb x (ekS e)).v G:=by
 have hfl:(x.v G).flight=x.fl.map (formK G):=rfl
 have hms:(x.v G).mates=[x.a.m G true,x.b.m G false]:=rfl
 have hva:mateValid (x.a.m G true)=true:=Zai.2 (hw.mates _ (by simp[MW.v]))
 have hvb:mateValid (x.b.m G false)=true:=Zai.2 (hw.mates _ (by simp[MW.v]))
 have hlen:(x.v G).flight.length=x.fl.length:=by rw[hfl,List.length_map]
 have hml:(x.v G).mates.length=2:=by rw[hms];rfl
 have hat:∀ n:Nat,atE e.a n=decide (e.a.toNat<n):=fun n=>by
  simp only[atE,ha,decide_true,Bool.true_and]
  by_cases q:e.a<n
  ·have:e.a.toNat<n:=by omega
   simp[q,this]
  ·have:¬ e.a.toNat<n:=by omega
   simp[q,this]
 unfold doW ekS
 by_cases k1:e.kind=1
 ·rw[if_pos k1,if_pos k1,hr k1]
  exact h.tick_v hG hw hC h1 h2
 rw[if_neg k1,if_neg k1]
 by_cases k2:e.kind=2
 ·rw[if_pos k2,if_pos k2,hat,hlen]
  simp only[stepS,decide_eq_true_eq]
  by_cases q:e.a.toNat<x.fl.length
  ·rw[if_pos q];exact Zlk hG hw (h.okF hC)
  ·rw[if_neg q,Znk (by omega)]
 rw[if_neg k2,if_neg k2]
 by_cases k3:e.kind=3
 ·rw[if_pos k3,if_pos k3,hat,hlen]
  simp only[stepS,decide_eq_true_eq]
  by_cases q:e.a.toNat<x.fl.length
  ·rw[if_pos q]
   have:(x.v G).flight[e.a.toNat]?=x.fl[e.a.toNat]?.map (formK G):=by rw[hfl];simp
   unfold doubleW
   rw[this,List.getElem?_eq_getElem q]
   simp only[Option.map_some,hlen]
   split
   ·simp[MW.v]
   ·rfl
  ·rw[if_neg q,List.getElem?_eq_none (by omega)]
 rw[if_neg k3,if_neg k3]
 by_cases k4:e.kind=4
 ·rw[if_pos k4,if_pos k4,hat,hlen]
  simp only[stepS,decide_eq_true_eq]
  by_cases q:e.a.toNat<x.fl.length
  ·rw[if_pos q]
   have:outT (x.v G).flight e.a.toNat=(outK x.fl e.a.toNat).map (formK G):=Zut
   rw[this];rfl
  ·rw[if_neg q,Zr4 (by omega)]
 rw[if_neg k4,if_neg k4]
 have hcA:=h.ca
 have hcB:=h.cb
 by_cases k5:e.kind=5
 ·rw[if_pos k5,if_pos k5,hat,hml]
  simp only[decide_eq_true_eq]
  by_cases q0:e.a=0
  ·have q1:e.a.toNat=0:=by omega
   rw[if_pos q0,q1,if_pos (by omega)]
   have:=Ztl (b:=e.b != 0) hva
   simp only[mateW,hms,List.getElem?_cons_zero,List.set_cons_zero,this]
   rfl
  by_cases q1:e.a=1
  ·have q2:e.a.toNat=1:=by omega
   rw[if_neg q0,if_pos q1,q2,if_pos (by omega)]
   have:=Ztl (b:=e.b != 0) hvb
   simp only[mateW,hms,List.getElem?_cons_succ,List.getElem?_cons_zero,List.set_cons_succ,List.set_cons_zero,this]
   rfl
  rw[if_neg q0,if_neg q1,if_neg (by omega)]
  rfl
 rw[if_neg k5,if_neg k5]
 by_cases k6:e.kind=6
 ·rw[if_pos k6,if_pos k6,hat,hml]
  simp only[decide_eq_true_eq]
  by_cases q0:e.a=0
  ·have q1:e.a.toNat=0:=by omega
   rw[if_pos q0,q1,if_pos (by omega)]
   have:=Ztf hva (by omega)
   simp only[mateW,hms,List.getElem?_cons_zero,List.set_cons_zero,this]
   rfl
  by_cases q1:e.a=1
  ·have q2:e.a.toNat=1:=by omega
   rw[if_neg q0,if_pos q1,q2,if_pos (by omega)]
   have:=Ztf hvb (by omega)
   simp only[mateW,hms,List.getElem?_cons_succ,List.getElem?_cons_zero,List.set_cons_succ,List.set_cons_zero,this]
   rfl
  rw[if_neg q0,if_neg q1,if_neg (by omega)]
  rfl
 rw[if_neg k6,if_neg k6,if_neg h7]
 rfl
theorem Zl6(l:LS)(p:PK):(landS l p).1.pa=l.pa/\(landS l p).1.pb=l.pb:=by
 unfold landS
 repeat' split
 all_goals simp
theorem Zi1(x:MW)(k:Nat):(bringS x k).land.pa=x.land.pa/\(bringS x k).land.pb=x.land.pb:=by
 unfold bringS
 split
 ·simp
 ·split
  ·simp
  ·exact Zl6 _ _
theorem Ztr(G ra rb:Int)(x:MW)(e:EK):(stepS G ra rb x e).land.pa=x.land.pa/\(stepS G ra rb x e).land.pb=x.land.pb:=by
 cases e with
 | tick=>exact⟨rfl,rfl⟩
 | bring k=>exact Zi1 x k
 | double k=>simp only[stepS];split<;>(try split)<;>exact⟨rfl,rfl⟩
 | lose k=>exact⟨rfl,rfl⟩
 | fall a m=>cases a<;>exact⟨rfl,rfl⟩
 | rise a=>cases a<;>exact⟨rfl,rfl⟩
 | none=>exact⟨rfl,rfl⟩
/-! ### Rounds -/
theorem Zjc{G C:Int}(hG:0<=G/\G<=8)(hC:C<=900000):∀ (n:Nat) {x:MW},WIs (x.v G)->InvS G C x->bringsW n (x.v G)=(bringsS n x).v G/\WIs ((bringsS n x).v G)
 | 0,x,hw,h=>⟨rfl,hw⟩
 | n+1,x,hw,h=>by
  have e:=Zlk (k:=0) hG hw (h.okF hC)
  have hw':=hw.bring 0
  rw[e]at hw'
  simp only[bringsW,bringsS,e]
  exact Zjc hG hC n hw' (h.bring 0)
theorem Ztw{G C ra rb:Int}{x:MW}(hG:0<=G/\G<=8)(hC:C+4<=900000)(hw:WIs (x.v G))(h:InvS G C x)(h1:1<=ra/\ra<=4)(h2:1<=rb/\rb<=4):roundW (x.v G) [ra,rb]=(roundS G ra rb x).v G/\WIs ((roundS G ra rb x).v G):=by
 have e0:=h.tick_v hG hw (by omega) h1 h2
 have w0:=hw.tick [ra,rb]
 rw[e0]at w0
 have i0:=h.tick hG.1 h1 h2
 have hl:∀ y:MW,(y.v G).flight.length=y.fl.length:=fun y=>by simp[MW.v]
 obtain⟨e1,w1⟩:=Zjc hG hC (tickMW G ra rb x).fl.length w0 i0
 obtain⟨e2,w2⟩:=Zjc hG hC (bringsS (tickMW G ra rb x).fl.length (tickMW G ra rb x)).fl.length w1 (i0.brings _)
 simp only[roundW,roundS,e0,hl,e1,e2]
 exact⟨trivial,w2⟩
theorem Zmx{G ra rb:Int}(hG:0<=G/\G<=8)(h1:1<=ra/\ra<=4)(h2:1<=rb/\rb<=4):∀ (n:Nat) {C:Int} {x:MW},C+4*n<=900000->WIs (x.v G)->InvS G C x->roundsW [ra,rb] n (x.v G)=(roundsS G ra rb n x).v G/\WIs ((roundsS G ra rb n x).v G)
 | 0,C,x,_,hw,h=>⟨rfl,hw⟩
 | n+1,C,x,hC,hw,h=>by
  obtain⟨e,w⟩:=Ztw hG (by push_cast at hC;omega) hw h h1 h2
  simp only[roundsW,roundsS,e]
  exact Zmx hG h1 h2 n (C:=C+4) (by push_cast at hC;omega) w (h.round hG.1 h1 h2)
/-! ### Safe, held, settled -/
def heldR(l:Land)(n:T)(r:Run):Bool:=(!alive r || sEq r.want.hold ⟨#[]⟩) || l.grants.any fun g=>sEq g.hold r.want.hold && (sEq g.berth n && (sEq g.copy r.want.copy && decide (l.time<g.til)))
def heldW(w:Wld):Bool:=w.mates.all fun m=>m.runs.all (heldR w.land m.name)
theorem Zks{G:Int}{x:MW}(hw:WIs (x.v G)):(∀ r,x.a.r=some r->aliveZ r.st=true->x.a.clock+4<=r.til)/\(∀ r,x.b.r=some r->aliveZ r.st=true->x.b.clock+4<=r.til):=by
 have hv:∀ r:RS,(r.r G).want.hold≠⟨#[]⟩:=fun r e=>by
  have:sEq volT ⟨#[]⟩=true:=(Zac _ _).2 e
  rw[Zb1]at this;cases this
 have ha:=hw.mates (x.a.m G true) (by simp[MW.v])
 have hb:=hw.mates (x.b.m G false) (by simp[MW.v])
 refine⟨fun r e k=>?_,fun r e k=>?_⟩
 ·exact (ha.runs (r.r G) (by simp[MS.m,e])).lease k (hv r)
 ·exact (hb.runs (r.r G) (by simp[MS.m,e])).lease k (hv r)
theorem Zqa{G C:Int}{x:MW}(hw:WIs (x.v G))(h:InvS G C x):safe (x.v G)=true:=by
 obtain⟨ha,hb⟩:=Zks hw
 have hal:∀ r:RS,alive (r.r G)=aliveZ r.st:=fun _=>rfl
 have hv:∀ r:RS,(r.r G).want.hold=volT:=fun _=>rfl
 have he:(x.v G).mates.flatMap Mate.runs=(x.a.r.map (RS.r G)).toList++(x.b.r.map (RS.r G)).toList:=by simp[MW.v,MS.m]
 have h1:=@InvS.one G C x h
 unfold safe
 rw[hw.ok,he,Bool.true_and]
 generalize x.a.r=oa at *
 generalize x.b.r=ob at *
 cases oa with
 | none=>cases ob with
  | none=>rfl
  | some q=>cases k:aliveZ q.st<;>simp[safeGo,hal,hv,Zb1,k,isIn]
 | some r=>cases ob with
  | none=>cases k:aliveZ r.st<;>simp[safeGo,hal,hv,Zb1,k,isIn]
  | some q =>
   cases k:aliveZ r.st
   ·cases k2:aliveZ q.st<;>simp[safeGo,hal,hv,Zb1,k,k2,isIn]
   ·cases k2:aliveZ q.st
    ·simp[safeGo,hal,hv,Zb1,k,k2,isIn]
    ·exact absurd (hb q rfl k2) (h1 rfl rfl (ha r rfl k))
theorem Zpr{G C:Int}{x:MW}(hw:WIs (x.v G))(h:InvS G C x):heldW (x.v G)=true:=by
 obtain⟨ha,hb⟩:=Zks hw
 have hms:(x.v G).mates=[x.a.m G true,x.b.m G false]:=rfl
 have key:∀ (a:Bool) (r:RS),(aliveZ r.st=true->∃ g,x.land.gr=some g/\g.a=a/\x.land.time<g.til)->heldR (x.v G).land (nmT a) (r.r G)=true:=fun a r hr=>by
  have hal:alive (r.r G)=aliveZ r.st:=rfl
  have hv:(r.r G).want.hold=volT:=rfl
  have hc:(r.r G).want.copy=cpX:=rfl
  unfold heldR
  rw[hal,hv,hc,Zb1]
  cases k:aliveZ r.st
  ·rfl
  ·obtain⟨g,g1,g2,g3⟩:=hr k
   have eg:(x.v G).land.grants=[g.g]:=by simp[MW.v,LS.l,g1]
   have et:(x.v G).land.time=x.land.time:=rfl
   have e1:sEq g.g.hold volT=true:=Zaz
   have e2:sEq g.g.berth (nmT a)=true:=by rw[show g.g.berth=nmT g.a from rfl,Zb2,g2];simp
   have e3:sEq g.g.copy cpX=true:=Zbp
   have e4:g.g.til=g.til:=rfl
   rw[eg,et]
   simp[e1,e2,e3,e4,g3]
 unfold heldW
 rw[hms]
 have na:(x.a.m G true).name=nmT true:=rfl
 have nb:(x.b.m G false).name=nmT false:=rfl
 simp only[List.all_cons,List.all_nil,na,nb,Bool.and_true,Bool.and_eq_true]
 refine⟨?_,?_⟩
 ·cases k:x.a.r with
  | none=>simp[MS.m,k]
  | some r=>simp[MS.m,k,key true r fun k2=>h.heldA k (ha r k k2)]
 ·cases k:x.b.r with
  | none=>simp[MS.m,k]
  | some r=>simp[MS.m,k,key false r fun k2=>h.heldB k (hb r k k2)]
theorem Zph{G:Int}{x:MW}(hw:WIs (x.v G))(h:restS x)(hp:∃ s t,x.land.pa=some (s,false)/\x.land.pb=some (t,true)):settled (x.v G)=true:=by
 obtain⟨s,t,h1,h2⟩:=hp
 obtain⟨u1,u2,u3,u4,r,u5,u6⟩:=h
 have hms:(x.v G).mates=[x.a.m G true,x.b.m G false]:=rfl
 have hpl:(x.v G).land.places=[placeW G true (s,false),placeW G false (t,true)]:=by simp[MW.v,LS.l,h1,h2]
 unfold settled
 rw[hw.ok,hms,hpl]
 have ea:sEq (nmT true) (nmT true)=true:=Zb2 _ _
 have eb:sEq (nmT false) (nmT false)=true:=Zb2 _ _
 have eab:sEq (nmT true) (nmT false)=false:=Zb2 _ _
 have eba:sEq (nmT false) (nmT true)=false:=Zb2 _ _
 have hq:eqWant (RS.r G r).want (oneW G)=true:=Zm7 G
 have hs:(RS.r G r).state=4:=u6
 simp[settledMate,settledRuns,MS.m,u1,u2,u3,u5,wantsFor,placeW,ea,eb,eab,eba,wantsW,runsAre,hq,hs]
theorem Ziy{G ra rb:Int}(hw:WIs ((readyS ra rb).v G)):settled ((readyS ra rb).v G)=true:=by
 unfold settled
 rw[hw.ok]
 have ea:sEq (nmT true) (nmT true)=true:=Zb2 _ _
 have eab:sEq (nmT true) (nmT false)=false:=Zb2 _ _
 have hq:∀ r:RS,eqWant (RS.r G r).want (oneW G)=true:=fun _=>Zm7 G
 simp[MW.v,LS.l,readyS,settledMate,settledRuns,MS.m,wantsFor,placeW,ea,eab,wantsW,runsAre,hq]
 rfl
def head314a(w:Wld)(i:Nat):St:=hd [(1,.ptr 0 0 0),(3,.int .i64 i)] [.box (w.c .bor .own)] 0
def head314b(w:Wld)(i j:Nat):St:=hd [(1,.ptr 0 0 0),(3,.int .i64 i),(4,.int .i64 j)] [.box (w.c .bor .own)] 0
def head314c(w:Wld)(i j:Nat)(r:Run)(b:Bool)(k:Nat):St:=hd [(1,.ptr 0 0 0),(3,.int .i64 i),(4,.int .i64 j),(5,.ptr 1 0 0),(6,.bool b),(7,.int .i64 k)] [.box (w.c .bor .own),.box r.c] 0
def grantFits(l:Land)(n:T)(r:Run)(g:Grant):Bool:=sEq g.hold r.want.hold && (sEq g.berth n && (sEq g.copy r.want.copy && decide (l.time<g.til)))
theorem law314(w:Wld)(hw:w.small):F 314 [.agg (w.c .bor .own)] []=some (.bool (heldW w),[]):=by
 refine Zah fn314 rfl ?_
 have hl:=hw.mates
 have hlg:=hw.land.grants
 simp only[heldW]
 simp[c314]
 refine (Zab w.mates (fun i (_:Unit)=>head314a w i) (fun _ _=>True) (fun _ r _=>(.bool (r.all fun m=>m.runs.all (heldR w.land m.name)),[])) (fun acc Y _=>?_) (fun i a r acc Y ha hi hr _ hY=>?_) () ?_ trivial ?_).trans (by simp)
 ·simp[head314a,c314b2]
 ·have hw1:IntKind.i64.wrap ((i:Int)+1)=(i:Int)+1:=i64w (by omega) (by omega)
  obtain⟨_,hg⟩:=List.getElem?_eq_some_iff.1 ha
  have hps:∀ (h:i<w.mates.length),w.mates[i]'h=a:=fun _=>hg
  have hrs:=(hw.each a (List.mem_of_getElem? ha)).runs
  simp only[List.all_cons]
  simp[head314a,c314b2,hi]
  refine (Zab a.runs (fun j (_:Unit)=>head314b w i j) (fun _ _=>True) (fun _ t _=>(.bool (t.all (heldR w.land a.name) && r.all fun m=>m.runs.all (heldR w.land m.name)),[])) (fun acc Z _=>?_) (fun j b t acc Z hb hj ht _ hZ=>?_) () ?_ trivial ?_).trans (by simp)
  ·simp[head314b,c314b1,hi,hps]
   exact (hY () _ trivial (by simp[head314a,hw1])).trans (by simp)
  ·have hwj:IntKind.i64.wrap ((j:Int)+1)=(j:Int)+1:=i64w (by omega) (by omega)
   obtain⟨_,hgb⟩:=List.getElem?_eq_some_iff.1 hb
   have hpb:∀ (h:j<a.runs.length),a.runs[j]'h=b:=fun _=>hgb
   have w2:=law2 b.want.copy b.want.version b.want.hold b.want.pull b.want.start b.want.dies b.want.grace b.state b.left b.falls b.til
   simp only[List.all_cons,heldR]
   obtain⟨rest,hrest⟩:∃ rest,rest=(t.all (heldR w.land a.name) && r.all fun m=>m.runs.all (heldR w.land m.name)):=⟨_,rfl⟩
   have hany:(w.land.grants.any fun g=>sEq g.hold b.want.hold && (sEq g.berth a.name && (sEq g.copy b.want.copy && decide (w.land.time<g.til))))=w.land.grants.any (grantFits w.land a.name b):=rfl
   rw[hany,Bool.and_assoc,<- hrest]
   rw[<- hrest]at hZ
   have hal:alive b=aliveS b.state:=rfl
   rw[hal]
   simp[head314b,c314b1,hi,hps,hj,hpb]
   cases q1:aliveS b.state<;>simp
   ·exact hZ () _ trivial (by simp[head314b,hwj])
   cases q2:sEq b.want.hold ⟨#[]⟩<;>simp
   ·refine (Zab w.land.grants (fun k (f:Bool)=>head314c w i j b f k) (fun _ _=>True) (fun _ u f=>(.bool ((f || u.any (grantFits w.land a.name b)) && rest),[])) (fun f V _=>?_) (fun k g u f V hx hk hu _ hV=>?_) false ?_ trivial ?_).trans (by simp)
    ·simp[head314c,c314b0]
     cases f<;>simp
     exact (hZ () _ trivial (by simp[head314b,hwj])).trans (by simp)
    ·have hwk:IntKind.i64.wrap ((k:Int)+1)=(k:Int)+1:=i64w (by omega) (by omega)
     obtain⟨_,hgx⟩:=List.getElem?_eq_some_iff.1 hx
     have hpg:∀ (h:k<w.land.grants.length),w.land.grants[k]'h=g:=fun _=>hgx
     simp only[List.any_cons,grantFits]
     have hV':∀ s',s'.norm [1,3,4,5,6,7]=head314c w i j b (f || grantFits w.land a.name b g) (k+1)->fin [.tmp 2] 0 (V s')=some (.bool ((f || (grantFits w.land a.name b g || u.any (grantFits w.land a.name b))) && rest),[]):=fun s' hs'=>by
      have:=hV (f || grantFits w.land a.name b g) s' trivial hs'
      rw[Bool.or_assoc]at this
      exact this
     simp[head314c,c314b0,hk,hpg,hi,hps]
     cases f<;>(cases v1:sEq g.hold b.want.hold)<;>(cases v2:sEq g.berth a.name)<;>(cases v3:sEq g.copy b.want.copy)<;>simp<;>exact (hV' _ (by simp[head314c,hwk,grantFits,v1,v2,v3])).trans (by simp[grantFits,v1,v2,v3])
    ·simp[head314c]
    ·unfold big;omega
   ·exact hZ () _ trivial (by simp[head314b,hwj])
  ·simp[head314b]
  ·unfold big;omega
 ·simp[head314a]
 ·unfold big;omega
def lastG(h:T):List Grant->Nat->Int->Int
 | [],_,a=>a
 | g::r,i,a=>lastG h r (i+1) (if sEq g.hold h then i else a)
theorem Zg8{h:T}:∀ {gs:List Grant} {i:Nat} {a:Int},Lacks Grant.k h gs->lastG h gs i a=a
 | [],_,_,_=>rfl
 | g::r,i,a,hl=>by
  rw[lastG,Zad (show g.hold≠h from hl g List.mem_cons_self)]
  exact Zg8 fun y hy=>hl y (List.mem_cons_of_mem _ hy)
theorem Zh4{h:T}:∀ {gs:List Grant} {i:Nat},Asc Grant.k gs->lastG h gs i (-1)=findG h i gs
 | [],_,_=>rfl
 | g::r,i,ha=>by
  have h1:=List.pairwise_cons.1 ha
  by_cases q:sEq g.hold h=true
  ·rw[lastG,findG,if_pos q,if_pos q]
   refine Zg8 fun y hy e=>?_
   have:=h1.1 y hy
   rw[e]at this
   unfold Grant.k at this
   rw[(Zac _ _).1 q,Zak]at this
   cases this
  ·rw[lastG,findG,if_neg q,if_neg q]
   exact Zh4 h1.2
def hasHold(ws:List Want)(c h:T):Bool:=match findW ws c with
 | some w=>sEq w.hold h
 | none=>false
def wantsLast(b c h:T):List Place->Bool->Bool
 | [],a=>a
 | q::r,a=>wantsLast b c h r (if sEq q.berth b then hasHold q.wants c h else a)
theorem Zgv{c h:T}:∀ {ws:List Want},Asc Want.copy ws->hasHold ws c h=ws.any fun w=>sEq w.copy c && sEq w.hold h
 | [],_=>rfl
 | w::r,ha=>by
  have h1:=List.pairwise_cons.1 ha
  unfold hasHold findW
  rw[List.find?_cons,List.any_cons]
  cases q:sEq w.copy c
  ·have:=Zgv (c:=c) (h:=h) h1.2
   unfold hasHold findW at this
   simpa using this
  ·have hn:(r.any fun w=>sEq w.copy c && sEq w.hold h)=false:=by
    rw[List.any_eq_false]
    intro y hy
    have:=h1.1 y hy
    rw[(Zac _ _).1 q]at this
    rw[Zad (fun e=>by rw[e,Zak]at this;cases this)]
    simp
   rw[hn]
   simp
theorem Zdh{b c h:T}:∀ {ps:List Place} {a:Bool},(∀ p∈ps,p.berth≠b)->wantsLast b c h ps a=a/\ps.any (wantsHold b c h)=false
 | [],_,_=>⟨rfl,rfl⟩
 | p::r,a,hn=>by
  have h1:=Zad (hn p List.mem_cons_self)
  obtain⟨h2,h3⟩:=Zdh (c:=c) (h:=h) (a:=a) fun q hq=>hn q (List.mem_cons_of_mem _ hq)
  refine⟨by rw[wantsLast,h1];exact h2,?_⟩
  rw[List.any_cons,h3]
  simp[wantsHold,h1]
theorem Zea{b c h:T}:∀ {ps:List Place},Asc (·.berth) ps->(∀ p∈ps,Asc Want.copy p.wants)->wantsLast b c h ps false=ps.any (wantsHold b c h)
 | [],_,_=>rfl
 | p::r,ha,hw=>by
  have h1:=List.pairwise_cons.1 ha
  rw[wantsLast,List.any_cons]
  cases q:sEq p.berth b
  ·rw[if_neg (by simp),Zea h1.2 fun q hq=>hw q (List.mem_cons_of_mem _ hq)]
   simp[wantsHold,q]
  ·have hn:∀ y∈r,y.berth≠b:=fun y hy e=>by
    have:=h1.1 y hy
    simp only at this
    rw[(Zac _ _).1 q,e,Zak]at this
    cases this
   obtain⟨h2,h3⟩:=Zdh (c:=c) (h:=h) (a:=hasHold p.wants c h) hn
   rw[if_pos rfl,h2,h3,Zgv (hw p List.mem_cons_self)]
   simp[wantsHold,q]
def tl76:CCode:=(.seq (.seq (.region [
  ⟨some 75,.faddr (.tmp 3) 0,none⟩,
  ⟨some 76,.load (.tmp 75) 1 false .plain,none⟩,
  ⟨some 77,.bin .eql (.tmp 76) (.const (.int .i64 4)),none⟩] [2,3,4,6,77])
 (.cond (.tmp 77)
  (.seq (.seq (.quiet [
   ⟨some 78,.mov (.tmp 6),none⟩,
   ⟨some 79,.bin .geq (.tmp 78) (.const (.int .i64 0)),none⟩,
   ⟨some 80,.mov (.tmp 79),none⟩,
   ⟨some 81,.faddr (.tmp 2) 1,some (80,true)⟩,
   ⟨some 82,.load (.tmp 81) 1 false .plain,some (80,true)⟩,
   ⟨some 83,.mov (.tmp 6),some (80,true)⟩,
   ⟨some 84,.iaddr 5 (.tmp 82) (.tmp 83),some (80,true)⟩,
   ⟨some 85,.faddr (.tmp 84) 1,some (80,true)⟩,
   ⟨some 86,.load (.tmp 85) 1 false .plain,some (80,true)⟩,
   ⟨some 87,.faddr (.tmp 3) 1,some (80,true)⟩,
   ⟨some 88,.load (.tmp 87) 1 false .plain,some (80,true)⟩,
   ⟨some 89,.bin .eql (.tmp 86) (.tmp 88),some (80,true)⟩,
   ⟨some 90,.pick (.tmp 80) (.tmp 89) (.const (.bool false)),none⟩,
   ⟨some 91,.mov (.tmp 90),none⟩,
   ⟨some 92,.faddr (.tmp 2) 1,some (91,true)⟩,
   ⟨some 93,.load (.tmp 92) 1 false .plain,some (91,true)⟩,
   ⟨some 94,.mov (.tmp 6),some (91,true)⟩,
   ⟨some 95,.iaddr 5 (.tmp 93) (.tmp 94),some (91,true)⟩,
   ⟨some 96,.faddr (.tmp 95) 3,some (91,true)⟩,
   ⟨some 97,.load (.tmp 96) 1 false .plain,some (91,true)⟩,
   ⟨some 98,.faddr (.tmp 3) 6,some (91,true)⟩,
   ⟨some 99,.load (.tmp 98) 1 false .plain,some (91,true)⟩,
   ⟨some 100,.bin .leq (.tmp 97) (.tmp 99),some (91,true)⟩,
   ⟨some 101,.pick (.tmp 91) (.tmp 100) (.const (.bool false)),none⟩] [2,3,4,6,101])
  (.cond (.tmp 101)
   (.loud [
    ⟨some 102,.faddr (.tmp 2) 1,none⟩,
    ⟨some 103,.load (.tmp 102) 1 false .plain,none⟩,
    ⟨some 104,.mov (.tmp 6),none⟩,
    ⟨some 105,.mov (.tmp 6),none⟩,
    ⟨some 106,.cut3 5 (.tmp 103) (.tmp 104) (.tmp 105),none⟩,
    ⟨some 107,.faddr (.tmp 2) 1,none⟩,
    ⟨some 108,.load (.tmp 107) 1 false .plain,none⟩,
    ⟨some 109,.mov (.tmp 6),none⟩,
    ⟨some 110,.bin .add (.tmp 109) (.const (.int .i64 1)),none⟩,
    ⟨some 111,.slice 5 (.tmp 108) (some (.tmp 110)) none,none⟩,
    ⟨some 112,.append 5 64 true (.tmp 106) (.tmp 111),none⟩,
    ⟨some 113,.faddr (.tmp 2) 1,none⟩,
    ⟨none,.store (.tmp 113) (.tmp 112) 1,none⟩] [0,1,0,0,15,0,32,0,128,480,1023,2047,4095] [2,3,4])
   .skip))
  (.seq (.loud [
   ⟨some 114,.load (.tmp 2) 3 true .plain,none⟩,
   ⟨some 115,.faddr (.tmp 3) 1,none⟩,
   ⟨some 116,.load (.tmp 115) 1 false .plain,none⟩,
   ⟨some 117,.faddr (.tmp 3) 4,none⟩,
   ⟨some 118,.load (.tmp 117) 1 false .plain,none⟩,
   ⟨some 119,.faddr (.tmp 3) 6,none⟩,
   ⟨some 120,.load (.tmp 119) 1 false .plain,none⟩,
   ⟨some 121,.build [.int .i64 0,.str ⟨#[]⟩,.int .i64 0,.sl .own 7 [],.str ⟨#[]⟩,.str ⟨#[]⟩,.int .i64 0] [(0,1,.const (.int .i64 5)),(1,1,.tmp 116),(4,1,.tmp 118),(6,1,.tmp 120)],none⟩,
   ⟨some 122,.bslice 7 [.int .i64 0,.str ⟨#[]⟩,.int .i64 0,.sl .own 7 [],.str ⟨#[]⟩,.str ⟨#[]⟩,.int .i64 0] 1 [(0,.tmp 121)],none⟩,
   ⟨none,.store (.tmp 4) (.tmp 114) 3,none⟩,
   ⟨some 5,.mov (.tmp 122),none⟩] [0,0,2,0,8,0,32,126,254,1,1023] [4,5])
  .ret))
  .skip))
 (.seq (.region [
  ⟨some 9,.mov (.const (.bool false)),none⟩] [2,3,4,6,9])
 (.seq (.seq (.region [
  ⟨some 123,.faddr (.tmp 2) 2,none⟩,
  ⟨some 124,.load (.tmp 123) 1 false .plain,none⟩,
  ⟨some 125,.len false (.tmp 124),none⟩,
  ⟨some 126,.mov (.const (.int .i64 0)),none⟩] [2,3,4,6,9,124,125,126])
 (.block 2
  (.loop [2,3,4,6,9,124,125,126] c76b1)))
 (.seq (.seq (.region [
  ⟨some 152,.mov (.tmp 9),none⟩,
  ⟨some 153,.un .not (.tmp 152),none⟩] [2,3,4,6,153])
 (.cond (.tmp 153)
  (.seq (.region [
   ⟨some 154,.load (.tmp 2) 3 true .plain,none⟩,
   ⟨none,.store (.tmp 4) (.tmp 154) 3,none⟩,
   ⟨some 5,.mov (.const (.sl .own 7 [])),none⟩] [4,5])
  .ret)
  .skip))
 (.seq (.region [
  ⟨some 155,.faddr (.tmp 3) 4,none⟩,
  ⟨some 156,.load (.tmp 155) 1 false .plain,none⟩,
  ⟨some 157,.faddr (.tmp 3) 1,none⟩,
  ⟨some 158,.load (.tmp 157) 1 false .plain,none⟩,
  ⟨some 159,.faddr (.tmp 3) 5,none⟩,
  ⟨some 160,.load (.tmp 159) 1 false .plain,none⟩,
  ⟨some 161,.faddr (.tmp 3) 6,none⟩,
  ⟨some 162,.load (.tmp 161) 1 false .plain,none⟩,
  ⟨some 163,.faddr (.tmp 2) 0,none⟩,
  ⟨some 164,.load (.tmp 163) 1 false .plain,none⟩,
  ⟨some 165,.bin .add (.tmp 164) (.const (.int .i64 32)),none⟩,
  ⟨some 166,.build [.str ⟨#[]⟩,.str ⟨#[]⟩,.str ⟨#[]⟩,.int .i64 0,.int .i64 0] [(0,1,.tmp 156),(1,1,.tmp 158),(2,1,.tmp 160),(3,1,.tmp 162),(4,1,.tmp 165)],none⟩,
  ⟨some 14,.alloc [.str ⟨#[]⟩,.str ⟨#[]⟩,.str ⟨#[]⟩,.int .i64 0,.int .i64 0],none⟩,
  ⟨none,.store (.tmp 14) (.tmp 166) 5,none⟩] [2,3,4,6,14])
 (.seq (.region [
  ⟨some 167,.faddr (.tmp 3) 1,none⟩,
  ⟨some 168,.load (.tmp 167) 1 false .plain,none⟩,
  ⟨some 169,.faddr (.tmp 3) 4,none⟩,
  ⟨some 170,.load (.tmp 169) 1 false .plain,none⟩,
  ⟨some 171,.faddr (.tmp 3) 5,none⟩,
  ⟨some 172,.load (.tmp 171) 1 false .plain,none⟩,
  ⟨some 173,.faddr (.tmp 3) 6,none⟩,
  ⟨some 174,.load (.tmp 173) 1 false .plain,none⟩,
  ⟨some 175,.build [.int .i64 0,.str ⟨#[]⟩,.int .i64 0,.sl .own 7 [],.str ⟨#[]⟩,.str ⟨#[]⟩,.int .i64 0] [(0,1,.const (.int .i64 3)),(1,1,.tmp 168),(4,1,.tmp 170),(5,1,.tmp 172),(6,1,.tmp 174)],none⟩,
  ⟨some 176,.bslice 7 [.int .i64 0,.str ⟨#[]⟩,.int .i64 0,.sl .own 7 [],.str ⟨#[]⟩,.str ⟨#[]⟩,.int .i64 0] 1 [(0,.tmp 175)],none⟩,
  ⟨some 15,.mov (.tmp 176),none⟩] [2,3,4,6,14,15])
 (.seq (.seq (.region [
  ⟨some 177,.mov (.tmp 6),none⟩,
  ⟨some 178,.bin .geq (.tmp 177) (.const (.int .i64 0)),none⟩] [2,3,4,6,14,15,178])
 (.cond (.tmp 178)
  (.seq (.region [
   ⟨some 179,.faddr (.tmp 2) 1,none⟩,
   ⟨some 180,.load (.tmp 179) 1 false .plain,none⟩,
   ⟨some 181,.mov (.tmp 6),none⟩,
   ⟨some 182,.iaddr 5 (.tmp 180) (.tmp 181),none⟩,
   ⟨some 183,.load (.tmp 182) 5 true .plain,none⟩,
   ⟨some 16,.alloc [.str ⟨#[]⟩,.str ⟨#[]⟩,.str ⟨#[]⟩,.int .i64 0,.int .i64 0],none⟩,
   ⟨none,.store (.tmp 16) (.tmp 183) 5,none⟩] [2,3,4,6,14,15,16])
  (.seq (.seq (.region [
   ⟨some 184,.faddr (.tmp 16) 4,none⟩,
   ⟨some 185,.load (.tmp 184) 1 false .plain,none⟩,
   ⟨some 186,.faddr (.tmp 2) 0,none⟩,
   ⟨some 187,.load (.tmp 186) 1 false .plain,none⟩,
   ⟨some 188,.bin .gtr (.tmp 185) (.tmp 187),none⟩,
   ⟨some 189,.mov (.tmp 188),none⟩,
   ⟨some 190,.faddr (.tmp 16) 1,some (189,true)⟩,
   ⟨some 191,.load (.tmp 190) 1 false .plain,some (189,true)⟩,
   ⟨some 192,.faddr (.tmp 3) 1,some (189,true)⟩,
   ⟨some 193,.load (.tmp 192) 1 false .plain,some (189,true)⟩,
   ⟨some 194,.bin .eql (.tmp 191) (.tmp 193),some (189,true)⟩,
   ⟨some 195,.mov (.tmp 194),some (189,true)⟩,
   ⟨some 196,.faddr (.tmp 16) 2,some (195,true)⟩,
   ⟨some 197,.load (.tmp 196) 1 false .plain,some (195,true)⟩,
   ⟨some 198,.faddr (.tmp 3) 5,some (195,true)⟩,
   ⟨some 199,.load (.tmp 198) 1 false .plain,some (195,true)⟩,
   ⟨some 200,.bin .eql (.tmp 197) (.tmp 199),some (195,true)⟩,
   ⟨some 201,.pick (.tmp 195) (.tmp 200) (.const (.bool false)),some (189,true)⟩,
   ⟨some 202,.mov (.tmp 201),some (189,true)⟩,
   ⟨some 203,.faddr (.tmp 16) 3,some (202,true)⟩,
   ⟨some 204,.load (.tmp 203) 1 false .plain,some (202,true)⟩,
   ⟨some 205,.faddr (.tmp 3) 6,some (202,true)⟩,
   ⟨some 206,.load (.tmp 205) 1 false .plain,some (202,true)⟩,
   ⟨some 207,.bin .leq (.tmp 204) (.tmp 206),some (202,true)⟩,
   ⟨some 208,.pick (.tmp 202) (.tmp 207) (.const (.bool false)),some (189,true)⟩,
   ⟨some 209,.un .not (.tmp 208),some (189,true)⟩,
   ⟨some 210,.pick (.tmp 189) (.tmp 209) (.const (.bool false)),none⟩] [2,4,6,14,15,210])
  (.cond (.tmp 210)
   (.seq (.region [
    ⟨some 211,.load (.tmp 2) 3 true .plain,none⟩,
    ⟨none,.store (.tmp 4) (.tmp 211) 3,none⟩,
    ⟨some 5,.mov (.const (.sl .own 7 [])),none⟩] [4,5])
   .ret)
   .skip))
  (.seq (.region [
   ⟨some 212,.faddr (.tmp 2) 1,none⟩,
   ⟨some 213,.load (.tmp 212) 1 false .plain,none⟩,
   ⟨some 214,.mov (.tmp 6),none⟩,
   ⟨some 215,.load (.tmp 14) 5 true .plain,none⟩,
   ⟨some 216,.iaddr 5 (.tmp 213) (.tmp 214),none⟩,
   ⟨none,.store (.tmp 216) (.tmp 215) 5,none⟩] [2,4,15])
  (.seq (.region [
   ⟨some 217,.load (.tmp 2) 3 true .plain,none⟩,
   ⟨some 218,.mov (.tmp 15),none⟩,
   ⟨none,.store (.tmp 4) (.tmp 217) 3,none⟩,
   ⟨some 5,.mov (.tmp 218),none⟩] [4,5])
  .ret))))
  .skip))
 (.seq (.loud [
  ⟨some 219,.faddr (.tmp 2) 1,none⟩,
  ⟨some 220,.load (.tmp 219) 1 false .plain,none⟩,
  ⟨some 221,.append 5 64 true (.const (.sl .own 5 [])) (.tmp 220),none⟩,
  ⟨some 222,.load (.tmp 14) 5 true .plain,none⟩,
  ⟨some 223,.bslice 5 [.str ⟨#[]⟩,.str ⟨#[]⟩,.str ⟨#[]⟩,.int .i64 0,.int .i64 0] 1 [(0,.tmp 222)],none⟩,
  ⟨some 224,.append 5 64 true (.tmp 221) (.tmp 223),none⟩,
  ⟨some 17,.alloc [.sl .own 5 []],none⟩,
  ⟨none,.store (.tmp 17) (.tmp 224) 1,none⟩] [0,1,3,0,8,31,0,127] [2,4,15,17])
 (.seq (.seq (.region [
  ⟨some 225,.load (.tmp 17) 1 false .plain,none⟩,
  ⟨some 226,.len false (.tmp 225),none⟩,
  ⟨some 227,.bin .gtr (.tmp 226) (.const (.int .i64 40)),none⟩] [2,4,15,17,227])
 (.cond (.tmp 227)
  (.seq (.region [
   ⟨some 18,.mov (.const (.sl .own 5 [])),none⟩] [2,4,15,17,18])
  (.seq (.seq (.region [
   ⟨some 228,.load (.tmp 17) 1 false .plain,none⟩,
   ⟨some 229,.len false (.tmp 228),none⟩,
   ⟨some 230,.mov (.const (.int .i64 0)),none⟩] [2,4,15,17,18,228,229,230])
  (.block 4
   (.loop [2,4,15,17,18,228,229,230] c76b2)))
  (.region [
   ⟨some 244,.mov (.tmp 18),none⟩,
   ⟨none,.store (.tmp 17) (.tmp 244) 1,none⟩] [2,4,15,17])))
  .skip))
 (.seq (.seq (.region [
  ⟨some 245,.load (.tmp 17) 1 false .plain,none⟩,
  ⟨some 246,.len false (.tmp 245),none⟩,
  ⟨some 247,.bin .gtr (.tmp 246) (.const (.int .i64 40)),none⟩] [2,4,15,17,247])
 (.cond (.tmp 247)
  (.seq (.region [
   ⟨some 248,.load (.tmp 2) 3 true .plain,none⟩,
   ⟨none,.store (.tmp 4) (.tmp 248) 3,none⟩,
   ⟨some 5,.mov (.const (.sl .own 7 [])),none⟩] [4,5])
  .ret)
  .skip))
 (.seq (.region [
  ⟨some 249,.load (.tmp 17) 1 false .plain,none⟩,
  ⟨some 250,.mkifs 184 (.tmp 249),none⟩,
  ⟨some 251,.mkclo 184 (.tmp 17),none⟩,
  ⟨some 252,.sortc 184 0 0 5 (.tmp 250) (.tmp 251),none⟩] [2,4,15,17])
 (.seq (.region [
  ⟨some 253,.load (.tmp 17) 1 false .plain,none⟩,
  ⟨some 254,.faddr (.tmp 2) 1,none⟩,
  ⟨none,.store (.tmp 254) (.tmp 253) 1,none⟩] [2,4,15])
 (.seq (.region [
  ⟨some 255,.load (.tmp 2) 3 true .plain,none⟩,
  ⟨some 256,.mov (.tmp 15),none⟩,
  ⟨none,.store (.tmp 4) (.tmp 255) 3,none⟩,
  ⟨some 5,.mov (.tmp 256),none⟩] [4,5])
 .ret)))))))))))))
theorem c76_cut:c76=⟨257,[.cell 4 3 true,.tmp 5],
 (.seq (.region [
  ⟨some 2,.box (.tmp 0),none⟩,
  ⟨some 3,.box (.tmp 1),none⟩,
  ⟨some 4,.alloc [.int .i64 0,.sl .own 5 [],.sl .own 3 []],none⟩,
  ⟨some 5,.mov (.const (.sl .own 7 [])),none⟩] [2,3,4])
 (.seq (.seq (.region [
  ⟨some 21,.load (.tmp 2) 3 true .plain,none⟩,
  ⟨some 22,.call 23 [false] [.tmp 21],none⟩,
  ⟨some 23,.un .not (.tmp 22),none⟩] [2,3,4,23])
 (.cond (.tmp 23)
  (.seq (.region [
   ⟨some 24,.build [.int .i64 0,.sl .own 5 [],.sl .own 3 []] [],none⟩,
   ⟨none,.store (.tmp 4) (.tmp 24) 3,none⟩,
   ⟨some 5,.mov (.const (.sl .own 7 [])),none⟩] [4,5])
  .ret)
  .skip))
 (.seq (.region [
  ⟨some 25,.load (.tmp 2) 3 true .plain,none⟩,
  ⟨some 26,.call 122 [false] [.tmp 25],none⟩,
  ⟨none,.store (.tmp 2) (.tmp 26) 3,none⟩] [2,3,4])
 (.seq (.seq (.region [
  ⟨some 27,.faddr (.tmp 3) 0,none⟩,
  ⟨some 28,.load (.tmp 27) 1 false .plain,none⟩,
  ⟨some 29,.bin .neq (.tmp 28) (.const (.int .i64 2)),none⟩,
  ⟨some 30,.mov (.tmp 29),none⟩,
  ⟨some 31,.faddr (.tmp 3) 0,some (30,true)⟩,
  ⟨some 32,.load (.tmp 31) 1 false .plain,some (30,true)⟩,
  ⟨some 33,.bin .neq (.tmp 32) (.const (.int .i64 4)),some (30,true)⟩,
  ⟨some 34,.pick (.tmp 30) (.tmp 33) (.const (.bool false)),none⟩,
  ⟨some 35,.mov (.tmp 34),none⟩,
  ⟨some 36,.faddr (.tmp 3) 1,some (35,false)⟩,
  ⟨some 37,.load (.tmp 36) 1 false .plain,some (35,false)⟩,
  ⟨some 38,.call 105 [false] [.tmp 37],some (35,false)⟩,
  ⟨some 39,.un .not (.tmp 38),some (35,false)⟩,
  ⟨some 40,.pick (.tmp 35) (.const (.bool true)) (.tmp 39),none⟩,
  ⟨some 41,.mov (.tmp 40),none⟩,
  ⟨some 42,.faddr (.tmp 3) 4,some (41,false)⟩,
  ⟨some 43,.load (.tmp 42) 1 false .plain,some (41,false)⟩,
  ⟨some 44,.call 106 [false] [.tmp 43],some (41,false)⟩,
  ⟨some 45,.un .not (.tmp 44),some (41,false)⟩,
  ⟨some 46,.pick (.tmp 41) (.const (.bool true)) (.tmp 45),none⟩,
  ⟨some 47,.mov (.tmp 46),none⟩,
  ⟨some 48,.faddr (.tmp 3) 5,some (47,false)⟩,
  ⟨some 49,.load (.tmp 48) 1 false .plain,some (47,false)⟩,
  ⟨some 50,.call 105 [false] [.tmp 49],some (47,false)⟩,
  ⟨some 51,.un .not (.tmp 50),some (47,false)⟩,
  ⟨some 52,.pick (.tmp 47) (.const (.bool true)) (.tmp 51),none⟩,
  ⟨some 53,.mov (.tmp 52),none⟩,
  ⟨some 54,.faddr (.tmp 3) 6,some (53,false)⟩,
  ⟨some 55,.load (.tmp 54) 1 false .plain,some (53,false)⟩,
  ⟨some 56,.call 85 [false,false,false] [.tmp 55,.const (.int .i64 0),.const (.int .i64 1000000)],some (53,false)⟩,
  ⟨some 57,.un .not (.tmp 56),some (53,false)⟩,
  ⟨some 58,.pick (.tmp 53) (.const (.bool true)) (.tmp 57),none⟩] [2,3,4,58])
 (.cond (.tmp 58)
  (.seq (.region [
   ⟨some 59,.load (.tmp 2) 3 true .plain,none⟩,
   ⟨none,.store (.tmp 4) (.tmp 59) 3,none⟩,
   ⟨some 5,.mov (.const (.sl .own 7 [])),none⟩] [4,5])
  .ret)
  .skip))
 (.seq (.region [
  ⟨some 6,.mov (.const (.int .i64 (-1))),none⟩] [2,3,4,6])
 (.seq (.seq (.region [
  ⟨some 60,.faddr (.tmp 2) 1,none⟩,
  ⟨some 61,.load (.tmp 60) 1 false .plain,none⟩,
  ⟨some 62,.len false (.tmp 61),none⟩,
  ⟨some 63,.mov (.const (.int .i64 0)),none⟩] [2,3,4,6,61,62,63])
 (.block 0
  (.loop [2,3,4,6,61,62,63] c76b0)))
 tl76))))))⟩:=rfl
def head76a(l:Land)(p:Parcel)(i:Nat)(a:Int):St :=
 hd [(2,.ptr 0 0 0),(3,.ptr 1 0 0),(4,.ptr 2 0 0),(6,.int .i64 a),(61,.ref 3),(62,.int .i64 l.grants.length),(63,.int .i64 i)]
  [.box [.int .i64 l.time,.ref 3,.ref 4],.box (p.c .bor),.box zeroL,.arr 5 (l.grants.map Grant.c),.arr 3 (l.places.map (Place.c .own))] 0
def head76b(l:Land)(p:Parcel)(a:Int)(i:Nat)(b:Bool):St :=
 hd [(2,.ptr 0 0 0),(3,.ptr 1 0 0),(4,.ptr 2 0 0),(6,.int .i64 a),(9,.bool b),(124,.ref 3),(125,.int .i64 l.places.length),(126,.int .i64 i)]
  [.box [.int .i64 l.time,.ref 4,.ref 3],.box (p.c .bor),.box zeroL,.arr 3 (l.places.map (Place.c .own)),.arr 5 (l.grants.map Grant.c)] 0
def head76c(l:Land)(p:Parcel)(gs:List Grant)(i:Nat)(acc:List Grant):St :=
 if acc=[] then hd [(2,.ptr 0 0 0),(4,.ptr 1 0 0),(15,.ref 2),(17,.ptr 3 0 0),(18,.sl .own 5 []),(228,.ref 4),(229,.int .i64 gs.length),(230,.int .i64 i)]
  [.box [.int .i64 l.time,.ref 5,.ref 6],.box zeroL,.arr 7 [(givenP p).c .own],.box [.ref 4],.arr 5 (gs.map Grant.c),.arr 5 (l.grants.map Grant.c),.arr 3 (l.places.map (Place.c .own))] 0
 else hd [(2,.ptr 0 0 0),(4,.ptr 1 0 0),(15,.ref 2),(17,.ptr 3 0 0),(18,.ref 4),(228,.ref 5),(229,.int .i64 gs.length),(230,.int .i64 i)]
  [.box [.int .i64 l.time,.ref 6,.ref 7],.box zeroL,.arr 7 [(givenP p).c .own],.box [.ref 5],.arr 5 (acc.map Grant.c),.arr 5 (gs.map Grant.c),.arr 5 (l.grants.map Grant.c),.arr 3 (l.places.map (Place.c .own))] 0
def landRes(r:Land×List Parcel):AV×List (Option AO):=(.tup [.agg (r.1.c .own .own),.sl .own 7 (r.2.map (Parcel.c .own))],[])
def takeRes(l:Land)(p:Parcel):Land×List Parcel:=if p.kind=2 then match landGive l p with
    | some x=>(x,[givenP p])
    | none=>(l,[])
   else (landBack l p,[gotBack p])
theorem Zg4:∀ (r pre:List Place),placesGo pre r=true->∀ p∈r,placeOk p=true
 | [],_,_,p,hp=>by simp at hp
 | q::r,pre,k,p,hp=>by
  simp only[placesGo,Bool.and_eq_true]at k
  rcases List.mem_cons.1 hp with rfl|hp
  ·exact k.1
  ·exact Zg4 r _ k.2.2.2 p hp
theorem Zhr{l:Land}(h:landOk l=true):∀ p∈l.places,placeOk p=true:=by
 simp only[landOk,Bool.and_eq_true]at h
 exact Zg4 l.places [] h.2.2.2.2.2
theorem Zfm{l:Land}(h:landOk l=true):∀ p∈l.places,wantsOk p.wants=true:=fun p hp=>by
 have:=Zhr h p hp
 simp only[placeOk,Bool.and_eq_true]at this
 exact this.2.2
theorem Zti(l:Land)(p:Parcel)(hv:landOk l=true)(hk:p.kind=2\/p.kind=4)(s:St)(hs:s.norm [2,3,4,6,61,62,63]=head76a l p 0 (-1)) :
  fin [.cell 4 3 true,.tmp 5] 0 (X F [.code (.loop [2,3,4,6,61,62,63] c76b0),.blk 0,.code tl76] (.normal,s))=some (landRes (takeRes l p)):=by
 obtain⟨ha,ht0,ht1,h40⟩:=Zjp hv
 obtain⟨hpa,hp4,_⟩:=Ze3 hv
 refine (Zab l.grants (fun i (a:Int)=>head76a l p i a) (fun i a=>lastG p.hold (l.grants.drop i) i a=findG p.hold 0 l.grants) (fun _ _ _=>_) (fun a Y hinv=>?_) (fun i g r a Y hg hi hr hinv hY=>?_) (-1) hs (by rw[List.drop_zero];exact Zh4 ha) ?_).trans rfl
 ·rw[List.drop_length]at hinv
  simp only[lastG]at hinv
  subst hinv
  rcases hk with k2|k4
  ·simp[head76a,c76b0,tl76,zeroL,k2]
   refine (Zab l.places (fun i (b:Bool)=>head76b l p (findG p.hold 0 l.grants) i b) (fun i b=>wantsLast p.berth p.copy p.hold (l.places.drop i) b=l.places.any (wantsHold p.berth p.copy p.hold)) (fun _ _ _=>_) (fun b Y hinv=>?_) (fun i q r b Y hq hi hr hinv hY=>?_) false ?_ ?_ ?_).trans rfl
   ·rw[List.drop_length]at hinv
    simp only[wantsLast]at hinv
    unfold takeRes landGive
    rw[if_pos k2,<- hinv]
    cases b
    ·simp[head76b,c76b1,zeroL,landRes]
    have hw32:IntKind.i64.wrap (l.time+32)=l.time+32:=i64w (by omega) (by omega)
    rcases Zdz p.hold l.grants 0 with ⟨h1,h2,h3⟩|⟨j,g,h1,h2,h3,h4⟩
    ·rw[h1,h2]
     have g1:(l.grants.length+1)*64<=140737488355328:=by omega
     have g2:l.grants.length+1<=140737488355328:=by omega
     have g3:l.grants.length+1<=1000000000:=by omega
     have g4:l.grants.length*64<=140737488355328:=by omega
     have g5:l.grants.length<=140737488355328:=by omega
     by_cases h40':40<=l.grants.length
     ·have hl40:lives40 l.time l.grants=l.grants.filter fun g=>decide (l.time<g.til):=by unfold lives40;rw[if_pos h40']
      rw[hl40]
      have hgt:(40:Int)<l.grants.length+1:=by omega
      simp[head76b,c76b1,zeroL,hw32,takeRows,Zm6,g1,g2,g4,g5,hgt]
      obtain⟨gs,hgs⟩:∃ gs,gs=l.grants++[newGrant l.time p]:=⟨_,rfl⟩
      have hgl:gs.length=l.grants.length+1:=by rw[hgs];simp
      refine (Zab gs (fun i (acc:List Grant)=>head76c l p gs i acc) (fun i acc=>acc=(gs.take i).filter fun g=>decide (l.time<g.til)) (fun _ _ _=>_) (fun acc Y2 hacc=>?_) (fun i g r acc Y2 hg hi hr hacc hY2=>?_) [] ?_ ?_ ?_).trans rfl
      ·have hnew:decide (l.time<(newGrant l.time p).til)=true:=by
        have e:(newGrant l.time p).til=l.time+32:=rfl
        rw[e,decide_eq_true_eq]
        omega
       rw[List.take_length,hgs,List.filter_append,List.filter_cons_of_pos (by simpa using hnew),List.filter_nil]at hacc
       have hne:acc≠[]:=by rw[hacc];simp
       have hal:acc.length=(l.grants.filter fun g=>decide (l.time<g.til)).length+1:=by rw[hacc];simp
       have hfl:=List.length_filter_le (fun g=>decide (l.time<g.til)) l.grants
       by_cases hfull:40<=(l.grants.filter fun g=>decide (l.time<g.til)).length
       ·have hgt2:(40:Int)<acc.length:=by omega
        simp[head76c,hne,c76b2,zeroL,hgt2,hgl,landRes,hfull]
       ·have hgt2:¬ (40:Int)<acc.length:=by omega
        have hsort:=Zbr Grant.c Grant.k 0 (fun _=>rfl) (Zbf Grant.k (x:=newGrant l.time p) (l:=l.grants.filter fun g=>decide (l.time<g.til)) (fun y hy=>h3 y ((List.mem_filter.1 hy).1))) (Zap Grant.k (ha.sublist (List.filter_sublist)))
        rw[<- hacc]at hsort
        obtain⟨s1,s2⟩:=hsort
        have g6:acc.length<=1000000000:=by omega
        simp[head76c,hne,c76b2,zeroL,hgt2,hgl,landRes,hfull,isRef,sortTab,s1,s2,g6]
      ·have hw1:IntKind.i64.wrap ((i:Int)+1)=(i:Int)+1:=i64w (by omega) (by omega)
       obtain⟨_,hgi⟩:=List.getElem?_eq_some_iff.1 hg
       have hiI:(i:Int)<gs.length:=by omega
       have htake:gs.take (i+1)=gs.take i++[g]:=by rw[List.take_add_one,hg];rfl
       have hal:acc.length<=i:=by rw[hacc];exact Nat.le_trans (List.length_filter_le _ _) (by simp;omega)
       have hc1:(acc.length+1)*64<=140737488355328:=by omega
       have hc2:acc.length+1<=140737488355328:=by omega
       by_cases hti:l.time<g.til
       ·have hinv2:acc++[g]=(gs.take (i+1)).filter fun g=>decide (l.time<g.til):=by rw[htake,List.filter_append,<- hacc];simp[hti]
        by_cases hne:acc=[]
        ·subst hne
         simp[head76c,c76b2,zeroL,hi,hiI,hgi,hti,takeRows,Zm6]
         refine hY2 [g] _ hinv2 ?_
         simp[head76c,zeroL,hw1]
        ·simp[head76c,hne,c76b2,zeroL,hi,hiI,hgi,hti,takeRows,Zm6,hc1,hc2]
         refine hY2 (acc++[g]) _ hinv2 ?_
         simp[head76c,zeroL,hw1]
       ·have hinv2:acc=(gs.take (i+1)).filter fun g=>decide (l.time<g.til):=by rw[htake,List.filter_append,<- hacc];simp[hti]
        by_cases hne:acc=[]
        ·rw[hne]at hinv2
         simp[head76c,hne,c76b2,zeroL,hi,hiI,hgi,hti]
         refine hY2 [] _ hinv2 ?_
         simp[head76c,zeroL,hw1]
        ·simp[head76c,hne,c76b2,zeroL,hi,hiI,hgi,hti]
         refine hY2 acc _ hinv2 ?_
         simp[head76c,hne,zeroL,hw1]
      ·simp[head76c,zeroL,hgs,newGrant,givenP]
      ·simp
      ·unfold big;omega
     ·have hl40:lives40 l.time l.grants=l.grants:=by unfold lives40;rw[if_neg h40']
      rw[hl40,if_neg h40']
      have hgt:¬ (40:Int)<l.grants.length+1:=by omega
      have hsort:=Zbr Grant.c Grant.k 0 (fun _=>rfl) (Zbf Grant.k (x:=newGrant l.time p) (l:=l.grants) h3) (Zap Grant.k ha)
      simp only[List.map_append,List.map_cons,List.map_nil,Grant.c,newGrant]at hsort
      obtain⟨s1,s2⟩:=hsort
      simp[head76b,c76b1,zeroL,hw32,takeRows,Zm6,g1,g2,g3,g4,g5,hgt,isRef,sortTab,s1,s2,landRes,givenP,newGrant]
    ·rw[h3,h4]
     simp only[Nat.zero_add]
     obtain⟨hj,hgj⟩:=List.getElem?_eq_some_iff.1 h1
     have hjI:(j:Int)<l.grants.length:=by omega
     have hset:=Zcg (x:=newGrant l.time p) Grant.k ha h1 (by unfold Grant.k;rw[h2];rfl)
     rw[hset]
     by_cases e1:l.time<g.til
     ·cases u1:sEq g.berth p.berth
      ·simp[head76b,c76b1,zeroL,landRes,hj,hgj,hjI,hw32,e1,u1,blocks]
      cases u2:sEq g.copy p.copy
      ·simp[head76b,c76b1,zeroL,landRes,hj,hgj,hjI,hw32,e1,u1,u2,blocks]
      by_cases u3:g.at_<=p.at_
      ·simp[head76b,c76b1,zeroL,landRes,hj,hgj,hjI,hw32,e1,u1,u2,u3,blocks,givenP,newGrant,List.map_set]
      ·simp[head76b,c76b1,zeroL,landRes,hj,hgj,hjI,hw32,e1,u1,u2,u3,blocks]
     ·simp[head76b,c76b1,zeroL,landRes,hj,hgj,hjI,hw32,e1,blocks,givenP,newGrant,List.map_set]
   ·have hw1:IntKind.i64.wrap ((i:Int)+1)=(i:Int)+1:=i64w (by omega) (by omega)
    obtain⟨_,hgi⟩:=List.getElem?_eq_some_iff.1 hq
    have hiI:(i:Int)<l.places.length:=by omega
    have hd:l.places.drop i=q::l.places.drop (i+1):=by rw[List.drop_eq_getElem_cons hi,hgi]
    rw[hd,wantsLast]at hinv
    have hwo:=Zfm hv q (List.mem_of_getElem? hq)
    have w182:=law182 q.wants p.copy (by have:=(Zas _).1 hwo;unfold big;omega)
    cases x1:sEq q.berth p.berth
    ·rw[x1]at hinv
     simp[head76b,c76b1,zeroL,hi,hiI,hgi,x1]
     refine hY b _ hinv ?_
     simp[head76b,zeroL,hw1]
    ·rw[x1]at hinv
     simp only[if_true]at hinv
     unfold hasHold at hinv
     cases x2:findW q.wants p.copy with
     | none =>
      rw[x2]at w182 hinv
      simp[Want.zero]at w182
      simp[head76b,c76b1,zeroL,hi,hiI,hgi,x1,w182]
      refine hY false _ hinv ?_
      simp[head76b,zeroL,hw1]
     | some w =>
      rw[x2]at w182 hinv
      simp at w182
      simp[head76b,c76b1,zeroL,hi,hiI,hgi,x1,w182]
      refine hY (sEq w.hold p.hold) _ hinv ?_
      simp[head76b,zeroL,hw1]
   ·simp[head76b,zeroL,k2]
   ·rw[List.drop_zero]
    exact Zea hpa fun q hq=>((Zas _).1 (Zfm hv q hq)).2.2.1
   ·unfold big;omega
  ·have k2:¬ p.kind=2:=by omega
   unfold takeRes
   rw[if_neg k2]
   rcases Zdz p.hold l.grants 0 with ⟨h1,h2,h3⟩|⟨j,g,h1,h2,h3,h4⟩
   ·rw[h1]
    simp[head76a,c76b0,tl76,zeroL,k4,landBack,h2,gotBack,landRes]
   ·rw[h3]
    simp only[Nat.zero_add]
    obtain⟨hj,hgj⟩:=List.getElem?_eq_some_iff.1 h1
    have hjI:(j:Int)<l.grants.length:=by omega
    cases x1:sEq g.berth p.berth
    ·simp[head76a,c76b0,tl76,zeroL,k4,landBack,h4,gotBack,hj,hgj,hjI,x1,landRes]
    by_cases x2:g.at_<=p.at_
    ·have f3:(j+(l.grants.length-(j+1)))*64<=140737488355328:=by omega
     have f4:j+(l.grants.length-(j+1))<=140737488355328:=by omega
     have hmin:min j l.grants.length=j:=Nat.min_eq_left (by omega)
     have hjle:j<=l.grants.length:=by omega
     have hjleI:(j:Int)<=l.grants.length:=by omega
     have hj1:j+1<=l.grants.length:=by omega
     have hj1I:(j:Int)+1<=l.grants.length:=by omega
     have hw1:IntKind.i64.wrap ((j:Int)+1)=(j:Int)+1:=i64w (by omega) (by omega)
     have h0I:(0:Int)<=(j:Int)+1:=by omega
     have t3:((l.grants.map Grant.c).drop (j+1)).take (l.grants.length-(j+1))=(l.grants.map Grant.c).drop (j+1):=List.take_of_length_le (by simp)
     have he:=Zkp ha h1 h2
     simp[head76a,c76b0,tl76,zeroL,k4,landBack,h4,takeRows,gotBack,hj,hgj,hjI,x1,x2,Zvs,Zh1,Zhy,slBounds,f3,f4,hmin,hjle,hjleI,hj1,hj1I,hw1,t3,h0I,he,landRes]
    ·simp[head76a,c76b0,tl76,zeroL,k4,landBack,h4,gotBack,hj,hgj,hjI,x1,x2,landRes]
 ·have hw1:IntKind.i64.wrap ((i:Int)+1)=(i:Int)+1:=i64w (by omega) (by omega)
  obtain⟨_,hgi⟩:=List.getElem?_eq_some_iff.1 hg
  have hiI:(i:Int)<l.grants.length:=by omega
  have hd:l.grants.drop i=g::l.grants.drop (i+1):=by rw[List.drop_eq_getElem_cons hi,hgi]
  rw[hd,lastG]at hinv
  cases q:sEq g.hold p.hold
  ·rw[q]at hinv
   simp[head76a,c76b0,zeroL,hi,hiI,hgi,q]
   refine hY a _ hinv ?_
   simp[head76a,zeroL,hw1]
  ·rw[q]at hinv
   simp[head76a,c76b0,zeroL,hi,hiI,hgi,q]
   refine hY i _ hinv ?_
   simp[head76a,zeroL,hw1]
 ·unfold big;omega
theorem law76(l:Land)(m:Md)(p:Parcel)(hl:l.small):F 76 [.agg (l.c .bor m),.agg (p.c .bor)] []=some (.tup [.agg ((landTake l p).1.c .own .own),.sl .own 7 ((landTake l p).2.map (Parcel.c .own))],[]):=by
 refine Zah fn76 rfl ?_
 have w1:=law23 l m hl
 have w2:=law122 l m hl
 simp only[Land.c]at w1 w2
 unfold landTake
 cases q1:landOk l
 ·simp[c76_cut,w1,q1,Land.zero]
 rw[q1]at w1
 cases q2:takeOk p
 ·unfold takeOk at q2
  by_cases k2:p.kind=2
  ·cases u1:isName p.berth
   ·simp[c76_cut,w1,w2,k2,u1]
   cases u2:isHold p.hold
   ·simp[c76_cut,w1,w2,k2,u1,u2]
   cases u3:isName p.copy
   ·simp[c76_cut,w1,w2,k2,u1,u2,u3]
   cases u4:inR p.at_ 0 1000000
   ·simp[c76_cut,w1,w2,k2,u1,u2,u3,u4]
   rw[u1,u2,u3,u4]at q2
   cases q2
  by_cases k4:p.kind=4
  ·cases u1:isName p.berth
   ·simp[c76_cut,w1,w2,k4,u1]
   cases u2:isHold p.hold
   ·simp[c76_cut,w1,w2,k4,u1,u2]
   cases u3:isName p.copy
   ·simp[c76_cut,w1,w2,k4,u1,u2,u3]
   cases u4:inR p.at_ 0 1000000
   ·simp[c76_cut,w1,w2,k4,u1,u2,u3,u4]
   rw[u1,u2,u3,u4]at q2
   cases q2
  ·simp[c76_cut,w1,w2,k2,k4]
 unfold takeOk at q2
 simp only[Bool.and_eq_true]at q2
 obtain⟨u1,u2,u3,u4⟩:=q2
 by_cases k2:p.kind=2
 ·simp[c76_cut,w1,w2,u1,u2,u3,u4,k2]
  refine (Zti l p q1 (.inl k2) _ ?_).trans ?_
  ·simp[head76a,zeroL,k2]
  ·rw[takeRes,if_pos k2]
   rfl
 ·by_cases k4:p.kind=4
  ·simp[c76_cut,w1,w2,u1,u2,u3,u4,k4]
   refine (Zti l p q1 (.inr k4) _ ?_).trans ?_
   ·simp[head76a,zeroL,k4]
   ·simp[landRes,takeRes,k4]
  ·simp[c76_cut,w1,w2,k2,k4]
def kn206b:CCode:=(.region [
   ⟨some 174,.load (.tmp 7) 1 false .plain,none⟩,
   ⟨some 175,.faddr (.tmp 2) 6,none⟩,
   ⟨none,.store (.tmp 175) (.tmp 174) 1,none⟩] [2,4,6])
def fin206:CCode:=(.seq (.region [
  ⟨some 328,.mov (.tmp 6),none⟩,
  ⟨some 329,.faddr (.tmp 2) 0,none⟩,
  ⟨some 330,.load (.tmp 329) 1 false .plain,none⟩,
  ⟨some 331,.faddr (.tmp 2) 4,none⟩,
  ⟨some 332,.load (.tmp 331) 1 false .plain,none⟩,
  ⟨some 333,.build [.int .i64 0,.str ⟨#[]⟩,.int .i64 0,.sl .own 7 [],.str ⟨#[]⟩,.str ⟨#[]⟩,.int .i64 0] [(0,1,.const (.int .i64 6)),(1,1,.tmp 330),(2,1,.tmp 332)],none⟩,
  ⟨some 334,.bslice 7 [.int .i64 0,.str ⟨#[]⟩,.int .i64 0,.sl .own 7 [],.str ⟨#[]⟩,.str ⟨#[]⟩,.int .i64 0] 1 [(0,.tmp 333)],none⟩,
  ⟨some 335,.append 7 96 false (.tmp 328) (.tmp 334),none⟩,
  ⟨some 6,.mov (.tmp 335),none⟩] [2,4,6])
 (.seq (.region [
  ⟨some 336,.load (.tmp 2) 9 true .plain,none⟩,
  ⟨some 337,.mov (.tmp 6),none⟩,
  ⟨none,.store (.tmp 4) (.tmp 336) 9,none⟩,
  ⟨some 5,.mov (.tmp 337),none⟩] [4,5])
 .ret))
def tb206:CCode:=.seq (.seq (.region [
  ⟨some 308,.faddr (.tmp 2) 8,none⟩,
  ⟨some 309,.load (.tmp 308) 1 false .plain,none⟩,
  ⟨some 310,.len false (.tmp 309),none⟩,
  ⟨some 311,.mov (.const (.int .i64 0)),none⟩] [2,4,6,309,310,311])
 (.block 9
  (.loop [2,4,6,309,310,311] c206b4))) fin206
def ta206:CCode:=.seq (.seq (.region [
  ⟨some 176,.faddr (.tmp 2) 6,none⟩,
  ⟨some 177,.load (.tmp 176) 1 false .plain,none⟩,
  ⟨some 178,.len false (.tmp 177),none⟩,
  ⟨some 179,.mov (.const (.int .i64 0)),none⟩] [2,4,6,177,178,179])
 (.block 6
  (.loop [2,4,6,177,178,179] c206b3))) tb206
def kn206:CCode:=(.seq (.seq (.region [
   ⟨some 132,.faddr (.tmp 2) 5,none⟩,
   ⟨some 133,.load (.tmp 132) 1 false .plain,none⟩,
   ⟨some 134,.len false (.tmp 133),none⟩,
   ⟨some 135,.mov (.const (.int .i64 0)),none⟩] [2,4,6,7,133,134,135])
  (.block 2
   (.loop [2,4,6,7,133,134,135] c206b2)))
  (.region [
   ⟨some 174,.load (.tmp 7) 1 false .plain,none⟩,
   ⟨some 175,.faddr (.tmp 2) 6,none⟩,
   ⟨none,.store (.tmp 175) (.tmp 174) 1,none⟩] [2,4,6]))
theorem c206_cut:c206=⟨338,[.cell 4 9 true,.tmp 5],
 (.seq (.region [
  ⟨some 2,.box (.tmp 0),none⟩,
  ⟨some 4,.alloc [.str ⟨#[]⟩,.bool false,.int .i64 0,.bool false,.int .i64 0,.sl .own 7 [],.sl .own 11 [],.sl .own 4 [],.sl .own 4 []],none⟩,
  ⟨some 5,.mov (.const (.sl .own 7 [])),none⟩] [1,2,4])
 (.seq (.seq (.region [
  ⟨some 29,.load (.tmp 2) 9 true .plain,none⟩,
  ⟨some 30,.call 28 [false] [.tmp 29],none⟩,
  ⟨some 31,.un .not (.tmp 30),none⟩] [1,2,4,31])
 (.cond (.tmp 31)
  (.seq (.region [
   ⟨some 32,.build [.str ⟨#[]⟩,.bool false,.int .i64 0,.bool false,.int .i64 0,.sl .own 7 [],.sl .own 11 [],.sl .own 4 [],.sl .own 4 []] [],none⟩,
   ⟨none,.store (.tmp 4) (.tmp 32) 9,none⟩,
   ⟨some 5,.mov (.const (.sl .own 7 [])),none⟩] [4,5])
  .ret)
  .skip))
 (.seq (.region [
  ⟨some 33,.load (.tmp 2) 9 true .plain,none⟩,
  ⟨some 34,.call 117 [false] [.tmp 33],none⟩,
  ⟨none,.store (.tmp 2) (.tmp 34) 9,none⟩] [1,2,4])
 (.seq (.seq (.region [
  ⟨some 35,.mov (.tmp 1),none⟩,
  ⟨some 36,.bin .lss (.tmp 35) (.const (.int .i64 1)),none⟩,
  ⟨some 37,.mov (.tmp 36),none⟩,
  ⟨some 38,.mov (.tmp 1),some (37,false)⟩,
  ⟨some 39,.bin .gtr (.tmp 38) (.const (.int .i64 4)),some (37,false)⟩,
  ⟨some 40,.pick (.tmp 37) (.const (.bool true)) (.tmp 39),none⟩] [1,2,4,40])
 (.cond (.tmp 40)
  (.seq (.region [
   ⟨some 41,.load (.tmp 2) 9 true .plain,none⟩,
   ⟨none,.store (.tmp 4) (.tmp 41) 9,none⟩,
   ⟨some 5,.mov (.const (.sl .own 7 [])),none⟩] [4,5])
  .ret)
  .skip))
 (.seq (.seq (.region [
  ⟨some 42,.faddr (.tmp 2) 2,none⟩,
  ⟨some 43,.load (.tmp 42) 1 false .plain,none⟩,
  ⟨some 44,.mov (.tmp 1),none⟩,
  ⟨some 45,.bin .add (.tmp 43) (.tmp 44),none⟩,
  ⟨some 46,.bin .gtr (.tmp 45) (.const (.int .i64 1000000)),none⟩] [1,2,4,46])
 (.cond (.tmp 46)
  (.seq (.region [
   ⟨some 47,.load (.tmp 2) 9 true .plain,none⟩,
   ⟨some 48,.call 36 [false,false] [.tmp 47,.const (.bool true)],none⟩,
   ⟨none,.store (.tmp 2) (.tmp 48) 9,none⟩] [2,4])
  (.seq (.region [
   ⟨some 49,.faddr (.tmp 2) 2,none⟩,
   ⟨none,.store (.tmp 49) (.const (.int .i64 1000000)) 1,none⟩] [2,4])
  (.seq (.region [
   ⟨some 50,.load (.tmp 2) 9 true .plain,none⟩,
   ⟨none,.store (.tmp 4) (.tmp 50) 9,none⟩,
   ⟨some 5,.mov (.const (.sl .own 7 [])),none⟩] [4,5])
  .ret)))
  .skip))
 (.seq (.region [
  ⟨some 51,.faddr (.tmp 2) 2,none⟩,
  ⟨some 52,.load (.tmp 51) 1 false .plain,none⟩,
  ⟨some 53,.mov (.tmp 1),none⟩,
  ⟨some 54,.bin .add (.tmp 52) (.tmp 53),none⟩,
  ⟨some 55,.faddr (.tmp 2) 2,none⟩,
  ⟨none,.store (.tmp 55) (.tmp 54) 1,none⟩] [2,4])
 (.seq (.region [
  ⟨some 56,.faddr (.tmp 2) 6,none⟩,
  ⟨some 57,.load (.tmp 56) 1 false .plain,none⟩,
  ⟨some 58,.faddr (.tmp 2) 2,none⟩,
  ⟨some 59,.load (.tmp 58) 1 false .plain,none⟩,
  ⟨some 60,.call 18 [false,false] [.tmp 57,.tmp 59],none⟩,
  ⟨some 61,.faddr (.tmp 2) 6,none⟩,
  ⟨none,.store (.tmp 61) (.tmp 60) 1,none⟩] [2,4])
 (.seq (.seq (.region [
  ⟨some 62,.faddr (.tmp 2) 1,none⟩,
  ⟨some 63,.load (.tmp 62) 1 false .plain,none⟩,
  ⟨some 64,.un .not (.tmp 63),none⟩] [2,4,64])
 (.cond (.tmp 64)
  (.seq (.region [
   ⟨some 65,.load (.tmp 2) 9 true .plain,none⟩,
   ⟨none,.store (.tmp 4) (.tmp 65) 9,none⟩,
   ⟨some 5,.mov (.const (.sl .own 7 [])),none⟩] [4,5])
  .ret)
  .skip))
 (.seq (.region [
  ⟨some 6,.mov (.const (.sl .own 7 [])),none⟩] [2,4,6])
 (.seq (.seq (.region [
  ⟨some 66,.faddr (.tmp 2) 3,none⟩,
  ⟨some 67,.load (.tmp 66) 1 false .plain,none⟩] [2,4,6,67])
 (.cond (.tmp 67)
  (.seq (.region [
   ⟨some 7,.alloc [.sl .own 11 []],none⟩] [2,4,6,7])
  (.seq (.seq (.region [
   ⟨some 68,.faddr (.tmp 2) 6,none⟩,
   ⟨some 69,.load (.tmp 68) 1 false .plain,none⟩,
   ⟨some 70,.len false (.tmp 69),none⟩,
   ⟨some 71,.mov (.const (.int .i64 0)),none⟩] [2,4,6,7,69,70,71])
  (.block 0
   (.loop [2,4,6,7,69,70,71] c206b0)))
  (.seq (.seq (.region [
   ⟨some 132,.faddr (.tmp 2) 5,none⟩,
   ⟨some 133,.load (.tmp 132) 1 false .plain,none⟩,
   ⟨some 134,.len false (.tmp 133),none⟩,
   ⟨some 135,.mov (.const (.int .i64 0)),none⟩] [2,4,6,7,133,134,135])
  (.block 2
   (.loop [2,4,6,7,133,134,135] c206b2)))
  (.region [
   ⟨some 174,.load (.tmp 7) 1 false .plain,none⟩,
   ⟨some 175,.faddr (.tmp 2) 6,none⟩,
   ⟨none,.store (.tmp 175) (.tmp 174) 1,none⟩] [2,4,6]))))
  .skip)) ta206))))))))))⟩:=rfl
def oN(o:Bool):Nat:=if o then 1 else 0
def outV(o:Bool):AV:=if o then .ref 2 else .sl .own 7 []
def outH(o:Bool)(out:List Parcel):List AO:=if o then [.arr 7 (out.map (Parcel.c .own))] else []
def runV(n:Nat)(f:Bool):AV:=if f then .ref n else .sl .own 11 []
def runH(f:Bool)(rs:List Run):List AO:=if f then [.arr 11 (rs.map Run.c)] else []
def head206d(m:Mate)(f o:Bool)(out:List Parcel)(i:Nat):St :=
 hd [(2,.ptr 0 0 0),(4,.ptr 1 0 0),(6,outV o),(309,.ref (2+oN o)),(310,.int .i64 m.gives.length),(311,.int .i64 i)]
  ([.box [.str m.name,.bool m.up,.int .i64 m.clock,.bool m.known,.int .i64 m.seen,.ref (3+oN o),runV (4+oN o) f,.ref (4+oN o+oN f),.ref (2+oN o)],.box zeroM]++(outH o out++([.arr 4 (m.gives.map Ask.c),.arr 7 (m.wants.map Want.c)]++(runH f m.runs++[.arr 4 (m.asks.map Ask.c)])))) 0
def resT(m:Mate)(out:List Parcel):AV×List (Option AO):=(.tup [.agg (m.c .own),.sl .own 7 (out.map (Parcel.c .own))],[])
theorem Zu8(m:Mate)(f:Bool)(hf:f=false->m.runs=[])(o:Bool)(out:List Parcel)(ho:o=false->out=[])(hol:out.length<=1000)(hg:m.gives.length<=1000)(s:St)(hs:s.norm [2,4,6,309,310,311]=head206d m f o out 0) :
  fin [.cell 4 9 true,.tmp 5] 0 (X F [.code (.loop [2,4,6,309,310,311] c206b4),.blk 9,.code fin206] (.normal,s))=some (resT m (out++m.gives.map (backP m.name)++[hereP m])):=by
 obtain⟨R,hR⟩:∃ R,R=resT m (out++m.gives.map (backP m.name)++[hereP m]):=⟨_,rfl⟩
 rw[<- hR]
 refine (Zab m.gives (fun i (z:Bool×List Parcel)=>head206d m f z.1 z.2 i) (fun i z=>z.2=out++(m.gives.take i).map (backP m.name)/\(z.1=false->z.2=[])) (fun _ _ _=>_) (fun z Y hz=>?_) (fun i a r z Y ha hi hr hz hY=>?_) (o,out) hs ⟨by simp,ho⟩ ?_).trans rfl
 ·obtain⟨o,acc⟩:=z
  obtain⟨hacc,ho⟩:=hz
  simp only at hacc ho ⊢
  rw[List.take_length]at hacc
  rw[<- hacc]at hR
  have hal:acc.length<=2000:=by rw[hacc];simp;omega
  have c1:(acc.length+1)*96<=140737488355328:=by omega
  have c2:acc.length+1<=140737488355328:=by omega
  cases o
  ·have e:=ho rfl
   subst e
   cases f
   ·have e2:=hf rfl
    simp[head206d,outV,outH,runV,runH,oN,c206b4,fin206,zeroM,takeRows,hR,resT,hereP,e2]
   ·simp[head206d,outV,outH,runV,runH,oN,c206b4,fin206,zeroM,takeRows,hR,resT,hereP]
  ·cases f
   ·have e2:=hf rfl
    simp[head206d,outV,outH,runV,runH,oN,c206b4,fin206,zeroM,takeRows,hR,resT,hereP,c1,c2,e2]
   ·simp[head206d,outV,outH,runV,runH,oN,c206b4,fin206,zeroM,takeRows,hR,resT,hereP,c1,c2]
 ·obtain⟨o,acc⟩:=z
  obtain⟨hacc,ho⟩:=hz
  simp only at hacc ho ⊢
  have hw:IntKind.i64.wrap ((i:Int)+1)=(i:Int)+1:=i64w (by omega) (by omega)
  obtain⟨_,hga⟩:=List.getElem?_eq_some_iff.1 ha
  have hiI:(i:Int)<m.gives.length:=by omega
  have hal:acc.length<=2000:=by rw[hacc];simp;omega
  have c1:(acc.length+1)*96<=140737488355328:=by omega
  have c2:acc.length+1<=140737488355328:=by omega
  have hnx:acc++[backP m.name a]=out++(m.gives.take (i+1)).map (backP m.name):=by
   rw[hacc,List.take_add_one,ha]
   simp
  cases o
  ·have e:=ho rfl
   cases f<;>simp[head206d,outV,outH,runV,runH,oN,c206b4,hi,hiI,hga,takeRows]<;>refine hY (true,acc++[backP m.name a]) _ ⟨hnx,fun h=>nomatch h⟩ ?_<;>simp[head206d,outV,outH,runV,runH,oN,zeroM,hw,backP,e]
  ·cases f<;>simp[head206d,outV,outH,runV,runH,oN,c206b4,hi,hiI,hga,takeRows,c1,c2]<;>refine hY (true,acc++[backP m.name a]) _ ⟨hnx,fun h=>nomatch h⟩ ?_<;>simp[head206d,outV,outH,runV,runH,oN,zeroM,hw,backP]
 ·unfold big;omega
def head206c(m:Mate)(f o:Bool)(out:List Parcel)(i:Nat):St :=
 hd [(2,.ptr 0 0 0),(4,.ptr 1 0 0),(6,outV o),(177,runV (2+oN o) f),(178,.int .i64 m.runs.length),(179,.int .i64 i)]
  ([.box [.str m.name,.bool m.up,.int .i64 m.clock,.bool m.known,.int .i64 m.seen,.ref (2+oN o+oN f),runV (2+oN o) f,.ref (3+oN o+oN f),.ref (4+oN o+oN f)],.box zeroM]++(outH o out++(runH f m.runs++[.arr 7 (m.wants.map Want.c),.arr 4 (m.asks.map Ask.c),.arr 4 (m.gives.map Ask.c)]))) 0
theorem Zlj{l:List Ask}(h:Asc Ask.k l){k:Nat}(hk:k<l.length):dropHold l l[k].hold=dropAt l k:=by
 have e:l=l.take k++l[k]::l.drop (k+1):=by rw[<- List.drop_eq_getElem_cons hk,List.take_append_drop]
 generalize hx:l[k]=x at e
 rw[e]at h
 obtain⟨_,h2,h3⟩:=List.pairwise_append.1 h
 rw[List.pairwise_cons]at h2
 unfold dropHold dropAt
 have f1:(l.take k).filter (fun a=>!sEq a.hold x.hold)=l.take k:=by
  rw[List.filter_eq_self]
  intro a ha
  rw[Zad (show a.hold≠x.hold from Zkd (h3 a ha x List.mem_cons_self))];rfl
 have f2:(l.drop (k+1)).filter (fun a=>!sEq a.hold x.hold)=l.drop (k+1):=by
  rw[List.filter_eq_self]
  intro a ha
  rw[Zad (show a.hold≠x.hold from Ne.symm (Zkd (h2.1 a ha)))];rfl
 calc l.filter (fun a=>!sEq a.hold x.hold)=(l.take k++x::l.drop (k+1)).filter (fun a=>!sEq a.hold x.hold):=by rw[<- e]
  _=_:=by rw[List.filter_append,List.filter_cons,f1,f2];simp
theorem Zll{h:T}{l:List Ask}(e:askOf h l=none):Lacks Ask.k h l:=fun y hy k=>by
 unfold askOf at e
 exact List.find?_eq_none.1 e y hy ((Zac _ _).2 k)
set_option maxHeartbeats 0 in
theorem Zl0(m:Mate)(f:Bool)(hf:f=false->m.runs=[])(hwl:m.wants.length<=1000)(hr:m.runs.length<=20)(hal:m.asks.length<=20)(hasc:Asc Ask.k m.asks)(hgl:m.gives.length<=100)(s:St)(hs:s.norm [2,4,6,177,178,179]=head206c m f false [] 0) :
  fin [.cell 4 9 true,.tmp 5] 0 (X F [.code (.loop [2,4,6,177,178,179] c206b3),.blk 6,.code tb206] (.normal,s))=some (resT (mAsks m) (tickOut m)):=by
 obtain⟨R,hR⟩:∃ R,R=resT (mAsks m) (tickOut m):=⟨_,rfl⟩
 rw[<- hR]
 refine (Zay (σ:=Nat×Bool×List Ask×List Parcel) (fun z=>head206c { m with asks:=z.2.2.1 } f z.2.1 z.2.2.2 z.1) (fun z=>z.1<=m.runs.length/\z.2.2=(m.runs.take z.1).foldl (askStep m) (m.asks,[])/\(z.2.1=false->z.2.2.2=[])/\z.2.2.1.length<=20+z.1/\z.2.2.2.length<=z.1/\Asc Ask.k z.2.2.1) (fun z=>m.runs.length-z.1) (fun _=>_) (fun z Y hinv hY=>?_) (0,false,m.asks,[]) hs ⟨by omega,rfl,fun _=>rfl,by simp only;omega,by simp,hasc⟩ (by unfold big;simp only;omega)).trans rfl
 obtain⟨i,o,as',out⟩:=z
 obtain⟨g1,g2,g3,g4,g5,g6⟩:=hinv
 simp only at g1 g2 g3 g4 g5 g6 hY ⊢
 by_cases hi:i<m.runs.length
 ·cases f
  ·rw[hf rfl]at hi;simp at hi
  have hiI:(i:Int)<m.runs.length:=by omega
  have hw:IntKind.i64.wrap ((i:Int)+1)=(i:Int)+1:=i64w (by omega) (by omega)
  obtain⟨r,hgr⟩:∃ r,m.runs[i]=r:=⟨_,rfl⟩
  have hri:m.runs[i]?=some r:=by rw[<- hgr];exact List.getElem?_eq_getElem hi
  have htk:m.runs.take (i+1)=m.runs.take i++[r]:=by rw[List.take_add_one,hri];rfl
  have hnx:(m.runs.take (i+1)).foldl (askStep m) (m.asks,[])=askStep m (as',out) r:=by rw[htk,List.foldl_append,<- g2];rfl
  have w182:=law182 m.wants r.want.copy (by unfold big;omega)
  have hc1:(out.length+1)*96<=140737488355328:=by omega
  have hc2:out.length+1<=140737488355328:=by omega
  have hah:asksHold m.wants m.gives r=((match findW m.wants r.want.copy with
   | some w=>eqWant w r.want
   | none=>false) && (!sEq r.want.hold ⟨#[]⟩ && (askOf r.want.hold m.gives).isNone)):=rfl
  have hno:asksHold m.wants m.gives r=false->askStep m (as',out) r=(as',out):=fun h=>by unfold askStep;rw[h];rfl
  cases q:sEq r.want.hold ⟨#[]⟩
  ·cases hfw:findW m.wants r.want.copy with
   | none =>
    rw[hfw]at w182 hah
    have hst:=hno (by rw[hah];rfl)
    simp[Want.zero]at w182
    cases o
    ·obtain rfl:=g3 rfl
     simp[head206c,outV,outH,runV,runH,oN,c206b3,hi,hiI,hgr,w182,q]
     refine hY (i+1,_,_,_) _ ⟨by simp only;omega,by rw[hnx,hst],g3,Nat.le_succ_of_le g4,Nat.le_succ_of_le g5,g6⟩ (by simp only;omega) ?_
     simp[head206c,outV,outH,runV,runH,oN,zeroM,hw]
    ·skip
     simp[head206c,outV,outH,runV,runH,oN,c206b3,hi,hiI,hgr,w182,q]
     refine hY (i+1,_,_,_) _ ⟨by simp only;omega,by rw[hnx,hst],g3,Nat.le_succ_of_le g4,Nat.le_succ_of_le g5,g6⟩ (by simp only;omega) ?_
     simp[head206c,outV,outH,runV,runH,oN,zeroM,hw]
   | some w =>
    rw[hfw]at w182 hah
    simp at w182
    simp only at hah
    cases heq:eqWant w r.want
    ·rw[heq]at hah
     have hst:=hno (by rw[hah];rfl)
     cases o
     ·obtain rfl:=g3 rfl
      simp[head206c,outV,outH,runV,runH,oN,c206b3,hi,hiI,hgr,w182,q,heq]
      refine hY (i+1,_,_,_) _ ⟨by simp only;omega,by rw[hnx,hst],g3,Nat.le_succ_of_le g4,Nat.le_succ_of_le g5,g6⟩ (by simp only;omega) ?_
      simp[head206c,outV,outH,runV,runH,oN,zeroM,hw]
     ·skip
      simp[head206c,outV,outH,runV,runH,oN,c206b3,hi,hiI,hgr,w182,q,heq]
      refine hY (i+1,_,_,_) _ ⟨by simp only;omega,by rw[hnx,hst],g3,Nat.le_succ_of_le g4,Nat.le_succ_of_le g5,g6⟩ (by simp only;omega) ?_
      simp[head206c,outV,outH,runV,runH,oN,zeroM,hw]
    ·rw[heq]at hah
     obtain rfl:=(Znv _ _).1 heq
     have heqc:eqWant r.want r.want=true:=heq
     have w113g:=law113 m.gives r.want.hold (by omega)
     rcases Zjl m.gives r.want.hold with ⟨e,hgo⟩|⟨k,hkl,e,hgo,_⟩
     ·rw[e]at w113g
      have hyes:asksHold m.wants m.gives r=true:=by rw[hah,q,hgo];rfl
      have hyst:askStep m (as',out) r=match freshAsk m.clock r as' with
       | some a=>(putBy Ask.k a as',out++[asked m.name m.clock r])
       | none=>(as',out):=by unfold askStep;rw[hyes];rfl
      have w113a:=law113 as' r.want.hold (by omega)
      rcases Zjl as' r.want.hold with ⟨e2,hao⟩|⟨k,hkl,e2,hao,hkh⟩
      ·rw[e2]at w113a
       have hfr:freshAsk m.clock r as'=some ⟨r.want.hold,r.want.copy,m.clock,m.clock⟩:=by unfold freshAsk;rw[hao]
       have hst:=hyst
       rw[hfr]at hst
       simp only at hst
       have w219:=law219 as' ⟨r.want.hold,r.want.copy,m.clock,m.clock⟩ (by omega) g6 (Zll hao)
       have hpl:=Zax Ask.k ⟨r.want.hold,r.want.copy,m.clock,m.clock⟩ as'
       have hlt:¬ (40:Int)<=as'.length:=by omega
       have hput:True:=trivial
       simp only[Ask.c]at w219
       cases o
       ·obtain rfl:=g3 rfl
        simp[head206c,outV,outH,runV,runH,oN,c206b3,hi,hiI,hgr,w182,heqc,q,w113g,w113a,hlt,w219,AO.isArr,takeRows,hc1,hc2]
        refine hY (i+1,true,putBy Ask.k ⟨r.want.hold,r.want.copy,m.clock,m.clock⟩ as',_++[asked m.name m.clock r]) _ ⟨by simp only;omega,by rw[hnx,hst],fun h=>(nomatch h),Nat.le_trans hpl (Nat.succ_le_succ g4),by simp<;>omega,Zap Ask.k g6⟩ (by simp only;omega) ?_
        simp[head206c,outV,outH,runV,runH,oN,zeroM,hw,asked,hput]
       ·skip
        simp[head206c,outV,outH,runV,runH,oN,c206b3,hi,hiI,hgr,w182,heqc,q,w113g,w113a,hlt,w219,AO.isArr,takeRows,hc1,hc2]
        refine hY (i+1,true,putBy Ask.k ⟨r.want.hold,r.want.copy,m.clock,m.clock⟩ as',_++[asked m.name m.clock r]) _ ⟨by simp only;omega,by rw[hnx,hst],fun h=>(nomatch h),Nat.le_trans hpl (Nat.succ_le_succ g4),by simp<;>omega,Zap Ask.k g6⟩ (by simp only;omega) ?_
        simp[head206c,outV,outH,runV,runH,oN,zeroM,hw,asked,hput]
      ·rw[e2]at w113a
       obtain⟨a,hak⟩:∃ a,as'[k]=a:=⟨_,rfl⟩
       rw[hak]at hao hkh
       have h0k:¬ (k:Int)<0:=by omega
       have hki:as'[k]?=some a:=by rw[<- hak];exact List.getElem?_eq_getElem hkl
       cases q2:sEq a.copy r.want.copy
       ·have hfr:freshAsk m.clock r as'=some ⟨r.want.hold,r.want.copy,m.clock,m.clock⟩:=by unfold freshAsk;rw[hao];simp only[q2];rfl
        have hst:=hyst
        rw[hfr]at hst
        simp only at hst
        have hpl:=Zax Ask.k ⟨r.want.hold,r.want.copy,m.clock,m.clock⟩ as'
        have hput:putBy Ask.k ⟨r.want.hold,r.want.copy,m.clock,m.clock⟩ as'=as'.set k ⟨r.want.hold,r.want.copy,m.clock,m.clock⟩:=Zcg Ask.k g6 hki hkh
        cases o
        ·obtain rfl:=g3 rfl
         simp[head206c,outV,outH,runV,runH,oN,c206b3,hi,hiI,hgr,w182,heqc,q,w113g,w113a,hkl,hak,q2,h0k,takeRows,hc1,hc2]
         refine hY (i+1,true,putBy Ask.k ⟨r.want.hold,r.want.copy,m.clock,m.clock⟩ as',_++[asked m.name m.clock r]) _ ⟨by simp only;omega,by rw[hnx,hst],fun h=>(nomatch h),Nat.le_trans hpl (Nat.succ_le_succ g4),by simp<;>omega,Zap Ask.k g6⟩ (by simp only;omega) ?_
         simp[head206c,outV,outH,runV,runH,oN,zeroM,hw,asked,hput,List.map_set]
        ·skip
         simp[head206c,outV,outH,runV,runH,oN,c206b3,hi,hiI,hgr,w182,heqc,q,w113g,w113a,hkl,hak,q2,h0k,takeRows,hc1,hc2]
         refine hY (i+1,true,putBy Ask.k ⟨r.want.hold,r.want.copy,m.clock,m.clock⟩ as',_++[asked m.name m.clock r]) _ ⟨by simp only;omega,by rw[hnx,hst],fun h=>(nomatch h),Nat.le_trans hpl (Nat.succ_le_succ g4),by simp<;>omega,Zap Ask.k g6⟩ (by simp only;omega) ?_
         simp[head206c,outV,outH,runV,runH,oN,zeroM,hw,asked,hput,List.map_set]
       ·by_cases q3:m.clock<IntKind.i64.wrap (a.at_+6)
        ·have hfr:freshAsk m.clock r as'=none:=by unfold freshAsk;rw[hao];simp only[q2,q3,if_true]
         have hst:=hyst
         rw[hfr]at hst
         simp only at hst
         cases o
         ·obtain rfl:=g3 rfl
          simp[head206c,outV,outH,runV,runH,oN,c206b3,hi,hiI,hgr,w182,heqc,q,w113g,w113a,hkl,hak,q2,q3,h0k]
          refine hY (i+1,_,_,_) _ ⟨by simp only;omega,by rw[hnx,hst],g3,Nat.le_succ_of_le g4,Nat.le_succ_of_le g5,g6⟩ (by simp only;omega) ?_
          simp[head206c,outV,outH,runV,runH,oN,zeroM,hw]
         ·skip
          simp[head206c,outV,outH,runV,runH,oN,c206b3,hi,hiI,hgr,w182,heqc,q,w113g,w113a,hkl,hak,q2,q3,h0k]
          refine hY (i+1,_,_,_) _ ⟨by simp only;omega,by rw[hnx,hst],g3,Nat.le_succ_of_le g4,Nat.le_succ_of_le g5,g6⟩ (by simp only;omega) ?_
          simp[head206c,outV,outH,runV,runH,oN,zeroM,hw]
        ·have hfr:freshAsk m.clock r as'=some ⟨r.want.hold,r.want.copy,a.first,m.clock⟩:=by unfold freshAsk;rw[hao];simp only[q2,q3,if_true,if_false]
         have hst:=hyst
         rw[hfr]at hst
         simp only at hst
         have hpl:=Zax Ask.k ⟨r.want.hold,r.want.copy,a.first,m.clock⟩ as'
         have hput:putBy Ask.k ⟨r.want.hold,r.want.copy,a.first,m.clock⟩ as'=as'.set k ⟨a.hold,a.copy,a.first,m.clock⟩:=by
          rw[Zcg (x:=⟨r.want.hold,r.want.copy,a.first,m.clock⟩) Ask.k g6 hki (show Ask.k a=r.want.hold from hkh),hkh,(Zac _ _).1 q2]
         cases o
         ·obtain rfl:=g3 rfl
          simp[head206c,outV,outH,runV,runH,oN,c206b3,hi,hiI,hgr,w182,heqc,q,w113g,w113a,hkl,hak,q2,q3,h0k,takeRows,hc1,hc2]
          refine hY (i+1,true,putBy Ask.k ⟨r.want.hold,r.want.copy,a.first,m.clock⟩ as',_++[asked m.name m.clock r]) _ ⟨by simp only;omega,by rw[hnx,hst],fun h=>(nomatch h),Nat.le_trans hpl (Nat.succ_le_succ g4),by simp<;>omega,Zap Ask.k g6⟩ (by simp only;omega) ?_
          simp[head206c,outV,outH,runV,runH,oN,zeroM,hw,asked,hput,List.map_set]
         ·skip
          simp[head206c,outV,outH,runV,runH,oN,c206b3,hi,hiI,hgr,w182,heqc,q,w113g,w113a,hkl,hak,q2,q3,h0k,takeRows,hc1,hc2]
          refine hY (i+1,true,putBy Ask.k ⟨r.want.hold,r.want.copy,a.first,m.clock⟩ as',_++[asked m.name m.clock r]) _ ⟨by simp only;omega,by rw[hnx,hst],fun h=>(nomatch h),Nat.le_trans hpl (Nat.succ_le_succ g4),by simp<;>omega,Zap Ask.k g6⟩ (by simp only;omega) ?_
          simp[head206c,outV,outH,runV,runH,oN,zeroM,hw,asked,hput,List.map_set]
     ·rw[e]at w113g
      have hst:=hno (by rw[hah,hgo];simp)
      cases o
      ·obtain rfl:=g3 rfl
       simp[head206c,outV,outH,runV,runH,oN,c206b3,hi,hiI,hgr,w182,heqc,q,w113g]
       refine hY (i+1,_,_,_) _ ⟨by simp only;omega,by rw[hnx,hst],g3,Nat.le_succ_of_le g4,Nat.le_succ_of_le g5,g6⟩ (by simp only;omega) ?_
       simp[head206c,outV,outH,runV,runH,oN,zeroM,hw]
      ·skip
       simp[head206c,outV,outH,runV,runH,oN,c206b3,hi,hiI,hgr,w182,heqc,q,w113g]
       refine hY (i+1,_,_,_) _ ⟨by simp only;omega,by rw[hnx,hst],g3,Nat.le_succ_of_le g4,Nat.le_succ_of_le g5,g6⟩ (by simp only;omega) ?_
       simp[head206c,outV,outH,runV,runH,oN,zeroM,hw]
  ·have hst:=hno (by rw[hah,q];simp)
   cases o
   ·obtain rfl:=g3 rfl
    simp[head206c,outV,outH,runV,runH,oN,c206b3,hi,hiI,hgr,w182,q]
    refine hY (i+1,_,_,_) _ ⟨by simp only;omega,by rw[hnx,hst],g3,Nat.le_succ_of_le g4,Nat.le_succ_of_le g5,g6⟩ (by simp only;omega) ?_
    simp[head206c,outV,outH,runV,runH,oN,zeroM,hw]
   ·skip
    simp[head206c,outV,outH,runV,runH,oN,c206b3,hi,hiI,hgr,w182,q]
    refine hY (i+1,_,_,_) _ ⟨by simp only;omega,by rw[hnx,hst],g3,Nat.le_succ_of_le g4,Nat.le_succ_of_le g5,g6⟩ (by simp only;omega) ?_
    simp[head206c,outV,outH,runV,runH,oN,zeroM,hw]
 ·obtain rfl:i=m.runs.length:=by omega
  rw[List.take_length]at g2
  have hlv:asksOf m=(as',out):=g2.symm
  have hma:mAsks m={ m with asks:=as' }:=by unfold mAsks;rw[hlv]
  have key:=Zu8 { m with asks:=as' } f hf o out g3 (by omega) (by simp only;omega)
  have hR2:R=resT { m with asks:=as' } (out++m.gives.map (backP m.name)++[hereP m]):=by rw[hR,hma];unfold tickOut;rw[hlv]
  simp only at key
  rw[show hereP { m with asks:=as' }=hereP m from rfl,<- hR2]at key
  cases o
  ·obtain rfl:=g3 rfl
   cases f
   ·have e2:=hf rfl
    simp[head206c,outV,outH,runV,runH,oN,c206b3,tb206,e2]
    refine key _ ?_
    simp[head206d,outV,outH,runV,runH,oN,zeroM,e2]
   ·simp[head206c,outV,outH,runV,runH,oN,c206b3,tb206]
    refine key _ ?_
    simp[head206d,outV,outH,runV,runH,oN,zeroM]
  ·cases f
   ·have e2:=hf rfl
    simp[head206c,outV,outH,runV,runH,oN,c206b3,tb206,e2]
    refine key _ ?_
    simp[head206d,outV,outH,runV,runH,oN,zeroM,e2]
   ·simp[head206c,outV,outH,runV,runH,oN,c206b3,tb206]
    refine key _ ?_
    simp[head206d,outV,outH,runV,runH,oN,zeroM]
def head206a(m:Mate)(s:LV)(i:Nat):St :=
 hd [(2,.ptr 0 0 0),(4,.ptr 1 0 0),(6,.sl .own 7 []),(7,.ptr 2 0 0),(69,.ref 3),(70,.int .i64 m.runs.length),(71,.int .i64 i)]
  ([.box [.str m.name,.bool m.up,.int .i64 m.clock,.bool m.known,.int .i64 m.seen,.ref 4,.ref 3,.ref 5,.ref 6],.box zeroM,.box [ownVi 7 11 (s.runs.map Run.c)],.arr 11 (m.runs.map Run.c),.arr 7 (m.wants.map Want.c),.arr 4 (s.asks.map Ask.c),.arr 4 (s.gives.map Ask.c)]++ownH 11 (s.runs.map Run.c)) 0
def head206b(m:Mate)(as gv:List Ask)(rs:List Run)(i:Nat):St :=
 hd [(2,.ptr 0 0 0),(4,.ptr 1 0 0),(6,.sl .own 7 []),(7,.ptr 2 0 0),(133,.ref 3),(134,.int .i64 m.wants.length),(135,.int .i64 i)]
  ([.box [.str m.name,.bool m.up,.int .i64 m.clock,.bool m.known,.int .i64 m.seen,.ref 3,.ref 4,.ref 5,.ref 6],.box zeroM,.box [ownVi 7 11 (rs.map Run.c)],.arr 7 (m.wants.map Want.c),.arr 11 (m.runs.map Run.c),.arr 4 (as.map Ask.c),.arr 4 (gv.map Ask.c)]++ownH 11 (rs.map Run.c)) 0
def head206e(m:Mate)(as gv:List Ask)(rs:List Run)(w:Want)(i:Nat)(b:Bool)(j:Nat):St :=
 hd [(2,.ptr 0 0 0),(4,.ptr 1 0 0),(6,.sl .own 7 []),(7,.ptr 2 0 0),(17,.ptr 3 0 0),(18,.bool b),(133,.ref 4),(134,.int .i64 m.wants.length),(135,.int .i64 i),(139,.ref 5),(140,.int .i64 rs.length),(141,.int .i64 j)]
  [.box [.str m.name,.bool m.up,.int .i64 m.clock,.bool m.known,.int .i64 m.seen,.ref 4,.ref 6,.ref 7,.ref 8],.box zeroM,.box [.ref 5],.box w.c,.arr 7 (m.wants.map Want.c),.arr 11 (rs.map Run.c),.arr 11 (m.runs.map Run.c),.arr 4 (as.map Ask.c),.arr 4 (gv.map Ask.c)] 0
def head206f(m:Mate)(as gv:List Ask)(w:Want)(i:Nat):St :=
 hd [(2,.ptr 0 0 0),(4,.ptr 1 0 0),(6,.sl .own 7 []),(7,.ptr 2 0 0),(17,.ptr 3 0 0),(18,.bool false),(133,.ref 4),(134,.int .i64 m.wants.length),(135,.int .i64 i),(139,.sl .own 11 []),(140,.int .i64 0),(141,.int .i64 0)]
  [.box [.str m.name,.bool m.up,.int .i64 m.clock,.bool m.known,.int .i64 m.seen,.ref 4,.ref 5,.ref 6,.ref 7],.box zeroM,.box [.sl .own 11 []],.box w.c,.arr 7 (m.wants.map Want.c),.arr 11 (m.runs.map Run.c),.arr 4 (as.map Ask.c),.arr 4 (gv.map Ask.c)] 0
structure AG(as gv:List Ask):Prop where
 a:Asc Ask.k as
 g:Asc Ask.k gv
 apart:∀ a∈as,∀ b∈gv,a.hold≠b.hold
theorem AG.give{as gv:List Ask}(h:AG as gv){ask:Ask}(ha:ask∈as):AG (dropHold as ask.hold) (putBy Ask.k ask gv):=by
 refine⟨h.a.sublist List.filter_sublist,Zap Ask.k h.g,fun x hx y hy=>?_⟩
 obtain⟨h1,h2⟩:=List.mem_filter.1 hx
 rcases Zav Ask.k hy with rfl|hy
 ·exact fun e=>by rw[(Zac _ _).2 e]at h2;cases h2
 ·exact h.apart x h1 y hy
set_option maxHeartbeats 0 in
/-- What comes behind the first loop. -/
theorem Zrw(m:Mate)(hwl:m.wants.length<=10)(as gv:List Ask)(rs:List Run)(hr:rs.length<=20)(ha:Asc Run.k rs)(hal:as.length<=20)(hgl:gv.length<=40)(hag:AG as gv)(hs:livesOf m=⟨rs,as,gv⟩)(st:St)(hst:st.norm [2,4,6,7,133,134,135]=head206b m as gv rs 0) :
  fin [.cell 4 9 true,.tmp 5] 0 (X F [.code (.loop [2,4,6,7,133,134,135] c206b2),.blk 2,.code kn206b,.code ta206] (.normal,st))=some (resT (mAsks (mLives m)) (tickOut (mLives m))):=by
 have hml:∀ xs,xs=m.wants.foldl addRun rs->mLives m={ m with runs:=xs,asks:=as,gives:=gv }:=fun xs h=>by unfold mLives;rw[hs,h]
 refine (Zay (σ:=Nat×List Run) (fun z=>head206b m as gv z.2 z.1) (fun z=>z.1<=m.wants.length/\z.2=(m.wants.take z.1).foldl addRun rs/\z.2.length<=20/\Asc Run.k z.2) (fun z=>m.wants.length-z.1) (fun _=>_) (fun z Y hinv hY=>?_) (0,rs) hst ⟨by omega,rfl,hr,ha⟩ (by unfold big;simp only;omega)).trans rfl
 obtain⟨i,xs⟩:=z
 obtain⟨g1,g2,g3,g4⟩:=hinv
 simp only at g1 g2 g3 g4 hY ⊢
 by_cases hi:i<m.wants.length
 ·have hiI:(i:Int)<m.wants.length:=by omega
  have hw:IntKind.i64.wrap ((i:Int)+1)=(i:Int)+1:=i64w (by omega) (by omega)
  obtain⟨w,hgw⟩:∃ w,m.wants[i]=w:=⟨_,rfl⟩
  have hwi:m.wants[i]?=some w:=by rw[<- hgw];exact List.getElem?_eq_getElem hi
  have htk:m.wants.take (i+1)=m.wants.take i++[w]:=by rw[List.take_add_one,hwi];rfl
  have hnx:(m.wants.take (i+1)).foldl addRun rs=addRun xs w:=by rw[htk,List.foldl_append,<- g2];rfl
  have hadd:addRun xs w=if 20<=xs.length || xs.any (fun r=>sEq r.want.copy w.copy) then xs else putBy Run.k (newRun w) xs:=rfl
  have hal':=Zid (w:=w) g3
  have haa:=Zib (w:=w) g4
  have rp:rowsPlain [[AV.str w.copy,.int .i64 w.version,.str w.hold,.int .i64 w.pull,.int .i64 w.start,.int .i64 w.dies,.int .i64 w.grace,.int .i64 1,.int .i64 w.pull,.int .i64 0,.int .i64 0]]=true:=plain_run [newRun w]
  rcases xs with _|⟨x0,xs⟩
  ·have hput:addRun [] w=[newRun w]:=rfl
   have hsort:=Zbr Run.c Run.k 0 (fun _=>rfl) (List.Perm.refl [newRun w]) (List.pairwise_singleton _ _)
   simp only[List.map_cons,List.map_nil,Run.c,newRun]at hsort
   obtain⟨s1,s2⟩:=hsort
   simp[head206b,c206b2,hi,hiI,hgw]
   refine (Zay (σ:=Unit) (fun _=>head206f m as gv w i) (fun _=>True) (fun _=>0) (fun _=>_) (fun z Y2 _ hY2=>?_) () ?_ trivial (by unfold big;omega)).trans rfl
   ·simp[head206f,c206b1,takeRows,rp,isRef,sortTab,s1,s2]
    refine hY (i+1,[newRun w]) _ ⟨by simp only;omega,by rw[hnx,hput],by simp,List.pairwise_singleton _ _⟩ (by simp only;omega) ?_
    simp[head206b,zeroM,hw,newRun]
   ·simp[head206f,zeroM]
  ·simp[head206b,c206b2,hi,hiI,hgw]
   refine (Zab (x0::xs) (fun j (b:Bool)=>head206e m as gv (x0::xs) w i b j) (fun j b=>b=((x0::xs).take j).any (fun r=>sEq r.want.copy w.copy)) (fun _ _ _=>_) (fun b Y2 hb=>?_) (fun j r rr b Y2 hjr hj hrr hb hY2=>?_) false ?_ rfl ?_).trans rfl
   ·rw[List.take_length]at hb
    rw[<- hb]at hadd
    have hlI:(xs.length:Int)+1=((x0::xs).length:Int):=by simp
    by_cases hskip:b=true\/20<=(x0::xs).length
    ·have hsk:addRun (x0::xs) w=x0::xs:=by
      rw[hadd]
      rcases hskip with h|h
      ·simp[h]
      ·rw[if_pos (by simp only[Bool.or_eq_true,decide_eq_true_eq];exact .inl h)]
     have go:∀ st,st.norm [2,4,6,7,133,134,135]=head206b m as gv (x0::xs) (i+1)->fin [.cell 4 9 true,.tmp 5] 0 (Y st)=some (resT (mAsks (mLives m)) (tickOut (mLives m))):=fun st h=>hY (i+1,x0::xs) st ⟨by simp only;omega,by rw[hnx,hsk],g3,g4⟩ (by simp only;omega) h
     cases b
     ·have h20:¬ (xs.length:Int)+1<20:=by have h:=hskip.resolve_left (by simp);simp only[List.length_cons]at h;omega
      simp[head206e,c206b1,h20]
      refine go _ ?_
      simp[head206b,zeroM,hw]
     ·simp[head206e,c206b1]
      refine go _ ?_
      simp[head206b,zeroM,hw]
    ·obtain⟨hb0,h20⟩:=not_or.1 hskip
     have hb1:b=false:=by simpa using hb0
     subst hb1
     have hput:addRun (x0::xs) w=putBy Run.k (newRun w) (x0::xs):=by
      rw[hadd,if_neg]
      simp only[Bool.or_false,decide_eq_true_eq]
      exact h20
     have hlk:Lacks Run.k (Run.k (newRun w)) (x0::xs):=fun y hy e=>by
      have:=List.any_eq_false.1 hb.symm y hy
      exact this ((Zac _ _).2 e)
     have hsort:=Zbr Run.c Run.k 0 (fun _=>rfl) (Zbf Run.k (x:=newRun w) (l:=x0::xs) hlk) (Zap Run.k g4)
     rw[<- hput]at hsort
     have hne:∃ y0 ys,addRun (x0::xs) w=y0::ys:=by
      cases e:addRun (x0::xs) w with
      | nil=>have:=(Zbf Run.k (x:=newRun w) (l:=x0::xs) hlk).length_eq;rw[<- hput,e]at this;simp at this
      | cons y0 ys=>exact⟨y0,ys,rfl⟩
     obtain⟨y0,ys,hys⟩:=hne
     rw[hys]at hsort hnx hal' haa
     simp only[List.map_append,List.map_cons,List.map_nil,Run.c,newRun,List.cons_append]at hsort
     obtain⟨s1,s2⟩:=hsort
     simp only[List.length_cons]at h20
     have h20I:(xs.length:Int)+1<20:=by omega
     have e1:(xs.length+1+1)*104<=140737488355328:=by omega
     have e2:xs.length+1+1<=140737488355328:=by omega
     have e3:xs.length+1+1<=1000000000:=by omega
     simp[head206e,c206b1,h20I,takeRows,rp,e1,e2,e3,isRef,sortTab,s1,s2]
     refine hY (i+1,y0::ys) _ ⟨by simp only;omega,by rw[hnx],hal',haa⟩ (by simp only;omega) ?_
     simp[head206b,zeroM,hw]
   ·have hwj:IntKind.i64.wrap ((j:Int)+1)=(j:Int)+1:=i64w (by omega) (by simp only[List.length_cons]at hj g3;omega)
    obtain⟨_,hgj⟩:=List.getElem?_eq_some_iff.1 hjr
    have hjI:(j:Int)<(xs.length:Int)+1:=by simp only[List.length_cons]at hj;omega
    have hjN:j<xs.length+1:=by simpa using hj
    have htk2:(x0::xs).take (j+1)=(x0::xs).take j++[r]:=by rw[List.take_add_one,hjr];rfl
    have hrow:∀ h,(Run.c x0::xs.map Run.c)[j]'h=Run.c r:=fun h=>by
     have:(x0::xs).map Run.c=Run.c x0::xs.map Run.c:=rfl
     simp only[<- this,List.getElem_map,hgj]
    simp only[Run.c]at hrow
    have hb2:(b || sEq r.want.copy w.copy)=((x0::xs).take (j+1)).any (fun r=>sEq r.want.copy w.copy):=by rw[htk2,List.any_append,<- hb];simp
    cases b
    ·cases q:sEq r.want.copy w.copy
     ·simp[head206e,c206b1,hjI,hjN,hrow,q]
      refine hY2 false _ (by rw[<- hb2,q];rfl) ?_
      simp[head206e,zeroM,hwj]
     ·simp[head206e,c206b1,hjI,hjN,hrow,q]
      refine hY2 true _ (by rw[<- hb2,q];rfl) ?_
      simp[head206e,zeroM,hwj]
    ·simp[head206e,c206b1,hjI,hjN,hrow]
     refine hY2 true _ (by rw[<- hb2];rfl) ?_
     simp[head206e,zeroM,hwj]
   ·simp[head206e,zeroM]
   ·simp only[List.length_cons]at g3 ⊢;unfold big;omega
 ·obtain rfl:i=m.wants.length:=by omega
  rw[List.take_length]at g2
  have hm2:=hml xs g2
  rw[hm2]
  rcases xs with _|⟨x0,xs⟩
  ·have key:=Zl0 { m with runs:=[],asks:=as,gives:=gv } false (fun _=>rfl) (by simp only;omega) (by simp) hal hag.a (by simp only;omega)
   simp[head206b,c206b2,kn206b,ta206]
   refine key _ ?_
   simp[head206c,outV,outH,runV,runH,oN,zeroM]
  ·have key:=Zl0 { m with runs:=x0::xs,asks:=as,gives:=gv } true (fun h=>nomatch h) (by simp only;omega) g3 hal hag.a (by simp only;omega)
   simp[head206b,c206b2,kn206b,ta206]
   refine key _ ?_
   simp[head206c,outV,outH,runV,runH,oN,zeroM]
set_option maxHeartbeats 0 in
theorem Zs9(m:Mate)(hwl:m.wants.length<=10)(hr:m.runs.length<=20)(ha:Asc Run.k m.runs)(hsane:∀ r∈m.runs,Sane r)(hal:m.asks.length<=20)(hgl:m.gives.length<=20)(hag:AG m.asks m.gives)(st:St)(hst:st.norm [2,4,6,7,69,70,71]=head206a m ⟨[],m.asks,m.gives⟩ 0) :
  fin [.cell 4 9 true,.tmp 5] 0 (X F [.code (.loop [2,4,6,7,69,70,71] c206b0),.blk 0,.code kn206,.code ta206] (.normal,st))=some (resT (mAsks (mLives m)) (tickOut (mLives m))):=by
 refine (Zay (σ:=Nat×LV) (fun z=>head206a m z.2 z.1) (fun z=>z.1<=m.runs.length/\z.2=(m.runs.take z.1).foldl (liveStep m.clock m.wants) ⟨[],m.asks,m.gives⟩/\z.2.runs.length<=z.1/\z.2.asks.length<=20/\z.2.gives.length<=20+z.1/\AG z.2.asks z.2.gives) (fun z=>m.runs.length-z.1) (fun _=>_) (fun z Y hinv hY=>?_) (0,⟨[],m.asks,m.gives⟩) hst ⟨by omega,rfl,by simp,hal,by simp only;omega,hag⟩ (by unfold big;simp only;omega)).trans rfl
 obtain⟨i,rs,as',gv⟩:=z
 obtain⟨g1,g2,g4,g5,g6,g7⟩:=hinv
 simp only at g1 g2 g4 g5 g6 g7 hY ⊢
 by_cases hi:i<m.runs.length
 ·have hiI:(i:Int)<m.runs.length:=by omega
  have hw:IntKind.i64.wrap ((i:Int)+1)=(i:Int)+1:=i64w (by omega) (by omega)
  obtain⟨r,hgr⟩:∃ r,m.runs[i]=r:=⟨_,rfl⟩
  have hri:m.runs[i]?=some r:=by rw[<- hgr];exact List.getElem?_eq_getElem hi
  have hsr:=hsane r (List.mem_of_getElem? hri)
  have htk:m.runs.take (i+1)=m.runs.take i++[r]:=by rw[List.take_add_one,hri];rfl
  have hnx:(m.runs.take (i+1)).foldl (liveStep m.clock m.wants) ⟨[],m.asks,m.gives⟩=liveStep m.clock m.wants ⟨rs,as',gv⟩ r:=by rw[htk,List.foldl_append,<- g2];rfl
  have w182:=law182 m.wants r.want.copy (by unfold big;omega)
  have hsl:=hsr.left
  have hsf:=hsr.falls
  have w14:=law14 r ((findW m.wants r.want.copy).getD .zero) (findW m.wants r.want.copy).isSome m.clock ⟨by omega,by omega⟩ ⟨by omega,by omega⟩
  have hlv:liveOf m.clock m.wants r=mateLive r ((findW m.wants r.want.copy).getD .zero) (findW m.wants r.want.copy).isSome m.clock:=rfl
  unfold liveRes at w14
  rw[<- hlv]at w14
  generalize (findW m.wants r.want.copy).getD .zero=w at w182 w14
  generalize (findW m.wants r.want.copy).isSome=b at w182 w14
  simp only[Want.c,Run.c]at w182 w14
  cases hlo:liveOf m.clock m.wants r with
  | some n =>
   have hst:liveStep m.clock m.wants ⟨rs,as',gv⟩ r=⟨rs++[n],as',gv⟩:=by unfold liveStep;rw[hlo]
   rw[hlo]at w14
   simp only[Option.getD_some,Option.isSome_some]at w14
   have rp:rowsPlain [[AV.str n.want.copy,.int .i64 n.want.version,.str n.want.hold,.int .i64 n.want.pull,.int .i64 n.want.start,.int .i64 n.want.dies,.int .i64 n.want.grace,.int .i64 n.state,.int .i64 n.left,.int .i64 n.falls,.int .i64 n.til]]=true:=plain_run [n]
   have hc1:(rs.length+1)*104<=140737488355328:=by omega
   have hc2:rs.length+1<=140737488355328:=by omega
   rcases rs with _|⟨r0,rs⟩
   ·skip
    simp[head206a,c206b0,hi,hiI,hgr,w182,w14,takeRows,rp,hc1,hc2]
    refine hY (i+1,⟨[n],_,_⟩) _ ⟨by simp only;omega,(hnx.trans hst).symm,by simp at g4 ⊢<;>omega,g5,Nat.le_succ_of_le g6,g7⟩ (by simp only;omega) ?_
    simp[head206a,zeroM,hw]
   ·simp only[List.length_cons]at hc1 hc2
    simp[head206a,c206b0,hi,hiI,hgr,w182,w14,takeRows,rp,hc1,hc2]
    refine hY (i+1,⟨r0::rs++[n],_,_⟩) _ ⟨by simp only;omega,(hnx.trans hst).symm,by simp at g4 ⊢<;>omega,g5,Nat.le_succ_of_le g6,g7⟩ (by simp only;omega) ?_
    simp[head206a,zeroM,hw]
  | none =>
   have hst:liveStep m.clock m.wants ⟨rs,as',gv⟩ r=giveUp r.want.hold ⟨rs,as',gv⟩:=by unfold liveStep;rw[hlo]
   rw[hlo]at w14
   simp[Run.zero]at w14
   have w113:=law113 as' r.want.hold (by omega)
   have hdl:(dropHold as' r.want.hold).length<=as'.length:=List.length_filter_le _ _
   cases q:sEq r.want.hold ⟨#[]⟩
   ·rcases Zjl as' r.want.hold with ⟨e,hno⟩|⟨k,hkl,e,hso,hsh⟩
    ·have hgu:giveUp r.want.hold ⟨rs,as',gv⟩=⟨rs,as',gv⟩:=by unfold giveUp;rw[q,hno];rfl
     rw[e]at w113
     rcases rs with _|⟨r0,rs⟩
     ·skip
      simp[head206a,c206b0,hi,hiI,hgr,w182,w14,q,w113]
      refine hY (i+1,⟨_,_,_⟩) _ ⟨by simp only;omega,by rw[hnx,hst,hgu],Nat.le_succ_of_le g4,g5,Nat.le_succ_of_le g6,g7⟩ (by simp only;omega) ?_
      simp[head206a,zeroM,hw]
     ·skip
      simp[head206a,c206b0,hi,hiI,hgr,w182,w14,q,w113]
      refine hY (i+1,⟨_,_,_⟩) _ ⟨by simp only;omega,by rw[hnx,hst,hgu],Nat.le_succ_of_le g4,g5,Nat.le_succ_of_le g6,g7⟩ (by simp only;omega) ?_
      simp[head206a,zeroM,hw]
    ·rw[e]at w113
     have hgu:giveUp r.want.hold ⟨rs,as',gv⟩=⟨rs,dropHold as' r.want.hold,if gv.length<40 then putBy Ask.k as'[k] gv else gv⟩:=by unfold giveUp;rw[q,hso];rfl
     have w137:=law137 as' k hkl (by omega)
     have hds:=Zlj g7.a hkl
     rw[hsh]at hds
     have g7':=g7.give (List.getElem_mem hkl)
     have hlk:Lacks Ask.k as'[k].hold gv:=fun y hy=>Ne.symm (g7.apart _ (List.getElem_mem hkl) y hy)
     rw[hsh]at g7'
     obtain⟨ask,hask⟩:∃ ask,as'[k]=ask:=⟨_,rfl⟩
     rw[hask]at hgu g7' hlk
     have hlt:gv.length<40:=by omega
     have hltI:(gv.length:Int)<40:=by omega
     rw[if_pos hlt]at hgu
     have w219:=law219 gv ask (by omega) g7.g hlk
     have hpl:=Zax Ask.k ask gv
     simp only[Ask.c]at w219
     rcases rs with _|⟨r0,rs⟩
     ·skip
      simp[head206a,c206b0,hi,hiI,hgr,w182,w14,q,w113,hkl,hask,hlt,hltI,w137,w219,AO.isArr]
      refine hY (i+1,⟨_,dropHold as' r.want.hold,putBy Ask.k ask gv⟩) _ ⟨by simp only;omega,by rw[hnx,hst,hgu],Nat.le_succ_of_le g4,Nat.le_trans hdl g5,Nat.le_trans hpl (Nat.succ_le_succ g6),g7'⟩ (by simp only;omega) ?_
      simp[head206a,zeroM,hw,hds]
     ·skip
      simp[head206a,c206b0,hi,hiI,hgr,w182,w14,q,w113,hkl,hask,hlt,hltI,w137,w219,AO.isArr]
      refine hY (i+1,⟨_,dropHold as' r.want.hold,putBy Ask.k ask gv⟩) _ ⟨by simp only;omega,by rw[hnx,hst,hgu],Nat.le_succ_of_le g4,Nat.le_trans hdl g5,Nat.le_trans hpl (Nat.succ_le_succ g6),g7'⟩ (by simp only;omega) ?_
      simp[head206a,zeroM,hw,hds]
   ·have hgu:giveUp r.want.hold ⟨rs,as',gv⟩=⟨rs,as',gv⟩:=by unfold giveUp;rw[q];rfl
    rcases rs with _|⟨r0,rs⟩
    ·skip
     simp[head206a,c206b0,hi,hiI,hgr,w182,w14,q,w113]
     refine hY (i+1,⟨_,_,_⟩) _ ⟨by simp only;omega,by rw[hnx,hst,hgu],Nat.le_succ_of_le g4,g5,Nat.le_succ_of_le g6,g7⟩ (by simp only;omega) ?_
     simp[head206a,zeroM,hw]
    ·skip
     simp[head206a,c206b0,hi,hiI,hgr,w182,w14,q,w113]
     refine hY (i+1,⟨_,_,_⟩) _ ⟨by simp only;omega,by rw[hnx,hst,hgu],Nat.le_succ_of_le g4,g5,Nat.le_succ_of_le g6,g7⟩ (by simp only;omega) ?_
     simp[head206a,zeroM,hw]
 ·obtain rfl:i=m.runs.length:=by omega
  rw[List.take_length]at g2
  have hlv:livesOf m=⟨rs,as',gv⟩:=g2.symm
  have hra:=Zdt ha
  rw[hlv]at hra
  have key:=Zrw m hwl as' gv rs (by omega) hra (by omega) (by omega) g7 hlv
  rcases rs with _|⟨r0,rs⟩
  ·simp[head206a,c206b0,kn206]
   refine key _ ?_
   simp[head206b,zeroM]
  ·simp[head206a,c206b0,kn206]
   refine key _ ?_
   simp[head206b,zeroM]
set_option maxHeartbeats 0 in
theorem law206(m:Mate)(rate:Int)(hm:m.small)(ha:m.asks.length<=20)(hg:m.gives.length<=20)(_:I64 rate):F 206 [.agg (m.c .bor),.int .i64 rate] []=some (.tup [.agg ((mateTick m rate).1.c .own),.sl .own 7 ((mateTick m rate).2.map (Parcel.c .own))],[]):=by
 refine Zah fn206 rfl ?_
 have w1:=law28 m hm
 have w2:=law117 m hm
 simp only[Mate.c]at w1 w2
 unfold mateTick
 cases q1:mateValid m
 ·simp[c206_cut,w1,q1,Mate.zero]
 rw[q1]at w1
 have hv:=Zrd q1
 obtain⟨hc0,hc1⟩:=hv.clock
 cases q2:inR rate 1 4
 ·simp only[inR,Bool.and_eq_false_iff,decide_eq_false_iff_not]at q2
  by_cases q3:rate<1
  ·simp[c206_cut,w1,w2,q3]
  ·have q4:4<rate:=by omega
   simp[c206_cut,w1,w2,q3,q4]
 have q2':=q2
 simp only[inR,Bool.and_eq_true,decide_eq_true_eq]at q2'
 have r1:¬ rate<1:=by omega
 have r2:¬ 4<rate:=by omega
 have hw:IntKind.i64.wrap (m.clock+rate)=m.clock+rate:=i64w (by omega) (by omega)
 by_cases q3:1000000<m.clock+rate
 ·have w3:=law36 m true hm
  simp only[Mate.c]at w3
  simp[c206_cut,w1,w2,w3,r1,r2,hw,q3]
 have w4:=law18 m.runs (m.clock+rate) hm.runs
 have hfit:Fit (tickOn m rate) 0:=⟨hv.wants,by simp[tickOn];exact hv.runs,Zqk hv.runsAsc,ha,by simp[tickOn];exact hg⟩
 have hsane:∀ r∈(tickOn m rate).runs,Sane r:=fun r hr=>by
  obtain⟨r',h1,rfl⟩:=List.mem_map.1 hr
  exact Zt1 (hv.sane r' h1)
 cases q4:m.up
 ·rw[q4]at w1 w2
  simp[c206_cut,w1,w2,w4,r1,r2,hw,q3,q4,tickOn]
 rw[q4]at w1 w2
 obtain⟨y,hy⟩:∃ y,y=tickOn m rate:=⟨_,rfl⟩
 have y1:y.name=m.name:=by rw[hy];rfl
 have y2:y.up=true:=by rw[hy];exact q4
 have y3:y.clock=m.clock+rate:=by rw[hy];rfl
 have y4:y.known=m.known:=by rw[hy];rfl
 have y5:y.seen=m.seen:=by rw[hy];rfl
 have y6:y.wants=m.wants:=by rw[hy];rfl
 have y7:m.runs.map (wd (m.clock+rate))=y.runs:=by rw[hy];rfl
 have y8:y.asks=m.asks:=by rw[hy];rfl
 have y9:y.gives=m.gives:=by rw[hy];rfl
 have hag:AG y.asks y.gives:=by rw[y8,y9];exact⟨hv.asks,hv.gives,hv.apart⟩
 rw[y7]at w4
 rw[<- hy]at hfit hsane ⊢
 clear hy
 cases q5:m.known
 ·rw[q5]at w1 w2 y4
  have hk:tickRuns y=y:=by unfold tickRuns;rw[y4];rfl
  rw[hk]
  have key:=Zl0 y true (fun h=>nomatch h) (by have:=hfit.wants;omega) hfit.runs hfit.asks hag.a (by have:=hfit.gives;omega)
  simp[c206_cut,w1,w2,w4,r1,r2,hw,q3,q4,q5,ta206]
  refine (key _ ?_).trans ?_
  ·simp[head206c,outV,outH,runV,runH,oN,y1,y2,y3,y4,y5,y6,y8,y9,zeroM]
  ·simp[resT]
 ·rw[q5]at w1 w2 y4
  have hk:tickRuns y=mLives y:=by unfold tickRuns;rw[y4];rfl
  rw[hk]
  have key:=Zs9 y hfit.wants hfit.runs hfit.asc hsane hfit.asks (by have:=hfit.gives;omega) hag
  simp[c206_cut,w1,w2,w4,r1,r2,hw,q3,q4,q5]
  refine (key _ ?_).trans ?_
  ·simp[head206a,y1,y2,y3,y4,y5,y6,y8,y9,zeroM]
  ·simp[resT]
end Go.Proofs.YtfemiipgkhekiaaGreatDoor
