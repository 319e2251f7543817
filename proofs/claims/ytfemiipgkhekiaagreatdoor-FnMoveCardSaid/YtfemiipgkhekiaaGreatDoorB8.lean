/- Worlds: a tick and what is brought, in the program (MateWorld.do). · Worlds: events and calm rounds of worlds as they are given, in the program (MateDo, MateCalm). · All rise and calm rounds settle the small world (laws.wLive). · A world of two berths, one hold: all rise, all is put anew, calm rounds settle it (laws.wLive). · The small world's first rounds are a world's (plain). · Draws for moves: rates that are shared, events. · Draws for moves: events (DrawEvents). · FnMove: the plain law. · The library's functions: that a program's own do as YtfemiipgkhekiaaGreatDoorLib says where their contracts hold. -/
import Derived.Test.YtfemiipgkhekiaaGreatDoorB7
import Derived.Test.YtfemiipgkhekiaaGreatDoorB6
import Derived.Test.YtfemiipgkhekiaaGreatDoorB5
import Derived.Test.YtfemiipgkhekiaaGreatDoorB1
import Derived.Lib.SplitLaws
namespace Go.Proofs.YtfemiipgkhekiaaGreatDoor
open Go
set_option linter.unusedSimpArgs false
set_option maxRecDepth 100000
def Res5(w:Wld)(r:AV×List (Option AO)):Prop:=∃ y z,r=(.tup [],some (.box (w.c .own .own))::outs4 y z)
def heapD(y:Option (List (List AV)×List (List AV)))(z:Option (List (List AV)))(w:Wld)(e:Event):Nat->Option AO :=
 upd (upd (upd (upd (upd (upd (upd (upd (upd (upd (fun _=>none) 9 (some (.arr 1 (w.flight.map rowT)))) 8 (some (.arr 9 (w.mates.map (Mate.c .own))))) 7 (some (.arr 3 (w.land.places.map (Place.c .own))))) 6 (some (.arr 5 (w.land.grants.map Grant.c)))) 5 (some (.box (e.c .bor)))) 4 (z.map fun c=>.arr 1 c)) 3 none) 2 (y.map fun a=>.arr 3 a.2)) 1 (y.map fun a=>.arr 5 a.1)) 0 (some (.box (w.refs 6)))
def head204t(l0:Land)(w:Wld)(e:Event)(n i:Nat):St :=
 { hd [(0,.ptr 0 0 0),(3,.ptr 5 0 0),(64,.int .i64 n),(65,.int .i64 i)] [] 5 with heap:=heapD (some (l0.grants.map Grant.c,l0.places.map (Place.c .own))) none w e,next:=10 }
theorem Zuc(l0 l:Land)(ms:List Mate)(fl:List T)(e:Event)(hms:∀ m∈ms,Drawn m)(hml:ms.length<=1000)(hfl:fl.length<=1000)(s0:St)(hs0:s0.norm [0,3,64,65]=head204t l0 ⟨l,ms,fl⟩ e ms.length 0) :
  fin [] 5 (X F [.code (.loop [0,3,64,65] c204b0),.blk 1,.blk 0] (.normal,s0))=some (.tup [],some (.box ((⟨l,(tickMates e.rates 0 ms fl).1,(tickMates e.rates 0 ms fl).2⟩:Wld).c .own .own))::outs4 (some (l0.grants.map Grant.c,l0.places.map (Place.c .own))) none):=by
 have ee:(fun s:T=>[AV.str s])=rowT:=rfl
 have ei:(fun n:Int=>[AV.int .i64 n])=rowI:=rfl
 refine (Zay (σ:=Nat×List Mate×List T) (fun z=>head204t l0 ⟨l,z.2.1,z.2.2⟩ e ms.length z.1) (fun z=>z.1<=z.2.1.length/\z.2.1.length=ms.length/\z.2.2.length<=1000/\∀ x∈z.2.1.drop z.1,Drawn x) (fun z=>z.2.1.length-z.1) (fun z=>(AV.tup [],some (AO.box ((⟨l,z.2.1.take z.1++(tickMates e.rates z.1 (z.2.1.drop z.1) z.2.2).1,(tickMates e.rates z.1 (z.2.1.drop z.1) z.2.2).2⟩:Wld).c .own .own))::outs4 (some (l0.grants.map Grant.c,l0.places.map (Place.c .own))) none)) (fun z Y hinv hY=>?_) (0,ms,fl) hs0 ⟨by simp,rfl,hfl,fun x hx=>hms x (by simpa using hx)⟩ (by unfold big;simp only;omega)).trans ?_
 ·obtain⟨i,xs,gl⟩:=z
  obtain⟨g1,g2,g3,g4⟩:=hinv
  simp only at g1 g2 g3 g4 hY ⊢
  by_cases hi:i<xs.length
  ·have hiI:(i:Int)<xs.length:=by omega
   have hiM:(i:Int)<ms.length:=by omega
   have hw1:IntKind.i64.wrap ((i:Int)+1)=(i:Int)+1:=i64w (by omega) (by omega)
   obtain⟨m,hg⟩:∃ m,xs[i]=m:=⟨_,rfl⟩
   have hd:xs.drop i=m::xs.drop (i+1):=by rw[List.drop_eq_getElem_cons hi,hg]
   have hm:Drawn m:=g4 m (by rw[hd];exact List.mem_cons_self)
   obtain⟨r1,r2⟩:=Zpw e.rates i
   have w206:=law206 m (rateOf e.rates i) hm.small hm.nasks hm.ngives ⟨by omega,by omega⟩
   obtain⟨x1,x2,x3⟩:=Zo8 (rate:=rateOf e.rates i) hm
   have w205:=law205 ⟨l,xs.set i (mateTick m (rateOf e.rates i)).1,gl⟩ (mateTick m (rateOf e.rates i)).2 .own (by omega) x3 g3
   have hsl2:=Zhq (mateTick m (rateOf e.rates i)).2 gl
   rw[hd]
   simp only[tickMates]
   have hro:rateOf e.rates i=match e.rates[i]? with
    | some r=>if inR r 1 4 then r else 2
    | none=>2:=rfl
   generalize rateOf e.rates i=ra at *
   generalize mateTick m ra=R at *
   obtain⟨m',ps'⟩:=R
   simp only[Mate.c,Parcel.c,Wld.refs,Wld.arrs,wgone,sendW,List.map_set]at w206 w205 hsl2 ⊢
   generalize ps'.foldl sendF gl=gl' at *
   have hnext:∀ st,st.norm [0,3,64,65]=head204t l0 ⟨l,xs.set i m',gl'⟩ e ms.length (i+1)->fin [] 5 (Y st)=some (AV.tup [],some (AO.box ((⟨l,xs.take i++m'::(tickMates e.rates (i+1) (xs.drop (i+1)) gl').1,(tickMates e.rates (i+1) (xs.drop (i+1)) gl').2⟩:Wld).c .own .own))::outs4 (some (l0.grants.map Grant.c,l0.places.map (Place.c .own))) none):=fun st hn=>by
    have e1:(xs.set i m').drop (i+1)=xs.drop (i+1):=by rw[List.drop_set,if_pos (by omega)]
    have e2:(xs.set i m').take (i+1)=xs.take i++[m']:=by
     rw[List.take_add_one,List.take_set,List.set_eq_of_length_le (by simp;omega),List.getElem?_set_self hi]
     rfl
    have h:=hY (i+1,xs.set i m',gl') st ⟨by simp;omega,by simpa using g2,by simp only;omega,fun x hx=>g4 x (by
     simp only at hx
     rw[e1]at hx
     rw[hd];exact List.mem_cons_of_mem _ hx)⟩ (by simp;omega) hn
    simp only[e1,e2,List.append_assoc,List.singleton_append]at h
    exact h
   cases hri:e.rates[i]? with
   | none =>
    have hge:e.rates.length<=i:=List.getElem?_eq_none_iff.1 hri
    have hgeI:¬ (i:Int)<e.rates.length:=by omega
    rw[hri]at hro
    simp only at hro
    subst hro
    simp[head204t,heapD,Wld.refs,c204b0,hi,hiI,hiM,hg,hgeI,w206,w205,AO.isArr,ee]
    refine (hnext _ ?_).trans (by simp[outs4,ee])
    simp[head204t,heapD,Wld.refs,hw1,List.map_set,List.range,List.range.loop]
   | some r =>
    obtain⟨hlt,hgr⟩:=List.getElem?_eq_some_iff.1 hri
    have hltI:(i:Int)<e.rates.length:=by omega
    rw[hri]at hro
    simp only at hro
    cases hin:inR r 1 4
    ·rw[hin]at hro
     simp only[Bool.false_eq_true,if_false]at hro
     subst hro
     simp[head204t,heapD,Wld.refs,c204b0,hi,hiI,hiM,hg,hlt,hltI,hgr,hin,w206,w205,AO.isArr,ee]
     refine (hnext _ ?_).trans (by simp[outs4,ee])
     simp[head204t,heapD,Wld.refs,hw1,List.map_set,List.range,List.range.loop]
    ·rw[hin]at hro
     simp only[if_true]at hro
     subst hro
     simp[head204t,heapD,Wld.refs,c204b0,hi,hiI,hiM,hg,hlt,hltI,hgr,hin,w206,w205,AO.isArr,ee]
     refine (hnext _ ?_).trans (by simp[outs4,ee])
     simp[head204t,heapD,Wld.refs,hw1,List.map_set,List.range,List.range.loop]
  ·obtain rfl:i=xs.length:=by omega
   have hiM:¬ (xs.length:Int)<ms.length:=by omega
   simp[head204t,heapD,Wld.refs,c204b0,hiM,tickMates,ee,outs4,List.range,List.range.loop]
 ·simp
def head204m(l0:Land)(ms:List Mate)(fl0 fl:List T)(p:Parcel)(n i:Nat):St :=
 hd [(0,.ptr 0 0 0),(10,.ptr 5 0 0),(178,.int .i64 n),(179,.int .i64 i)] (.box [.int .i64 l0.time,.ref 1,.ref 2,.ref 3,.ref 6]::(⟨l0,ms,fl0⟩:Wld).arrs++[.box [.int .i64 p.kind,.str p.berth,.int .i64 p.seen,.ref 7,.str p.hold,.str p.copy,.int .i64 p.at_],.arr 1 (fl.map rowT),.arr 7 (p.wants.map Want.c)]) 5
theorem Zs1(l0:Land)(ms:List Mate)(fl0 fl:List T)(p:Parcel)(hp:p.wants.length<=10)(h1:∀ m∈ms,Drawn m)(h2:ms.length<=1000)(s0:St)(hs0:s0.norm [0,10,178,179]=head204m l0 ms fl0 fl p ms.length 0) :
  Ends (fin [] 5 (X F [.code (.loop [0,10,178,179] c204b1),.blk 4,.blk 3,.blk 0] (.normal,s0))) (Res5 ⟨l0,ms.map fun m=>if sEq m.name p.berth then mateTake m p else m,fl⟩):=by
 have e:(fun s:T=>[AV.str s])=rowT:=rfl
 refine Zem (σ:=Nat×List Mate) (fun z=>head204m l0 z.2 fl0 fl p ms.length z.1) (fun z=>z.1<=ms.length/\z.2=(ms.take z.1).map (fun m=>if sEq m.name p.berth then mateTake m p else m)++ms.drop z.1) (fun z=>ms.length-z.1) (fun z Y hinv hY=>?_) (0,ms) hs0 ⟨Nat.zero_le _,by simp⟩ (by unfold big;simp only;omega)
 obtain⟨i,xs⟩:=z
 obtain⟨g1,g2⟩:=hinv
 simp only at g1 g2 hY ⊢
 have hxl:xs.length=ms.length:=by rw[g2];simp;omega
 by_cases hi:i<ms.length
 ·have hix:i<xs.length:=by omega
  have hiI:(i:Int)<xs.length:=by omega
  have hiM:(i:Int)<ms.length:=by omega
  have hw1:IntKind.i64.wrap ((i:Int)+1)=(i:Int)+1:=i64w (by omega) (by omega)
  obtain⟨m,hgm⟩:∃ m,ms[i]=m:=⟨_,rfl⟩
  have hmi:ms[i]?=some m:=by rw[<- hgm];exact List.getElem?_eq_getElem hi
  have hlt:((ms.take i).map (fun m=>if sEq m.name p.berth then mateTake m p else m)).length=i:=by simp;omega
  have hdr:ms.drop i=m::ms.drop (i+1):=by rw[List.drop_eq_getElem_cons hi,hgm]
  have hg:xs[i]=m:=by
   have:xs[i]?=some m:=by rw[g2,List.getElem?_append_right (by omega),hlt,Nat.sub_self,hdr];rfl
   exact (List.getElem?_eq_some_iff.1 this).2
  have w61:=law61 m p (h1 m (List.mem_of_getElem? hmi)).small (by omega)
  simp only[Mate.c,Parcel.c]at w61
  have hnx:∀ x,x=(if sEq m.name p.berth then mateTake m p else m)->xs.set i x=(ms.take (i+1)).map (fun m=>if sEq m.name p.berth then mateTake m p else m)++ms.drop (i+1):=fun x hx=>by
   rw[g2,List.set_append_right _ _ (by omega),hlt,Nat.sub_self,hdr,List.take_add_one,hmi]
   simp[hx]
  cases q:sEq m.name p.berth
  ·rw[q]at hnx
   have hself:xs.set i m=xs:=by rw[<- hg];exact List.set_getElem_self ..
   simp[head204m,Wld.arrs,c204b1,hix,hiI,hiM,hg,q]
   refine hY (i+1,xs) _ ⟨by simp only;omega,by rw[<- hnx m (by simp),hself]⟩ (by simp only;omega) ?_
   simp[head204m,Wld.arrs,hw1,List.range,List.range.loop]
  ·rw[q]at hnx
   generalize mateTake m p=m' at *
   simp[head204m,Wld.arrs,c204b1,hix,hiI,hiM,hg,q,w61]
   refine hY (i+1,xs.set i m') _ ⟨by simp only;omega,by rw[hnx m' (by simp)]⟩ (by simp only;omega) ?_
   simp[head204m,Wld.arrs,hw1,List.map_set,List.range,List.range.loop]
 ·obtain rfl:i=ms.length:=by omega
  rw[List.take_length,List.drop_length,List.append_nil]at g2
  rw[<- g2]
  simp[head204m,Wld.arrs,c204b1,List.range,List.range.loop]
  exact⟨none,some (fl0.map rowT),by simp[e,outs4]⟩
set_option maxHeartbeats 0 in
theorem law204 (w:Wld) (e:Event) (h:WIs w) (he:e.wants.length<=1048576) (ha : -1000000000000<=e.a/\e.a<=1000000000000):Ends (F 204 [.ptr 0 0 0,.agg (e.c .bor)] (.box (w.refs 1)::w.arrs)) (Res5 (doW w e)):=by
  refine Zm5 fn204 rfl ?_
  have hf:=h.fl
  have h4:=h.four
  have h1:=h.one
  have ee:(fun s:T => [AV.str s])=rowT:=rfl
  have ei:(fun n:Int => [AV.int .i64 n])=rowI:=rfl
  have c1:=Zju e.a w.flight.length
  have c2:=Zju e.a w.mates.length
  unfold doW
  by_cases k1:e.kind=1
  · rw[if_pos k1]
    have w41:=law41 w.land .own h.lsmall
    obtain⟨q1,q2,q3⟩:=Zkx w.land h.lsmall
    have w205:=law205 { w with land:=(landTick w.land).1 } (landTick w.land).2 .own q2 q3 (by simp only;omega)
    unfold tickW
    have hsl:=Zhq (landTick w.land).2 w.flight
    have hmd:=h.drawn
    generalize landTick w.land=R at *
    obtain⟨l,ps⟩:=R
    obtain⟨l0,ms,fl⟩:=w
    simp only at w41 q1 q2 q3 w205 hsl hmd ⊢
    simp only[Land.c,Parcel.c,Wld.refs,Wld.arrs,wgone,sendW]at w41 w205
    generalize ps.foldl sendF fl=fl1 at *
    have tl:∀ s0:St,s0.norm [0,3,64,65]=head204t l0 ⟨l,ms,fl1⟩ e ms.length 0->Ends (fin [] 5 (X F [.code (.loop [0,3,64,65] c204b0),.blk 1,.blk 0] (.normal,s0))) (Res5 ⟨l,(tickMates e.rates 0 ms fl1).1,(tickMates e.rates 0 ms fl1).2⟩):=fun s0 hs0 => ⟨_,Zuc l0 l ms fl1 e hmd (by simp only at h4;omega) (by simp only at hf;omega) s0 hs0,_,_,rfl⟩
    by_cases a0:0<=e.a<;>simp[c204,Wld.refs,Wld.arrs,k1,a0,w41,w205,AO.isArr,ee,ei]<;>refine tl _ ?_<;>simp[head204t,heapD,Wld.refs,k1,ee,ei,List.range,List.range.loop]
  rw[if_neg k1]
  have same:Res5 w (.tup [],[some (.box [.int .i64 w.land.time,.sl .own 5 (w.land.grants.map Grant.c),.sl .own 3 (w.land.places.map (Place.c .own)),.sl .own 9 (w.mates.map (Mate.c .own)),.sl .own 1 (w.flight.map rowT)]),none,none,none,none]):=⟨none,none,by simp[ee,outs4]⟩
  have a9:(atE e.a w.flight.length=false/\((0<=e.a/\¬ e.a<w.flight.length)\/¬ 0<=e.a))\/(atE e.a w.flight.length=true/\∃ k:Nat,e.a=k/\k<w.flight.length):=by
    rcases c1 with ⟨b1,_⟩|⟨b1,_,b3⟩
    · refine .inl ⟨b1,?_⟩
      simp only[atE,Bool.and_eq_false_iff,decide_eq_false_iff_not]at b1
      omega
    · exact .inr ⟨b1,b3⟩
  by_cases k2:e.kind=2
  · rw[if_pos k2]
    rcases a9 with ⟨a1,a2⟩|⟨a1,k,a3,a4⟩
    · rw[if_neg (by simp[a1])]
      rcases a2 with ⟨a2,a5⟩|a2<;>by_cases a6:e.a<w.mates.length<;>simp[c204,Wld.refs,Wld.arrs,ee,ei,k1,k2, *,AO.isArr]<;>exact same
    · rw[if_pos a1,a3,Int.toNat_natCast]
      obtain⟨s,hs⟩:∃ s,w.flight[k]=s:=⟨_,rfl⟩
      have hsk:w.flight[k]?=some s:=by rw[<- hs];exact List.getElem?_eq_getElem a4
      have hm:=List.mem_of_getElem? hsk
      have hkI:(k:Int)<w.flight.length:=by omega
      have w207:=law207 s (by have:=h.texts s hm;omega)
      rw[Zgz]at w207
      have hw:IntKind.i64.wrap ((k:Int)+1)=((k+1:Nat):Int):=i64w (by omega) (by omega)
      have g1:(k:Int)<=w.flight.length:=by omega
      have g2:((k+1:Nat):Int)<=w.flight.length:=by omega
      have g3:k<=w.flight.length:=by omega
      have g4:k+1<=w.flight.length:=by omega
      have e1:min k w.flight.length=k:=by omega
      have p1:rowsPlain ((List.map rowT w.flight).take k)=true:=by rw[<- List.map_take];exact Zcd _
      have p2:rowsPlain ((List.map rowT w.flight).drop (k+1))=true:=by rw[<- List.map_drop];exact Zcd _
      have b1:k*16<=140737488355328:=by omega
      have b2:k<=140737488355328:=by omega
      have b3:(k+(w.flight.length-(k+1)))*16<=140737488355328:=by omega
      have b4:k+(w.flight.length-(k+1))<=140737488355328:=by omega
      have t2:List.take (w.flight.length-(k+1)) (List.drop (k+1) (List.map rowT w.flight))=List.drop (k+1) (List.map rowT w.flight):=List.take_of_length_le (by simp)
      simp only[show ((k+1:Nat):Int)=(k:Int)+1 from rfl]at *
      have t3:((k:Int)+1).toNat=k+1:=by omega
      have t4:(0:Int)<=(k:Int)+1:=by omega
      have hbr:bringW w k=if (readT s).2 then
          (if isDown (readT s).1.kind then { w with flight:=outT w.flight k,mates:=w.mates.map fun m => if sEq m.name (readT s).1.berth then mateTake m (readT s).1 else m }
           else sendW { w with flight:=outT w.flight k,land:=(landTake w.land (readT s).1).1 } (landTake w.land (readT s).1).2)
        else { w with flight:=outT w.flight k }:=by unfold bringW;rw[hsk]
      rw[hbr]
      cases q:(readT s).2
      · rw[q]at w207
        simp only[Parcel.c]at w207
        by_cases a6:(k:Int)<w.mates.length<;>simp[c204,Wld.refs,Wld.arrs,ee,ei,k1,k2,a3,a4,a6,hkI,hs,w207,slBounds,hw,g1,g2,g3,g4,t2,t3,t4,takeRows,p1,p2,e1,b1,b2,b3,b4,AO.isArr,rowT]
        all_goals exact⟨none,some (w.flight.map rowT),by simp[ee,outs4,outT]⟩
      · have hpw:=Zn5 q
        rw[q]at w207
        simp only[if_true]
        generalize (readT s).1=p at *
        simp only[Parcel.c]at w207
        have hout:List.take k (List.map rowT w.flight)++List.drop (k+1) (List.map rowT w.flight)=(outT w.flight k).map rowT:=by simp[outT]
        have hol:=(h.flight.out k).len
        generalize outT w.flight k=fl at *
        cases hd:isDown p.kind
        · have hd':¬ p.kind=1/\¬ p.kind=3/\¬ p.kind=5:=by simpa [isDown] using hd
          obtain⟨d1,d2,d3⟩:=hd'
          have w76:=law76 w.land .own p h.lsmall
          obtain⟨x1,x2,x3⟩:=Zgs (p:=p) h.land
          have w205:=law205 ⟨(landTake w.land p).1,w.mates,fl⟩ (landTake w.land p).2 .own (by omega) (fun x hx => ⟨by rw[x3 x hx];simp⟩) (by simp only;omega)
          generalize landTake w.land p=R at *
          obtain⟨l,ps⟩:=R
          simp only[Land.c,Parcel.c,Wld.refs,Wld.arrs,wgone]at w76 w205
          by_cases a6:(k:Int)<w.mates.length<;>simp[c204,Wld.refs,Wld.arrs,ee,ei,k1,k2,a3,a4,a6,hkI,hs,w207,slBounds,hw,g1,g2,g3,g4,t2,t3,t4,takeRows,p1,p2,e1,b1,b2,b3,b4,AO.isArr,rowT,hout,d1,d2,d3,w76,w205]
          all_goals exact⟨some (w.land.grants.map Grant.c,w.land.places.map (Place.c .own)),some (w.flight.map rowT),by simp[ee,outs4]⟩
        · simp only[if_true]
          have hone:=h.drawn
          have hfour:=h.four
          obtain⟨l0,ms,fl0⟩:=w
          simp only at hone hfour
          have tl:=fun s0 hs0 => Zs1 l0 ms fl0 fl p hpw hone (by omega) s0 hs0
          have hd':p.kind=1\/p.kind=3\/p.kind=5:=by simpa [isDown] using hd
          rcases hd' with d|d|d<;>by_cases a6:(k:Int)<ms.length<;>simp[c204,Wld.refs,Wld.arrs,ee,ei,k1,k2,a3,a4,a6,hkI,hs,w207,slBounds,hw,g1,g2,g3,g4,t2,t3,t4,takeRows,p1,p2,e1,b1,b2,b3,b4,AO.isArr,rowT,hout,d]
          all_goals refine tl _ ?_
          all_goals simp[head204m,Wld.arrs,d,List.range,List.range.loop]
  rw[if_neg k2]
  by_cases k3:e.kind=3
  · rw[if_pos k3]
    rcases a9 with ⟨a1,a2⟩|⟨a1,k,a3,a4⟩
    · rw[if_neg (by simp[a1])]
      rcases a2 with ⟨a2,a5⟩|a2<;>by_cases a6:e.a<w.mates.length<;>simp[c204,Wld.refs,Wld.arrs,ee,ei,k1,k2,k3, *,AO.isArr]<;>exact same
    · rw[if_pos a1,a3,Int.toNat_natCast]
      obtain⟨s,hs⟩:∃ s,w.flight[k]=s:=⟨_,rfl⟩
      have hsk:w.flight[k]?=some s:=by rw[<- hs];exact List.getElem?_eq_getElem a4
      have hkI:(k:Int)<w.flight.length:=by omega
      simp only[doubleW,hsk]
      by_cases l3:w.flight.length<300
      · have l3I:(w.flight.length:Int)<300:=by omega
        have rp:rowsPlain [[AV.str s]]=true:=rfl
        have q1:(w.flight.length+1)*16<=140737488355328:=by omega
        have q2:w.flight.length+1<=140737488355328:=by omega
        by_cases a6:(k:Int)<w.mates.length<;>simp[c204,Wld.refs,Wld.arrs,ee,ei,k1,k2,k3,a3,a4,a6,hkI,hs,l3,l3I,rp,q1,q2,takeRows,rowT,AO.isArr]
        all_goals exact⟨none,none,by simp[outs4,rowT]⟩
      · have l3I:¬ (w.flight.length:Int)<300:=by omega
        by_cases a6:(k:Int)<w.mates.length<;>simp[c204,Wld.refs,Wld.arrs,ee,ei,k1,k2,k3,a3,a4,a6,hkI,l3,l3I,AO.isArr]<;>exact same
  rw[if_neg k3]
  by_cases k4:e.kind=4
  · rw[if_pos k4]
    rcases a9 with ⟨a1,a2⟩|⟨a1,k,a3,a4⟩
    · rw[if_neg (by simp[a1])]
      rcases a2 with ⟨a2,a5⟩|a2<;>by_cases a6:e.a<w.mates.length<;>simp[c204,Wld.refs,Wld.arrs,ee,ei,k1,k2,k3,k4, *,AO.isArr]<;>exact same
    · rw[if_pos a1,a3,Int.toNat_natCast]
      obtain⟨s,hs⟩:∃ s,w.flight[k]=s:=⟨_,rfl⟩
      have hsk:w.flight[k]?=some s:=by rw[<- hs];exact List.getElem?_eq_getElem a4
      have hm:=List.mem_of_getElem? hsk
      have hkI:(k:Int)<w.flight.length:=by omega
      have w207:=law207 s (by have:=h.texts s hm;omega)
      rw[Zgz]at w207
      have hw:IntKind.i64.wrap ((k:Int)+1)=((k+1:Nat):Int):=i64w (by omega) (by omega)
      have g1:(k:Int)<=w.flight.length:=by omega
      have g2:((k+1:Nat):Int)<=w.flight.length:=by omega
      have g3:k<=w.flight.length:=by omega
      have g4:k+1<=w.flight.length:=by omega
      have e1:min k w.flight.length=k:=by omega
      have p1:rowsPlain ((List.map rowT w.flight).take k)=true:=by rw[<- List.map_take];exact Zcd _
      have p2:rowsPlain ((List.map rowT w.flight).drop (k+1))=true:=by rw[<- List.map_drop];exact Zcd _
      have b1:k*16<=140737488355328:=by omega
      have b2:k<=140737488355328:=by omega
      have b3:(k+(w.flight.length-(k+1)))*16<=140737488355328:=by omega
      have b4:k+(w.flight.length-(k+1))<=140737488355328:=by omega
      have t2:List.take (w.flight.length-(k+1)) (List.drop (k+1) (List.map rowT w.flight))=List.drop (k+1) (List.map rowT w.flight):=List.take_of_length_le (by simp)
      simp only[show ((k+1:Nat):Int)=(k:Int)+1 from rfl]at *
      have t3:((k:Int)+1).toNat=k+1:=by omega
      have t4:(0:Int)<=(k:Int)+1:=by omega
      simp only[Parcel.c]at w207
      by_cases a6:(k:Int)<w.mates.length<;>simp[c204,Wld.refs,Wld.arrs,ee,ei,k1,k2,k3,k4,a3,a4,a6,hkI,hs,w207,slBounds,hw,g1,g2,g3,g4,t2,t3,t4,takeRows,p1,p2,e1,b1,b2,b3,b4,AO.isArr,rowT]
      all_goals exact⟨none,some (w.flight.map rowT),by simp[ee,outs4,outT]⟩
  rw[if_neg k4]
  have b9:(atE e.a w.mates.length=false/\((0<=e.a/\¬ e.a<w.mates.length)\/¬ 0<=e.a))\/(atE e.a w.mates.length=true/\∃ k:Nat,e.a=k/\k<w.mates.length):=by
    rcases c2 with ⟨b1,_⟩|⟨b1,_,b3⟩
    · refine .inl ⟨b1,?_⟩
      simp only[atE,Bool.and_eq_false_iff,decide_eq_false_iff_not]at b1
      omega
    · exact .inr ⟨b1,b3⟩
  have mset:∀ (k:Nat) (m':Mate),Res5 { w with mates:=w.mates.set k m' } (.tup [],[some (.box [.int .i64 w.land.time,.sl .own 5 (w.land.grants.map Grant.c),.sl .own 3 (w.land.places.map (Place.c .own)),.sl .own 9 ((w.mates.map (Mate.c .own)).set k (m'.c .own)),.sl .own 1 (w.flight.map rowT)]),none,none,none,none]):=fun k m' => ⟨none,none,by simp[outs4,ee,List.map_set]⟩
  simp only[Mate.c]at mset
  by_cases k5:e.kind=5
  · rw[if_pos k5]
    rcases b9 with ⟨a1,a2⟩|⟨a1,k,a3,a4⟩
    · rw[if_neg (by simp[a1])]
      rcases a2 with ⟨a2,a5⟩|a2<;>by_cases a6:e.a<w.flight.length<;>simp[c204,Wld.refs,Wld.arrs,ee,ei,k1,k2,k3,k4,k5, *,AO.isArr]<;>exact same
    · rw[if_pos a1,a3,Int.toNat_natCast]
      obtain⟨m,hg⟩:∃ m,w.mates[k]=m:=⟨_,rfl⟩
      have hmk:w.mates[k]?=some m:=by rw[<- hg];exact List.getElem?_eq_getElem a4
      have hkI:(k:Int)<w.mates.length:=by omega
      have hsm:=(h.drawn m (List.mem_of_getElem? hmk)).small
      simp only[mateW,hmk]
      have w36:=law36 m (e.b != 0) hsm
      have hm1:=mset k (mateFall m (e.b != 0))
      generalize mateFall m (e.b != 0)=m' at *
      simp only[Mate.c]at w36
      by_cases a6:(k:Int)<w.flight.length<;>simp[c204,Wld.refs,Wld.arrs,ee,ei,k1,k2,k3,k4,k5,a3,a4,a6,hkI,hg,w36,AO.isArr]<;>exact hm1
  rw[if_neg k5]
  by_cases k6:e.kind=6
  · rw[if_pos k6]
    rcases b9 with ⟨a1,a2⟩|⟨a1,k,a3,a4⟩
    · rw[if_neg (by simp[a1])]
      rcases a2 with ⟨a2,a5⟩|a2<;>by_cases a6:e.a<w.flight.length<;>simp[c204,Wld.refs,Wld.arrs,ee,ei,k1,k2,k3,k4,k5,k6, *,AO.isArr]<;>exact same
    · rw[if_pos a1,a3,Int.toNat_natCast]
      obtain⟨m,hg⟩:∃ m,w.mates[k]=m:=⟨_,rfl⟩
      have hmk:w.mates[k]?=some m:=by rw[<- hg];exact List.getElem?_eq_getElem a4
      have hkI:(k:Int)<w.mates.length:=by omega
      have hsm:=(h.drawn m (List.mem_of_getElem? hmk)).small
      simp only[mateW,hmk]
      have w35:=law35 m hsm
      have hm1:=mset k (mateRise m)
      generalize mateRise m=m' at *
      simp only[Mate.c]at w35
      by_cases a6:(k:Int)<w.flight.length<;>simp[c204,Wld.refs,Wld.arrs,ee,ei,k1,k2,k3,k4,k5,k6,a3,a4,a6,hkI,hg,w35,AO.isArr]<;>exact hm1
  rw[if_neg k6]
  by_cases k7:e.kind=7
  · rw[if_pos k7]
    rcases b9 with ⟨a1,a2⟩|⟨a1,k,a3,a4⟩
    · rw[if_neg (by simp[a1])]
      rcases a2 with ⟨a2,a5⟩|a2<;>by_cases a6:e.a<w.flight.length<;>simp[c204,Wld.refs,Wld.arrs,ee,ei,k1,k2,k3,k4,k5,k6,k7, *,AO.isArr]<;>exact same
    · rw[if_pos a1,a3,Int.toNat_natCast]
      obtain⟨m,hg⟩:∃ m,w.mates[k]=m:=⟨_,rfl⟩
      have hmk:w.mates[k]?=some m:=by rw[<- hg];exact List.getElem?_eq_getElem a4
      have hkI:(k:Int)<w.mates.length:=by omega
      simp only[putW,hmk]
      have w70:=law70 w.land .own m.name e.wants h.lsmall he
      generalize matePut w.land m.name e.wants=R at *
      obtain⟨l,c⟩:=R
      simp only[Land.c]at w70
      by_cases hc:c=0
      · subst hc
        by_cases a6:(k:Int)<w.flight.length<;>simp[c204,Wld.refs,Wld.arrs,ee,ei,k1,k2,k3,k4,k5,k6,k7,a3,a4,a6,hkI,hg,w70,AO.isArr]
        all_goals exact⟨some (w.land.grants.map Grant.c,w.land.places.map (Place.c .own)),none,by simp[ee,outs4]⟩
      · by_cases a6:(k:Int)<w.flight.length<;>simp[c204,Wld.refs,Wld.arrs,ee,ei,k1,k2,k3,k4,k5,k6,k7,a3,a4,a6,hkI,hg,w70,hc,AO.isArr]<;>exact same
  rw[if_neg k7]
  by_cases a5:0<=e.a<;>by_cases a6:e.a<w.flight.length<;>by_cases a7:e.a<w.mates.length<;>simp[c204,Wld.refs,Wld.arrs,ee,ei,k1,k2,k3,k4,k5,k6,k7,a5,a6,a7,AO.isArr]<;>exact same
theorem law251c(w:Wld)(ml mm:Md)(e:Event)(hs:w.small)(hf:w.flight.length<=1000)(h:worldOk w=true->WIs w)(he:e.wants.length<=1048576)(ha : -1000000000000<=e.a/\e.a<=1000000000000):F 251 [.agg (w.cc .bor ml mm),.agg (e.c .bor)] []=some (.agg ((mateDo w e).c .own .own),[]):=by
 refine Zah fn251 rfl ?_
 have w57:=law57c w ml mm hs
 have ee:(fun s:T=>[AV.str s])=rowT:=rfl
 have ei:(fun n:Int=>[AV.int .i64 n])=rowI:=rfl
 simp only[Wld.cc,Wld.c,ee]at w57
 unfold mateDo
 cases q:worldOk w
 ·rw[q]at w57
  simp[c251,w57,Wld.zero,Land.zero,ee,ei]
 ·rw[q]at w57
  have hi:=h q
  obtain⟨_,w204,y,z,rfl⟩:=law204 w e hi he ha
  simp only[if_true]
  have w223:=law223c w ml mm hs hf
  generalize doW w e=v at *
  simp only[Wld.refs,Wld.arrs,Wld.cc,Wld.c,Event.c,ee,ei]at w204 w223
  rcases y with _|⟨y1,y2⟩<;>rcases z with _|z1<;>simp only[outs4,Option.map_none,Option.map_some]at w204<;>simp[c251,w57,w223,w204,AO.isArr,ee,ei]
def tickE(rates:List Int):Event:=⟨1,0,0,[],rates⟩
def bringE:Event:=⟨2,0,0,[],[]⟩
theorem Ztx(w:Wld)(rates:List Int):doW w (tickE rates)=tickW w rates:=rfl
theorem Zsu(w:Wld):doW w bringE=bringW w 0:=by
 show (if atE 0 w.flight.length then bringW w 0 else w)=bringW w 0
 by_cases h:0<w.flight.length
 ·rw[if_pos]
  simp only[atE,Bool.and_eq_true,decide_eq_true_eq]
  omega
 ·have h0:w.flight[0]?=none:=List.getElem?_eq_none_iff.2 (by omega)
  have:bringW w 0=w:=by unfold bringW;rw[h0]
  rw[this]
  split<;>rfl
def head210a(rates:List Int)(N:Int)(v:Wld)(i:Nat):St :=
 hd [(2,.sl .bor 1 (rates.map rowI)),(3,.ptr 0 0 0),(6,.ptr 1 0 0),(15,.int .i64 N),(16,.int .i64 i)] ([.box (v.refs 2),.box zeroW]++v.arrs) 0
def head210b(rates:List Int)(N:Int)(v:Wld)(i j:Nat):St :=
 hd [(2,.sl .bor 1 (rates.map rowI)),(3,.ptr 0 0 0),(6,.ptr 1 0 0),(15,.int .i64 N),(16,.int .i64 i),(21,.int .i64 j)] ([.box (v.refs 2),.box zeroW]++v.arrs) 0
def head210c(rates:List Int)(N:Int)(v:Wld)(i j n k:Nat):St :=
 hd [(2,.sl .bor 1 (rates.map rowI)),(3,.ptr 0 0 0),(6,.ptr 1 0 0),(15,.int .i64 N),(16,.int .i64 i),(21,.int .i64 j),(25,.int .i64 n),(26,.int .i64 k)] ([.box (v.refs 2),.box zeroW]++v.arrs) 0
set_option maxHeartbeats 0 in
theorem law210c(w:Wld)(ml mm:Md)(n:Int)(rates:List Int)(hs:w.small)(hf:w.flight.length<=1000)(h:worldOk w=true->WIs w):F 210 [.agg (w.cc .bor ml mm),.int .i64 n,.sl .bor 1 (rates.map rowI)] []=some (.agg ((mateCalm w n rates).c .own .own),[]):=by
 refine Zah fn210 rfl ?_
 have w57:=law57c w ml mm hs
 have ee:(fun s:T=>[AV.str s])=rowT:=rfl
 have ei:(fun n:Int=>[AV.int .i64 n])=rowI:=rfl
 simp only[Wld.cc,Wld.c,ee]at w57
 unfold mateCalm
 cases q:worldOk w
 ·rw[q]at w57
  simp[c210,w57,Wld.zero,Land.zero,ee]
 ·rw[q]at w57
  have hi:=h q
  have w223:=law223c w ml mm hs hf
  simp only[Wld.cc,Wld.c,ee]at w223
  obtain⟨N,hN⟩:∃ N:Nat,min n.toNat 1000=N:=⟨_,rfl⟩
  obtain⟨TT,hTT⟩:∃ TT,roundsW rates N w=TT:=⟨_,rfl⟩
  simp only[if_true,hN,hTT]
  have hN2:(if 1000<(if n<0 then 0 else n) then 1000 else (if n<0 then 0 else n))=(N:Int):=by
   split<;>split at *<;>omega
  have hN0:N<=1000:=by omega
  simp[c210,w57,w223,AO.isArr,ee]
  refine (Zay (σ:=Nat×Wld) (fun z=>head210a rates N z.2 z.1) (fun z=>z.1<=N/\WIs z.2/\roundsW rates (N-z.1) z.2=TT) (fun z=>N-z.1) (fun _=>(AV.agg (TT.c .own .own),([]:List (Option AO)))) (fun z Y hinv hY=>?_) (0,w) ?_ ⟨Nat.zero_le _,hi,hTT⟩ (by unfold big;simp only;omega)).trans ?_
  ·obtain⟨i,v⟩:=z
   obtain⟨g1,g2,g3⟩:=hinv
   simp only at g1 g2 g3 hY ⊢
   by_cases hlt:i<N
   ·have hw1:IntKind.i64.wrap ((i:Int)+1)=(i:Int)+1:=i64w (by omega) (by omega)
    have hltI:(i:Int)<(N:Int):=by omega
    obtain⟨_,w204,y,z,rfl⟩:=law204 v (tickE rates) g2 (by simp[tickE]) (by simp[tickE])
    rw[Ztx]at w204
    have gt:=g2.tick rates
    rw[show N-i=(N-(i+1))+1 by omega]at g3
    obtain⟨V,hV⟩:∃ V,roundW v rates=V:=⟨_,rfl⟩
    have gV:WIs V:=by rw[<- hV];exact g2.round rates
    have g4:roundsW rates (N-(i+1)) V=TT:=by rw[<- hV];exact g3
    rw[Zn7]at hV
    generalize tickW v rates=x at *
    have inner:∀ s0:St,s0.norm [2,3,6,15,16,21]=head210b rates N x i 0->fin [.cell 6 5 true] 0 (X F [.code (.loop [2,3,6,15,16,21] c210b1),.blk 2,.blk 1,.code (.region [⟨some 32,.bin .add (.tmp 16) (.const (.int .i64 1)),none⟩,⟨some 16,.mov (.tmp 32),none⟩] [2,3,6,15,16]),.back Y,.blk 0,.code (.seq (.region [⟨some 33,.load (.tmp 3) 5 true .plain,none⟩,⟨none,.store (.tmp 6) (.tmp 33) 5,none⟩] [6]) .ret)] (.normal,s0))=some (.agg (TT.c .own .own),[]):=fun s0 hs0=>by
     refine Zay (σ:=Nat×Wld) (fun z=>head210b rates N z.2 i z.1) (fun z=>z.1<=2/\WIs z.2/\passN (2-z.1) z.2=V) (fun z=>2-z.1) (fun _=>(AV.agg (TT.c .own .own),([]:List (Option AO)))) (fun z Y1 hinv hY1=>?_) (0,x) hs0 ⟨by simp,gt,hV⟩ (by unfold big;simp only;omega)
     obtain⟨j,u⟩:=z
     obtain⟨k1,k2,k3⟩:=hinv
     simp only at k1 k2 k3 hY1 ⊢
     have hwj:IntKind.i64.wrap ((j:Int)+1)=(j:Int)+1:=i64w (by omega) (by omega)
     by_cases hj:j<2
     ·have hjI:(j:Int)<2:=by omega
      obtain⟨U,hU⟩:∃ U,bringsW u.flight.length u=U:=⟨_,rfl⟩
      have k4:passN (2-(j+1)) U=V:=by
       rw[show 2-j=(2-(j+1))+1 by omega]at k3
       rw[<- hU];exact k3
      have kU:WIs U:=by rw[<- hU];exact k2.brings _
      obtain⟨L,hL⟩:∃ L,u.flight.length=L:=⟨_,rfl⟩
      have hfl:=k2.fl
      rw[hL]at hU hfl
      simp[head210b,Wld.refs,Wld.arrs,c210b1,hjI,hL]
      refine Zay (σ:=Nat×Wld) (fun z=>head210c rates N z.2 i j L z.1) (fun z=>z.1<=L/\WIs z.2/\bringsW (L-z.1) z.2=U) (fun z=>L-z.1) (fun _=>(AV.agg (TT.c .own .own),([]:List (Option AO)))) (fun z Y2 hinv2 hY2=>?_) (0,u) ?_ ⟨by simp,k2,hU⟩ (by unfold big;simp only;omega)
      ·obtain⟨k,q⟩:=z
       obtain⟨m1,m2,m3⟩:=hinv2
       simp only at m1 m2 m3 hY2 ⊢
       have hwk:IntKind.i64.wrap ((k:Int)+1)=(k:Int)+1:=i64w (by omega) (by omega)
       by_cases hk:k<L
       ·have hkI:(k:Int)<(L:Int):=by omega
        obtain⟨_,w204b,y',z',rfl⟩:=law204 q bringE m2 (by simp[bringE]) (by simp[bringE])
        rw[Zsu]at w204b
        have mb:=m2.bring 0
        rw[show L-k=(L-(k+1))+1 by omega]at m3
        have m4:bringsW (L-(k+1)) (bringW q 0)=U:=m3
        have hn:∀ st,st.norm [2,3,6,15,16,21,25,26]=head210c rates N (bringW q 0) i j L (k+1)->fin [.cell 6 5 true] 0 (Y2 st)=some (.agg (TT.c .own .own),[]):=fun st hst=>hY2 (k+1,bringW q 0) st ⟨by simp only;omega,mb,m4⟩ (by simp only;omega) hst
        generalize bringW q 0=q' at *
        simp only[Wld.refs,Wld.arrs,bringE,Event.c,ee,ei,List.map_nil,Nat.reduceAdd]at w204b
        rcases y' with _|⟨y1',y2'⟩<;>rcases z' with _|z1'<;>simp only[outs4,Option.map_none,Option.map_some]at w204b<;>simp[head210c,Wld.refs,Wld.arrs,c210b0,hkI,w204b,AO.isArr,ee,ei]
        all_goals exact (hn _ (by simp[head210c,Wld.refs,Wld.arrs,zeroW,ee,hwk,List.range,List.range.loop])).trans (by simp[ee])
       ·have e0:L-k=0:=by omega
        rw[e0]at m3
        have e3:q=U:=m3
        subst e3
        have hkI:¬ (k:Int)<(L:Int):=by omega
        simp[head210c,Wld.refs,Wld.arrs,c210b0,hkI]
        exact (hY1 (j+1,q) _ ⟨by simp only;omega,kU,k4⟩ (by simp only;omega) (by simp[head210b,Wld.refs,Wld.arrs,zeroW,ee,hwj,List.range,List.range.loop])).trans (by simp)
      ·simp[head210c,Wld.refs,Wld.arrs,zeroW,ee,List.range,List.range.loop]
     ·obtain rfl:j=2:=by omega
      have e3:u=V:=k3
      subst e3
      simp[head210b,Wld.refs,Wld.arrs,c210b1]
      exact (hY (i+1,u) _ ⟨by simp only;omega,gV,g4⟩ (by simp only;omega) (by simp[head210a,Wld.refs,Wld.arrs,zeroW,ee,hw1,List.range,List.range.loop])).trans (by simp)
    simp only[Wld.refs,Wld.arrs,tickE,Event.c,ee,ei,List.map_nil,Nat.reduceAdd]at w204
    rcases y with _|⟨y1,y2⟩<;>rcases z with _|z1<;>simp only[outs4,Option.map_none,Option.map_some]at w204<;>simp[head210a,Wld.refs,Wld.arrs,c210b2,hltI,w204,AO.isArr,ee,ei]
    all_goals exact (inner _ (by simp[head210b,Wld.refs,Wld.arrs,zeroW,ee,List.range,List.range.loop])).trans (by simp[ee])
   ·have e0:N-i=0:=by omega
    rw[e0]at g3
    have e3:v=TT:=g3
    subst e3
    have hltI:¬ (i:Int)<(N:Int):=by omega
    simp[head210a,Wld.refs,Wld.arrs,c210b2,hltI,zeroW,ee,List.range,List.range.loop]
  ·simp[head210a,Wld.refs,Wld.arrs,zeroW,ee,hN2,List.range,List.range.loop]
  ·simp[ee]
theorem law251(w:Wld)(mm:Md)(e:Event)(hs:w.small)(hf:w.flight.length<=1000)(h:worldOk w=true->WIs w)(he:e.wants.length<=1048576)(ha : -1000000000000<=e.a/\e.a<=1000000000000):F 251 [.agg (w.c .bor mm),.agg (e.c .bor)] []=some (.agg ((mateDo w e).c .own .own),[]):=law251c w mm mm e hs hf h he ha
theorem law210(w:Wld)(mm:Md)(n:Int)(rates:List Int)(hs:w.small)(hf:w.flight.length<=1000)(h:worldOk w=true->WIs w):F 210 [.agg (w.c .bor mm),.int .i64 n,.sl .bor 1 (rates.map rowI)] []=some (.agg ((mateCalm w n rates).c .own .own),[]):=law210c w mm mm n rates hs hf h
def head312e(ra rb:Int)(v:Wld)(n:Nat):St:=hd [(1,.sl .bor 1 [rowI ra,rowI rb]),(10,.ptr 0 0 0),(11,.int .i64 n)] ([.box (v.refs 1)]++v.arrs) 0
theorem Ztg{G C ra rb:Int}(hG:0<=G/\G<=8)(h1:1<=ra/\ra<=4)(h2:1<=rb/\rb<=4){y:MW}(hw:WIs (y.v G))(h:InvS G C y)(n:Nat)(hn:n<=1000)(hC:C+4*n<=900000)(mm:Md) :
  F 210 [.agg ((y.v G).c .bor mm),.int .i64 n,.sl .bor 1 [rowI ra,rowI rb]] []=some (.agg (((roundsS G ra rb n y).v G).c .own .own),[])/\WIs ((roundsS G ra rb n y).v G)/\InvS G (C+4*n) (roundsS G ra rb n y):=by
 obtain⟨e,w⟩:=Zmx hG h1 h2 n hC hw h
 have l:=law210 (y.v G) mm n [ra,rb] hw.small (by have:=hw.fl;omega) (fun _=>hw)
 have em:mateCalm (y.v G) n [ra,rb]=(roundsS G ra rb n y).v G:=by
  unfold mateCalm
  rw[hw.ok,if_pos rfl,show min (n:Int).toNat 1000=n by simp;omega,e]
 rw[em]at l
 exact⟨l,w,InvS.rounds hG.1 h1 h2 n h⟩
theorem Zkm(G ra rb:Int):∀ (n:Nat) (x:MW),(roundsS G ra rb n x).land.pa=x.land.pa/\(roundsS G ra rb n x).land.pb=x.land.pb:=by
 have hb:∀ (n:Nat) (x:MW),(bringsS n x).land.pa=x.land.pa/\(bringsS n x).land.pb=x.land.pb:=by
  intro n
  induction n with
  | zero=>intro x;exact⟨rfl,rfl⟩
  | succ n ih=>intro x;exact⟨(ih _).1.trans (Zi1 x 0).1,(ih _).2.trans (Zi1 x 0).2⟩
 intro n
 induction n with
 | zero=>intro x;exact⟨rfl,rfl⟩
 | succ n ih =>
  intro x
  have h1:=hb (tickMW G ra rb x).fl.length (tickMW G ra rb x)
  have h2:=hb (bringsS (tickMW G ra rb x).fl.length (tickMW G ra rb x)).fl.length (bringsS (tickMW G ra rb x).fl.length (tickMW G ra rb x))
  exact⟨(ih _).1.trans (h2.1.trans h1.1),(ih _).2.trans (h2.2.trans h1.2)⟩
def rest312:CCode:=(.seq (.seq (.region [ ⟨some 117,.load (.tmp 10) 5 true .plain,none⟩,⟨some 118,.call 68 [false] [.tmp 117],none⟩,⟨some 119,.un .not (.tmp 118),none⟩,⟨some 120,.mov (.tmp 119),none⟩,⟨some 121,.load (.tmp 10) 5 true .plain,some (120,false)⟩,⟨some 122,.call 69 [false] [.tmp 121],some (120,false)⟩,⟨some 123,.un .not (.tmp 122),some (120,false)⟩,⟨some 124,.pick (.tmp 120) (.const (.bool true)) (.tmp 123),none⟩] [1,10,124]) (.cond (.tmp 124) (.seq (.region [ ⟨some 4,.mov (.const (.bool false)),none⟩] [4]) .ret) .skip)) (.seq (.region [ ⟨some 125,.load (.tmp 10) 5 true .plain,none⟩,⟨some 126,.mov (.tmp 1),none⟩,⟨some 127,.call 210 [false,false,false] [.tmp 125,.const (.int .i64 1),.tmp 126],none⟩,⟨some 128,.call 68 [false] [.tmp 127],none⟩,⟨some 129,.mov (.tmp 128),none⟩,⟨some 130,.load (.tmp 10) 5 true .plain,some (129,true)⟩,⟨some 131,.mov (.tmp 1),some (129,true)⟩,⟨some 132,.call 210 [false,false,false] [.tmp 130,.const (.int .i64 23),.tmp 131],some (129,true)⟩,⟨some 133,.call 68 [false] [.tmp 132],some (129,true)⟩,⟨some 134,.pick (.tmp 129) (.tmp 133) (.const (.bool false)),none⟩,⟨some 4,.mov (.tmp 134),none⟩] [4]) .ret))
theorem Ztn{G C ra rb:Int}(hG:0<=G/\G<=8)(h1:1<=ra/\ra<=4)(h2:1<=rb/\rb<=4){y:MW}(hw:WIs (y.v G))(h:InvS G C y)(hC:C<=800000)(hu:y.a.up=true/\y.b.up=true)(hp:∃ s t,y.land.pa=some (s,false)/\y.land.pb=some (t,true))(s0:St)(hs0:s0.norm [1,10,11]=head312e ra rb (y.v G) 0) :
  fin [.tmp 4] 0 (X F [.code (.loop [1,10,11] c312b4),.blk 8,.code rest312] (.normal,s0))=some (.bool true,[]):=by
 have ee:(fun s:T=>[AV.str s])=rowT:=rfl
 have hfl:y.fl.length<=300:=by have:=hw.fl;simpa [MW.v] using this
 obtain⟨s,t,hpa,hpb⟩:=hp
 have inv:∀ n:Nat,n<=100->WIs ((roundsS G ra rb n y).v G)/\InvS G (C+4*n) (roundsS G ra rb n y):=fun n hn=>(Ztg hG h1 h2 hw h n (by omega) (by omega) .own).2
 have set':∀ n:Nat,n<=100->36<=n->settled ((roundsS G ra rb n y).v G)=true:=fun n hn hn2=>Zph (inv n hn).1 (Zns hG h1 h2 h hfl hu.1 hu.2 n hn2) ⟨s,t,by rw[(Zkm G ra rb n y).1,hpa],by rw[(Zkm G ra rb n y).2,hpb]⟩
 have calm:∀ (n m:Nat) (mi:Int),mi=m->n+m<=100->F 210 [.agg (((roundsS G ra rb n y).v G).c .bor .own),.int .i64 mi,.sl .bor 1 [rowI ra,rowI rb]] []=some (.agg (((roundsS G ra rb (n+m) y).v G).c .own .own),[])   := fun n m mi hmi hn=>by
  subst hmi
  obtain⟨w,i⟩:=inv n (by omega)
  have:=(Ztg hG h1 h2 w i m (by omega) (by omega) .own).1
  rw[Zff]
  exact this
 have c0:=calm 0 20 20 rfl (by omega)
 have c1:=calm 20 20 20 rfl (by omega)
 have c2:=calm 40 1 1 rfl (by omega)
 have c3:=calm 40 23 23 rfl (by omega)
 have i20:=inv 20 (by omega)
 have i40:=inv 40 (by omega)
 have i41:=inv 41 (by omega)
 have i63:=inv 63 (by omega)
 have s1:=Zqa i20.1 i20.2
 have s2:=Zqa i40.1 i40.2
 have k1:=Zpr i20.1 i20.2
 have k2:=Zpr i40.1 i40.2
 have t40:=set' 40 (by omega) (by omega)
 have t41:=set' 41 (by omega) (by omega)
 have t63:=set' 63 (by omega) (by omega)
 clear inv set' calm
 have e0:roundsS G ra rb 0 y=y:=rfl
 rw[e0]at c0
 simp only[Nat.zero_add,Nat.reduceAdd]at c0 c1 c2 c3
 generalize y.v G=V0 at *
 generalize (roundsS G ra rb 20 y).v G=V1 at *
 generalize (roundsS G ra rb 40 y).v G=V2 at *
 generalize (roundsS G ra rb 41 y).v G=V3 at *
 generalize (roundsS G ra rb 63 y).v G=V4 at *
 have a1:=law67 V1 .own i20.1.small
 have a2:=law314 V1 i20.1.small
 have a3:=law67 V2 .own i40.1.small
 have a4:=law314 V2 i40.1.small
 have a5:=law69 V2 .own i40.1.small
 have a6:=law68 V2 .own i40.1.small
 have a7:=law68 V3 .own i41.1.small
 have a8:=law68 V4 .own i63.1.small
 rw[s1]at a1
 rw[k1]at a2
 rw[s2]at a3
 rw[k2]at a4
 rw[t40]at a5 a6
 rw[t41]at a7
 rw[t63]at a8
 clear s1 s2 k1 k2 t40 t41 t63 i20 i40 i41 i63 h hw hu hfl hpa hpb
 simp only[Wld.c,ee]at c0 c1 c2 c3 a1 a2 a3 a4 a5 a6 a7 a8
 have w20:IntKind.i64.wrap 20=20:=i64w (by omega) (by omega)
 have w40:IntKind.i64.wrap 40=40:=i64w (by omega) (by omega)
 refine (Zay (σ:=Nat) (fun k=>head312e ra rb (match k with|0=>V0|1=>V1|_=>V2) (20*k)) (fun k=>k<=2) (fun k=>2-k) (fun _=>(AV.bool true,([]:List (Option AO)))) (fun k Y hk hY=>?_) 0 hs0 (by omega) (by unfold big;omega))
 rcases k with _|_|_|k
 ·simp[head312e,Wld.refs,Wld.arrs,c312b4,c0,a1,a2,ee]
  exact (hY 1 _ (by omega) (by omega) (by simp[head312e,Wld.refs,Wld.arrs,ee,w20,List.range,List.range.loop])).trans (by simp)
 ·simp[head312e,Wld.refs,Wld.arrs,c312b4,c1,a3,a4,ee]
  exact (hY 2 _ (by omega) (by omega) (by simp[head312e,Wld.refs,Wld.arrs,ee,w40,List.range,List.range.loop])).trans (by simp)
 ·simp[head312e,Wld.refs,Wld.arrs,c312b4,rest312,a5,a6,a7,a8,c2,c3,ee]
 ·omega
/-! ### The puts -/
def head312b(ra rb:Int)(v:Wld)(i:Nat):St:=hd [(1,.sl .bor 1 [rowI ra,rowI rb]),(2,.ptr 0 0 0),(6,.int .i64 i)] ([.box (v.refs 1)]++v.arrs) 0
def head312c(ra rb:Int)(v:Wld)(i:Nat)(ws:List Want)(k:Nat):St:=hd [(1,.sl .bor 1 [rowI ra,rowI rb]),(2,.ptr 0 0 0),(6,.int .i64 i),(7,.ref 1),(8,.int .i64 k)] ([.box (v.refs 2),.arr 7 (ws.map Want.c)]++v.arrs) 0
def head312d(ra rb:Int)(v:Wld)(i:Nat)(ws:List Want)(k:Nat):St:=hd [(1,.sl .bor 1 [rowI ra,rowI rb]),(2,.ptr 0 0 0),(6,.int .i64 i),(7,.ref 1),(9,.int .i64 k)] ([.box (v.refs 2),.arr 7 (ws.map Want.c)]++v.arrs) 0
theorem Ztb{ra rb:Int}{V V':Wld}{G s t:Int}{i:Nat}{nA nB nm:T}(hi:i<2)(hpl:V.land.places=[⟨nA,s,[]⟩,⟨nB,t,[oneW G]⟩])(hlen:V.mates.length=2)(hnm:∀ h:i<V.mates.length,(V.mates[i]'h).name=nm){b:Bool}(ha:sEq nA nm=!b)(hb:sEq nB nm=b)
  (w251:F 251 [.agg (V.c .bor .own),.agg ((⟨7,i,0,if b then [oneW G] else [],[]⟩:Event).c .bor)] []=some (.agg (V'.c .own .own),[])) (Y:St->Option (AExit×St)) (R:AV×List (Option AO)) (K:List Fr)
  (hY:∀ s',s'.norm [1,2,6]=head312b ra rb V' (i+1)->fin [.tmp 4] 0 (Y s')=some R) :
  fin [.tmp 4] 0 (X F (.code c312b3::.back Y::K) (.normal,head312b ra rb V i))=some R:=by
 have ee:(fun s:T=>[AV.str s])=rowT:=rfl
 have hw1:IntKind.i64.wrap ((i:Int)+1)=(i:Int)+1:=i64w (by omega) (by omega)
 have hiI:(i:Int)<2:=by omega
 have hi2:i<V.mates.length:=by omega
 have hnm':=hnm hi2
 have hrow:∀ h:i<V.mates.length,V.mates[i]'h=V.mates[i]'hi2:=fun _=>rfl
 have hone:(oneW G).c=[.str cpX,.int .i64 1,.str volT,.int .i64 1,.int .i64 1,.int .i64 0,.int .i64 G]:=rfl
 have w1:IntKind.i64.wrap 1=1:=i64w (by omega) (by omega)
 have w2:IntKind.i64.wrap 2=2:=i64w (by omega) (by omega)
 simp only[Wld.c,Event.c,ee]at w251
 obtain⟨L,ms,fl⟩:=V
 obtain⟨tm,gs,ps⟩:=L
 simp only at hpl hlen hnm hnm' hrow hi2 w251
 subst hpl
 cases b
 ·simp only[Bool.not_false,Bool.false_eq_true,if_false,List.map_nil]at ha hb w251
  simp only[List.map_cons,List.map_nil,Place.c,Want.c,oneW]at w251
  simp[head312b,Wld.refs,Wld.arrs,c312b3,hlen,hiI]
  refine (Zay (σ:=Nat) (fun k=>head312c ra rb ⟨⟨tm,gs,[⟨nA,s,[]⟩,⟨nB,t,[oneW G]⟩]⟩,ms,fl⟩ i [] k) (fun k=>k<=2) (fun k=>2-k) (fun _=>R) (fun k Y1 hk hY1=>?_) 0 ?_ (by omega) (by unfold big;omega))
  ·rcases k with _|_|_|k
   ·simp[head312c,Wld.refs,Wld.arrs,c312b1,hi2,hnm',ha,takeRows,rowsPlain]
    exact (hY1 1 _ (by omega) (by omega) (by simp[head312c,Wld.refs,Wld.arrs,w1,List.range,List.range.loop])).trans (by simp)
   ·simp[head312c,Wld.refs,Wld.arrs,c312b1,hi2,hnm',hb]
    exact (hY1 2 _ (by omega) (by omega) (by simp[head312c,Wld.refs,Wld.arrs,w2,List.range,List.range.loop])).trans (by simp)
   ·simp[head312c,Wld.refs,Wld.arrs,c312b1]
    refine (Zay (σ:=Nat) (fun k=>head312d ra rb ⟨⟨tm,gs,[⟨nA,s,[]⟩,⟨nB,t,[oneW G]⟩]⟩,ms,fl⟩ i [] k) (fun k=>k<=0) (fun k=>0) (fun _=>R) (fun k Y2 hk hY2=>?_) 0 ?_ (by omega) (by unfold big;omega))
    ·obtain rfl:k=0:=by omega
     simp[head312d,Wld.refs,Wld.arrs,c312b2,w251,oneW]
     exact (hY _ (by simp[head312b,Wld.refs,Wld.arrs,hw1,ee,List.range,List.range.loop])).trans (by simp)
    ·simp[head312d,Wld.refs,Wld.arrs,List.range,List.range.loop]
   ·omega
  ·simp[head312c,Wld.refs,Wld.arrs,List.range,List.range.loop]
 ·simp only[Bool.not_true,if_true]at ha hb w251
  simp only[List.map_cons,List.map_nil,Place.c,Want.c,oneW]at w251
  simp[head312b,Wld.refs,Wld.arrs,c312b3,hlen,hiI]
  refine (Zay (σ:=Nat) (fun k=>head312c ra rb ⟨⟨tm,gs,[⟨nA,s,[]⟩,⟨nB,t,[oneW G]⟩]⟩,ms,fl⟩ i (match k with|2=>[oneW G]|_=>[]) k) (fun k=>k<=2) (fun k=>2-k) (fun _=>R) (fun k Y1 hk hY1=>?_) 0 ?_ (by omega) (by unfold big;omega))
  ·rcases k with _|_|_|k
   ·simp[head312c,Wld.refs,Wld.arrs,c312b1,hi2,hnm',ha]
    exact (hY1 1 _ (by omega) (by omega) (by simp[head312c,Wld.refs,Wld.arrs,w1,List.range,List.range.loop])).trans (by simp)
   ·simp[head312c,Wld.refs,Wld.arrs,c312b1,hi2,hnm',hb,takeRows,rowsPlain,AV.plain]
    exact (hY1 2 _ (by omega) (by omega) (by simp[head312c,Wld.refs,Wld.arrs,w2,List.range,List.range.loop])).trans (by simp)
   ·simp[head312c,Wld.refs,Wld.arrs,c312b1]
    refine (Zay (σ:=Nat) (fun k=>head312d ra rb ⟨⟨tm,gs,[⟨nA,s,[]⟩,⟨nB,t,[oneW G]⟩]⟩,ms,fl⟩ i [oneW G] k) (fun k=>k<=1) (fun k=>1-k) (fun _=>R) (fun k Y2 hk hY2=>?_) 0 ?_ (by omega) (by unfold big;omega))
    ·rcases k with _|_|k
     ·simp[head312d,Wld.refs,Wld.arrs,c312b2,oneW]
      exact (hY2 1 _ (by omega) (by omega) (by simp[head312d,Wld.refs,Wld.arrs,oneW,w1,List.range,List.range.loop])).trans (by simp)
     ·simp[head312d,Wld.refs,Wld.arrs,c312b2,w251,oneW]
      exact (hY _ (by simp[head312b,Wld.refs,Wld.arrs,hw1,ee,List.range,List.range.loop])).trans (by simp)
     ·omega
    ·simp[head312d,Wld.refs,Wld.arrs,List.range,List.range.loop]
   ·omega
  ·simp[head312c,Wld.refs,Wld.arrs,List.range,List.range.loop]
def head312z(ra rb:Int)(V:Wld):St:=hd [(1,.sl .bor 1 [rowI ra,rowI rb]),(2,.ptr 0 0 0),(5,.int .i64 0)] [.box (V.c .bor .own)] 0
def head312a(ra rb:Int)(V:Wld)(i:Nat):St:=hd [(1,.sl .bor 1 [rowI ra,rowI rb]),(2,.ptr 0 0 0),(5,.int .i64 i)] ([.box (V.refs 1)]++V.arrs) 0
theorem do_v{V:Wld}(hw:WIs V)(e:Event)(he:e.wants.length<=1048576)(ha : -1000000000000<=e.a/\e.a<=1000000000000){V':Wld}(h:doW V e=V'):F 251 [.agg (V.c .bor .own),.agg (e.c .bor)] []=some (.agg (V'.c .own .own),[]):=by
 have l:=law251 V .own e hw.small (by have:=hw.fl;omega) (fun _=>hw) he ha
 have em:mateDo V e=V':=by
  unfold mateDo
  rw[hw.ok,if_pos rfl,h]
 rw[em]at l
 exact l
theorem Zsc{G C ra rb:Int}(hG:0<=G/\G<=8)(h1:1<=ra/\ra<=4)(h2:1<=rb/\rb<=4){x:MW}(hw:WIs (x.v G))(h:InvS G C x)(hC:C<=800000)(hpa:x.land.pa=some (2,false))(hpb:x.land.pb=some (1,true)) :
  F 312 [.agg ((x.v G).c .bor .own),.sl .bor 1 [rowI ra,rowI rb]] []=some (.bool true,[]):=by
 have ee:(fun s:T=>[AV.str s])=rowT:=rfl
 -- the worlds
 obtain⟨x1,hx1⟩:∃ x1:MW,x1={ x with a:=riseS x.a }:=⟨_,rfl⟩
 obtain⟨x2,hx2⟩:∃ x2:MW,x2={ x1 with b:=riseS x1.b }:=⟨_,rfl⟩
 obtain⟨x3,hx3⟩:∃ x3:MW,x3={ x2 with land:=putL x2.land true false }:=⟨_,rfl⟩
 obtain⟨x4,hx4⟩:∃ x4:MW,x4={ x3 with land:=putL x3.land false true }:=⟨_,rfl⟩
 have e1:doW (x.v G) ⟨6,0,0,[],[]⟩=x1.v G:=by
  rw[Zpg hG hw h (by omega) h1 h2 (by simp) (by simp) (by simp),hx1];rfl
 have w1:WIs (x1.v G):=by rw[<- e1];exact hw.do' (fun y hy=>by simp at hy)
 have i1:InvS G C x1:=by rw[hx1];exact h.riseA
 have e2:doW (x1.v G) ⟨6,1,0,[],[]⟩=x2.v G:=by
  rw[Zpg hG w1 i1 (by omega) h1 h2 (by simp) (by simp) (by simp),hx2];rfl
 have w2:WIs (x2.v G):=by rw[<- e2];exact w1.do' (fun y hy=>by simp at hy)
 have i2:InvS G C x2:=by rw[hx2];exact i1.riseB
 have hpa2:x2.land.pa=some (2,false):=by rw[hx2,hx1];exact hpa
 have hpb2:x2.land.pb=some (1,true):=by rw[hx2,hx1];exact hpb
 have hone:∀ y∈[oneW G],inS y.hold=true:=fun y hy=>by rw[List.mem_singleton.1 hy];exact Zhb (by simp[oneW,volT])
 have e3:doW (x2.v G) ⟨7,0,0,[],[]⟩=x3.v G:=by
  have:=Zrh (a:=true) (w:=false) hG w2 (x:=x2) ⟨fun p e=>?_,fun p e=>?_,fun p q e e' k=>?_⟩ (fun p e=>?_) (fun p e=>?_)
  ·rw[hx3];exact this
  ·simp only[putL,hpa2,if_true]at e;obtain rfl:=Option.some.inj e;simp
  ·simp only[putL,if_true,hpb2]at e;obtain rfl:=Option.some.inj e;simp
  ·simp only[putL,hpa2,if_true]at e;obtain rfl:=Option.some.inj e;cases k
  ·rw[hpa2]at e;obtain rfl:=Option.some.inj e;simp
  ·rw[hpb2]at e;obtain rfl:=Option.some.inj e;simp
 have w3:WIs (x3.v G):=by rw[<- e3];exact w2.do' (fun y hy=>by simp at hy)
 have hpa3:x3.land.pa=some (3,false):=by rw[hx3];simp[putL,hpa2]
 have hpb3:x3.land.pb=some (1,true):=by rw[hx3];simp[putL,hpb2]
 have e4:doW (x3.v G) ⟨7,1,0,[oneW G],[]⟩=x4.v G:=by
  have:=Zrh (a:=false) (w:=true) hG w3 (x:=x3) ⟨fun p e=>?_,fun p e=>?_,fun p q e e' k=>?_⟩ (fun p e=>?_) (fun p e=>?_)
  ·rw[hx4];exact this
  ·simp only[putL,hpa3,Bool.false_eq_true,if_false]at e;obtain rfl:=Option.some.inj e;simp
  ·simp only[putL,hpb3,Bool.false_eq_true,if_false]at e;obtain rfl:=Option.some.inj e;simp
  ·simp only[putL,hpa3,Bool.false_eq_true,if_false]at e;obtain rfl:=Option.some.inj e;cases k
  ·rw[hpa3]at e;obtain rfl:=Option.some.inj e;simp
  ·rw[hpb3]at e;obtain rfl:=Option.some.inj e;simp
 have w4:WIs (x4.v G):=by rw[<- e4];exact w3.do' hone
 have hx4':x4=raisedS x:=by
  rw[hx4,hx3,hx2,hx1];simp[raisedS,putL,hpa,hpb]
 have i4:InvS G C x4:=by
  rw[hx4']
  exact h.raised (fun p e=>by rw[hpa]at e;obtain rfl:=Option.some.inj e;simp) (fun p e=>by rw[hpb]at e;obtain rfl:=Option.some.inj e;simp)
 have hup:x4.a.up=true/\x4.b.up=true:=by rw[hx4'];exact⟨rfl,rfl⟩
 have tail:=fun s0 hs0=>Ztn hG h1 h2 w4 i4 hC hup ⟨3,2,by rw[hx4'];simp[raisedS,hpa],by rw[hx4'];simp[raisedS,hpb]⟩ s0 hs0
 have ht4:¬ 1000000<(x4.v G).land.time:=by have:=i4.ct;show ¬ 1000000<x4.land.time;omega
 have c1:¬ 998320<(x.a.m G true).clock:=by have:=h.ca;show ¬ 998320<x.a.clock;omega
 have c2:¬ 998320<(x1.b.m G false).clock:=by have:=i1.cb;show ¬ 998320<x1.b.clock;omega
 have d1:=do_v hw ⟨6,0,0,[],[]⟩ (by simp) (by simp) e1
 have d2:=do_v w1 ⟨6,1,0,[],[]⟩ (by simp) (by simp) e2
 have d3:=do_v w2 ⟨7,0,0,[],[]⟩ (by simp) (by simp) e3
 have d4:=do_v w3 ⟨7,1,0,[oneW G],[]⟩ (by simp) (by simp) e4
 have p2:(x2.v G).land.places=[⟨nmT true,2,[]⟩,⟨nmT false,1,[oneW G]⟩]:=by simp[MW.v,LS.l,hpa2,hpb2,placeW,wantsW]
 have p3:(x3.v G).land.places=[⟨nmT true,3,[]⟩,⟨nmT false,1,[oneW G]⟩]:=by simp[MW.v,LS.l,hpa3,hpb3,placeW,wantsW]
 have b2:=fun (Y:St->Option (AExit×St)) (K:List Fr)=>Ztb (ra:=ra) (rb:=rb) (i:=0) (V:=x2.v G) (V':=x3.v G) (nm:=nmT true) (by omega) p2 rfl (fun _=>rfl) (b:=false) (Zb2 _ _) (Zb2 _ _) d3 Y (.bool true,[]) K
 have b3:=fun (Y:St->Option (AExit×St)) (K:List Fr)=>Ztb (ra:=ra) (rb:=rb) (i:=1) (V:=x3.v G) (V':=x4.v G) (nm:=nmT false) (by omega) p3 rfl (fun _=>rfl) (b:=true) (Zb2 _ _) (Zb2 _ _) d4 Y (.bool true,[]) K
 have m0:(x.v G).mates=[x.a.m G true,x.b.m G false]:=rfl
 have m1:(x1.v G).mates=[x1.a.m G true,x1.b.m G false]:=rfl
 have m2:(x2.v G).mates.length=2:=rfl
 have m4:(x4.v G).mates.length=2:=rfl
 generalize x.v G=V0 at *
 generalize x1.v G=V1 at *
 generalize x2.v G=V2 at *
 generalize x3.v G=V3 at *
 generalize x4.v G=V4 at *
 generalize x.a.m G true=ma at *
 generalize x.b.m G false=mb at *
 generalize x1.a.m G true=ma1 at *
 generalize x1.b.m G false=mb1 at *
 clear i1 i2 i4 w1 w2 w3 w4 h hw e1 e2 e3 e4 hx1 hx2 hx3 hx4 hx4' hup hpa hpb hpa2 hpb2 hpa3 hpb3 p2 p3 d3 d4
 refine Zah fn312 rfl ?_
 simp only[Wld.c,Event.c,ee,List.map_nil,m0,m1,List.map_cons,Mate.c]at d1 d2
 have q1:IntKind.i64.wrap 1=1:=i64w (by omega) (by omega)
 have q2:IntKind.i64.wrap 2=2:=i64w (by omega) (by omega)
 simp[c312,ee,m0]
 refine Zay (σ:=Nat) (fun k=>match k with|0=>head312z ra rb V0|1=>head312a ra rb V1 1|_=>head312a ra rb V2 2) (fun k=>k<=2) (fun k=>2-k) (fun _=>(AV.bool true,([]:List (Option AO)))) (fun k Y hk hY=>?_) 0 ?_ (by omega) (by unfold big;omega)
 ·rcases k with _|_|_|k
  ·simp[head312z,c312b0,m0,c1,d1,ee]
   exact (hY 1 _ (by omega) (by omega) (by simp[head312a,Wld.refs,Wld.arrs,m1,ee,q1,List.range,List.range.loop])).trans (by simp)
  ·simp[head312a,Wld.refs,Wld.arrs,c312b0,m1,c2,d2,ee]
   exact (hY 2 _ (by omega) (by omega) (by simp[head312a,Wld.refs,Wld.arrs,ee,q2,List.range,List.range.loop])).trans (by simp)
  ·simp[head312a,Wld.refs,Wld.arrs,c312b0,m2,ee]
   refine Zay (σ:=Nat) (fun k=>match k with|0=>head312b ra rb V2 0|1=>head312b ra rb V3 1|_=>head312b ra rb V4 2) (fun k=>k<=2) (fun k=>2-k) (fun _=>(AV.bool true,([]:List (Option AO)))) (fun k Y2 hk hY2=>?_) 0 ?_ (by omega) (by unfold big;omega)
   ·rcases k with _|_|_|k
    ·exact b2 Y2 _ fun s' hs'=>hY2 1 s' (by omega) (by omega) hs'
    ·exact b3 Y2 _ fun s' hs'=>hY2 2 s' (by omega) (by omega) hs'
    ·simp[head312b,Wld.refs,Wld.arrs,c312b3,m4,ht4,ee]
     refine tail _ ?_
     simp[head312e,Wld.refs,Wld.arrs,ee,List.range,List.range.loop]
    ·omega
   ·simp[head312b,Wld.refs,Wld.arrs,ee,List.range,List.range.loop]
  ·omega
 ·simp[head312z,m0,ee]
set_option linter.unusedVariables false
structure InvW(G C:Int)(x:MW):Prop where
 ga:OkM G x.a
 gb:OkM G x.b
 ca:x.a.clock<=C
 cb:x.b.clock<=C
 ct:0<=x.land.time/\x.land.time<=C
 sa:x.a.seen<=1000000
 sb:x.b.seen<=1000000
 pa:∀ p,x.land.pa=some p->1<=p.1/\p.1<=1000000
 pb:∀ p,x.land.pb=some p->1<=p.1/\p.1<=1000000
 fl:∀ p∈x.fl,okF p
theorem InvW.outs{G C ra rb:Int}{x:MW}(hG:0<=G/\G<=8)(h:InvW G C x)(hC:C<=900000)(h1:1<=ra/\ra<=4)(h2:1<=rb/\rb<=4):(∀ p∈toldS x.land,okF p)/\(∀ p∈(tickS G true x.a ra).2,okF p)/\∀ p∈(tickS G false x.b rb).2,okF p:=by
 have ta:=Zdl true hG.1 h1.1 h.ga
 have tb:=Zdl false hG.1 h2.1 h.gb
 have ca:=h.ca
 have cb:=h.cb
 have sa:=h.sa
 have sb:=h.sb
 refine⟨fun p hp=>?_,fun p hp=>?_,fun p hp=>?_⟩
 ·unfold toldS at hp
  rcases List.mem_append.1 hp with hp|hp
  ·split at hp
   ·rename_i q hq
    rw[List.mem_singleton.1 hp];exact h.pa q hq
   ·cases hp
  ·split at hp
   ·rename_i q hq
    rw[List.mem_singleton.1 hp];exact h.pb q hq
   ·cases hp
 ·rcases Zcx hp with rfl|⟨g,g1,rfl⟩|rfl
  ·have:=ta.ok.clock;have:=ta.clock;simp only[YtfemiipgkhekiaaGreatDoor.okF];omega
  ·have:=ta.ok.give g g1;have:=ta.clock;simp only[YtfemiipgkhekiaaGreatDoor.okF];omega
  ·have:=ta.ok.seen;have:=ta.seen;simp only[YtfemiipgkhekiaaGreatDoor.okF];omega
 ·rcases Zcx hp with rfl|⟨g,g1,rfl⟩|rfl
  ·have:=tb.ok.clock;have:=tb.clock;simp only[YtfemiipgkhekiaaGreatDoor.okF];omega
  ·have:=tb.ok.give g g1;have:=tb.clock;simp only[YtfemiipgkhekiaaGreatDoor.okF];omega
  ·have:=tb.ok.seen;have:=tb.seen;simp only[YtfemiipgkhekiaaGreatDoor.okF];omega
theorem InvW.tick{G C ra rb:Int}{x:MW}(hG:0<=G/\G<=8)(h:InvW G C x)(hC:C<=900000)(h1:1<=ra/\ra<=4)(h2:1<=rb/\rb<=4):InvW G (C+4) (tickMW G ra rb x):=by
 have ta:=Zdl true hG.1 h1.1 h.ga
 have tb:=Zdl false hG.1 h2.1 h.gb
 obtain⟨o1,o2,o3⟩:=h.outs hG hC h1 h2
 have ca:=h.ca
 have cb:=h.cb
 have ct:=h.ct
 refine⟨ta.ok,tb.ok,by show (tickS G true x.a ra).1.clock<=C+4;rw[ta.clock];omega,by show (tickS G false x.b rb).1.clock<=C+4;rw[tb.clock];omega,by simp only[tickMW];omega,by show (tickS G true x.a ra).1.seen<=1000000;rw[ta.seen];exact h.sa,by show (tickS G false x.b rb).1.seen<=1000000;rw[tb.seen];exact h.sb,h.pa,h.pb,fun p hp=>?_⟩
 rcases Zbn _ _ p hp with hp|hp
 ·rcases Zbn _ _ p hp with hp|hp
  ·rcases Zbn _ _ p hp with hp|hp
   ·exact h.fl p hp
   ·exact o1 p hp
  ·exact o2 p hp
 ·exact o3 p hp
theorem Zjz {m:MS} {me:Bool} {p:PK} (hm:m.seen<=1000000) (hp:okF p):(takeS me m p).seen<=1000000:=by
  unfold takeS
  split
  · cases p with
    | told a s w => dsimp only;split
                    · exact hp.2
                    · exact hm
    | given a t => dsimp only;split<;>exact hm
    | got a t => dsimp only;split
                 · split
                   · split<;>exact hm
                   · exact hm
                 · exact hm
    | asked a t => exact hm
    | back a t => exact hm
    | here a t => exact hm
  · exact hm
theorem Zrg(l:LS)(p:PK):(landS l p).1.time=l.time:=by
 unfold landS
 repeat' split
 all_goals rfl
theorem InvW.bring{G C:Int}{x:MW}(h:InvW G C x)(k:Nat):InvW G C (bringS x k):=by
 unfold bringS
 split
 ·exact h
 ·rename_i p hk
  have hp:=h.fl p (List.mem_of_getElem? hk)
  have hs:∀ a s w,p=.told a s w->0<=s:=fun a s w e=>by subst e;have:=hp.1;omega
  split
  ·refine⟨Ziz h.ga hs,Ziz h.gb hs,?_,?_,h.ct,Zjz h.sa hp,Zjz h.sb hp,h.pa,h.pb,fun q hq=>h.fl q (Zgp hq)⟩
   ·simp only[Zda.1];exact h.ca
   ·simp only[Zda.1];exact h.cb
  ·refine⟨h.ga,h.gb,h.ca,h.cb,?_,h.sa,h.sb,?_,?_,fun q hq=>?_⟩
   ·simp only[Zrg];exact h.ct
   ·simp only[(Zl6 x.land p).1];exact h.pa
   ·simp only[(Zl6 x.land p).2];exact h.pb
   ·rcases Zbn _ _ q hq with hq|hq
    ·exact h.fl q (Zgp hq)
    ·exact Ztj hp hq
theorem InvW.brings{G C:Int}:∀ (n:Nat) {x:MW},InvW G C x->InvW G C (bringsS n x)
 | 0,_,h=>h
 | n+1,_,h=>InvW.brings n (h.bring 0)
theorem Zja{G C:Int}(hG:0<=G/\G<=8):∀ (n:Nat) {x:MW},WIs (x.v G)->InvW G C x->bringsW n (x.v G)=(bringsS n x).v G/\WIs ((bringsS n x).v G)
 | 0,x,hw,h=>⟨rfl,hw⟩
 | n+1,x,hw,h=>by
  have e:=Zlk (k:=0) hG hw h.fl
  have hw':=hw.bring 0
  rw[e]at hw'
  simp only[bringsW,bringsS,e]
  exact Zja hG n hw' (h.bring 0)
theorem Zuu{G C ra rb:Int}{x:MW}(hG:0<=G/\G<=8)(hC:C<=900000)(hw:WIs (x.v G))(h:InvW G C x)(h1:1<=ra/\ra<=4)(h2:1<=rb/\rb<=4):roundW (x.v G) [ra,rb]=(roundS G ra rb x).v G/\WIs ((roundS G ra rb x).v G)/\InvW G (C+4) (roundS G ra rb x):=by
 have ca:=h.ca
 have cb:=h.cb
 have ct:=h.ct
 have e0:=YtfemiipgkhekiaaGreatDoor.tick_v hG hw h1 h2 h.ga h.gb (by omega) (by omega) (by omega) (h.outs hG hC h1 h2)
 have w0:=hw.tick [ra,rb]
 rw[e0]at w0
 have i0:=h.tick hG hC h1 h2
 have hl:∀ y:MW,(y.v G).flight.length=y.fl.length:=fun y=>by simp[MW.v]
 obtain⟨e1,w1⟩:=Zja hG (tickMW G ra rb x).fl.length w0 i0
 obtain⟨e2,w2⟩:=Zja hG (bringsS (tickMW G ra rb x).fl.length (tickMW G ra rb x)).fl.length w1 (i0.brings _)
 simp only[roundW,roundS,e0,hl,e1,e2]
 exact⟨trivial,w2,(i0.brings _).brings _⟩
theorem Zm9{G ra rb:Int}(hG:0<=G/\G<=8)(h1:1<=ra/\ra<=4)(h2:1<=rb/\rb<=4):∀ (n:Nat) {C:Int} {x:MW},C+4*n<=900000->WIs (x.v G)->InvW G C x->roundsW [ra,rb] n (x.v G)=(roundsS G ra rb n x).v G/\WIs ((roundsS G ra rb n x).v G)
 | 0,C,x,_,hw,h=>⟨rfl,hw⟩
 | n+1,C,x,hC,hw,h=>by
  obtain⟨e,w,i⟩:=Zuu hG (by push_cast at hC;omega) hw h h1 h2
  simp only[roundsW,roundsS,e]
  exact Zm9 hG h1 h2 n (C:=C+4) (by push_cast at hC;omega) w i
/-! ### The start -/
def newS2:MW:=⟨⟨0,none,none,none⟩,⟨true,0,false,0,false,none,none,none⟩,⟨true,0,false,0,false,none,none,none⟩,[]⟩
theorem Zvq(G:Int):newWorld [⟨#[97]⟩,⟨#[98]⟩]=newS2.v G:=by
 have h:namesOk [⟨#[97]⟩,⟨#[98]⟩]=true:=by kernel_rfl
 unfold newWorld
 rw[if_pos h]
 rfl
theorem Ztq(G:Int):WIs (newS2.v G):=by
 have hok:worldOk (newS2.v G)=true:=by kernel_rfl
 obtain⟨h1,⟨h2,h3⟩,h4,h5,h6⟩:=(Zgt _).1 hok
 refine⟨h1,h2,h3,h4,h5,h6,fun s hs=>(by simp[newS2,MW.v]at hs),fun m hm=>?_,fun p hp=>(by simp[newS2,MW.v,LS.l]at hp),fun s hs=>(by simp[newS2,MW.v]at hs)⟩
 have hm':m=(⟨true,0,false,0,false,none,none,none⟩:MS).m G true\/m=(⟨true,0,false,0,false,none,none,none⟩:MS).m G false:=by
  simpa [newS2,MW.v] using hm
 rcases hm' with rfl|rfl<;>exact⟨fun _ h=>by simp[MS.m,wantsW]at h,fun _ h=>by simp[MS.m]at h,fun _ h=>by simp[MS.m]at h,fun _ h=>by simp[MS.m]at h⟩
theorem Zqy(G:Int):InvW G 0 startS:=by
 have ok:OkM G ⟨true,0,false,0,false,none,none,none⟩:=⟨Int.le_refl _,Int.le_refl _,fun e=>(by cases e),fun e=>(by cases e),fun r e=>(by cases e),fun k e=>(by cases e),fun k e=>(by cases e),.inl rfl,fun e=>(by cases e)⟩
 exact⟨ok,ok,Int.le_refl _,Int.le_refl _,⟨Int.le_refl _,Int.le_refl _⟩,by simp[startS],by simp[startS],fun p e=>(by simp only[startS]at e;obtain rfl:=Option.some.inj e;simp),fun p e=>(by simp[startS]at e),fun p hp=>(by simp[startS]at hp)⟩
theorem law324(bs:List Int)(p:Int)(hb:Code bs)(h0:0<=p)(hp:p<=100000000000):∃ rs:List Int,F 324 [.ptr 0 0 0] [rdBox bs p]=some (.sl .imm 1 (rs.map rowI),[some (rdBox bs (p+1))])/\rs.length<=3:=by
 obtain⟨a1,a2,a3⟩:=law89 bs p 7 hb h0 (by omega) (by omega)
 have a4:=a3 (by omega)
 obtain⟨k,hk,hk7⟩:=Zbe (n:=7) a2 a4
 rw[hk]at a1
 simp only[rdBox]at a1
 rcases k with _|_|_|_|_|_|_|k
 ·exact⟨[],Zah fn324 rfl (by simp[c324,rdBox,a1,rowI,AV.frz]),by simp⟩
 ·exact⟨[1,4],Zah fn324 rfl (by simp[c324,rdBox,a1,rowI,AV.frz]),by simp⟩
 ·exact⟨[4,1],Zah fn324 rfl (by simp[c324,rdBox,a1,rowI,AV.frz]),by simp⟩
 ·exact⟨[2,3,1],Zah fn324 rfl (by simp[c324,rdBox,a1,rowI,AV.frz]),by simp⟩
 ·exact⟨[1,1,1],Zah fn324 rfl (by simp[c324,rdBox,a1,rowI,AV.frz]),by simp⟩
 ·exact⟨[4,4,4],Zah fn324 rfl (by simp[c324,rdBox,a1,rowI,AV.frz]),by simp⟩
 ·exact⟨[0,5],Zah fn324 rfl (by simp[c324,rdBox,a1,rowI,AV.frz]),by simp⟩
 ·omega
structure Event.tame(e:Event):Prop where
 kind:1<=e.kind/\e.kind<=7
 a:0<=e.a/\e.a<=13
 b:0<=e.b/\e.b<=1
 nwants:e.wants.length<=4
 wants:∀ w∈e.wants,Want.tame w
 rates:e.rates.length<=3
def Event.cm(md:Md)(e:Event):List AV:=[.int .i64 e.kind,.int .i64 e.a,.int .i64 e.b,.sl .own 7 (e.wants.map Want.c),.sl md 1 (e.rates.map rowI)]
def okMd(md:Md)(k:Int):Prop:=md=.own\/(md=.imm/\k=1)
theorem law325(bs:List Int)(p:Int)(w:Wld)(mm:Md)(hb:Code bs)(h0:0<=p)(hp:p<=900000000):Ends (F 325 [.ptr 0 0 0,.agg (w.c .bor mm)] [rdBox bs p]) (Drew bs p 40 fun x=>∃ e:Event,∃ md:Md,x=.agg (e.cm md)/\okMd md e.kind/\e.tame):=by
 refine Zm5 fn325 rfl ?_
 obtain⟨a1,a2,a3⟩:=law89 bs p 40 hb h0 (by omega) (by omega)
 obtain⟨b1,b2,b3⟩:=law89 bs (p+1) 14 hb (by omega) (by omega) (by omega)
 obtain⟨c1,c2,c3⟩:=law89 bs (p+2) 2 hb (by omega) (by omega) (by omega)
 obtain⟨d1,d2,d3⟩:=law89 bs (p+3) 3 hb (by omega) (by omega) (by omega)
 obtain⟨e1,e2,e3⟩:=law89 bs (p+4) 2 hb (by omega) (by omega) (by omega)
 obtain⟨rs,f1,f2⟩:=law324 bs (p+3) hb (by omega) (by omega)
 obtain⟨_,g1,x,q,rfl,g2,g3,ws,rfl,g4,g5⟩:=law145 bs (p+4) hb (by omega) (by omega)
 have b4:=b3 (by omega)
 have d4:=d3 (by omega)
 have e4:=e3 (by omega)
 rw[show p+1+1=p+2 by omega]at b1
 rw[show p+2+1=p+3 by omega]at c1
 rw[show p+3+1=p+4 by omega]at d1 f1
 rw[show p+4+1=p+5 by omega]at e1
 have ei:(fun n:Int=>[AV.int .i64 n])=rowI:=rfl
 simp only[rdBox]at a1 b1 c1 d1 e1 f1 g1
 have hQ:∀ (p':Int) (e:Event) (md:Md),p<=p'->p'<=p+40->okMd md e.kind->e.tame->Drew bs p 40 (fun x=>∃ e:Event,∃ md:Md,x=.agg (e.cm md)/\okMd md e.kind/\e.tame) (.agg (e.cm md),[some (rdBox bs p')]):=fun p' e md h1 h2 hm h3=>⟨_,p',rfl,h1,h2,e,md,rfl,hm,h3⟩
 obtain⟨K,hK⟩:∃ K,pickV bs p 40=K:=⟨_,rfl⟩
 obtain⟨A,hA⟩:∃ A,(if pickV bs (p+2) 2=0 then 0 else pickV bs (p+1) 14)=A:=⟨_,rfl⟩
 have hA0:0<=A/\A<=13:=by split at hA<;>omega
 rw[hK]at a1
 by_cases z:pickV bs (p+2) 2=0
 ·rw[if_pos z]at hA
  subst hA
  by_cases k1:K<14
  ·have k:=hQ (p+4) ⟨1,0,0,[],rs⟩ .imm (by omega) (by omega) (.inr ⟨rfl,rfl⟩) ⟨by simp,by simp,by simp,by simp,by simp,f2⟩
   simp only[rdBox,Event.cm,List.map_nil,ei]at k
   simp[c325,rdBox,Wld.c,a1,b1,c1,f1,z,k1]
   exact k
  by_cases k2:K<27
  ·have k:=hQ (p+3) ⟨2,0,0,[],[]⟩ .own (by omega) (by omega) (.inl rfl) ⟨by simp,hA0,by simp,by simp,by simp,by simp⟩
   simp only[rdBox,Event.cm,List.map_nil]at k
   simp[c325,rdBox,Wld.c,a1,b1,c1,z,k1,k2]
   exact k
  by_cases k3:K<29
  ·have k:=hQ (p+3) ⟨3,0,0,[],[]⟩ .own (by omega) (by omega) (.inl rfl) ⟨by simp,hA0,by simp,by simp,by simp,by simp⟩
   simp only[rdBox,Event.cm,List.map_nil]at k
   simp[c325,rdBox,Wld.c,a1,b1,c1,z,k1,k2,k3]
   exact k
  by_cases k4:K<31
  ·have k:=hQ (p+3) ⟨4,0,0,[],[]⟩ .own (by omega) (by omega) (.inl rfl) ⟨by simp,hA0,by simp,by simp,by simp,by simp⟩
   simp only[rdBox,Event.cm,List.map_nil]at k
   simp[c325,rdBox,Wld.c,a1,b1,c1,z,k1,k2,k3,k4]
   exact k
  by_cases k5:K=31
  ·have k:=hQ (p+5) ⟨5,pickV bs (p+3) 3,pickV bs (p+4) 2,[],[]⟩ .own (by omega) (by omega) (.inl rfl) ⟨by simp,by simp only;omega,by simp only;omega,by simp,by simp,by simp⟩
   simp only[rdBox,Event.cm,List.map_nil]at k
   simp[c325,rdBox,Wld.c,a1,b1,c1,d1,e1,z,k1,k2,k3,k4,k5]
   exact k
  by_cases k6:K<35
  ·have k:=hQ (p+4) ⟨6,pickV bs (p+3) 3,0,[],[]⟩ .own (by omega) (by omega) (.inl rfl) ⟨by simp,by simp only;omega,by simp,by simp,by simp,by simp⟩
   simp only[rdBox,Event.cm,List.map_nil]at k
   simp[c325,rdBox,Wld.c,a1,b1,c1,d1,z,k1,k2,k3,k4,k5,k6]
   exact k
  by_cases k7:K=35
  ·have k:=hQ (p+4) ⟨7,pickV bs (p+3) 3,0,[],[]⟩ .own (by omega) (by omega) (.inl rfl) ⟨by simp,by simp only;omega,by simp,by simp,by simp,by simp⟩
   simp only[rdBox,Event.cm,List.map_nil]at k
   simp[c325,rdBox,Wld.c,a1,b1,c1,d1,z,k1,k2,k3,k4,k5,k6,k7]
   exact k
  have k:=hQ q ⟨7,pickV bs (p+3) 3,0,ws,[]⟩ .own (by omega) (by omega) (.inl rfl) ⟨by simp,by simp only;omega,by simp,g4,g5,by simp⟩
  simp only[rdBox,Event.cm,List.map_nil]at k
  simp[c325,rdBox,Wld.c,a1,b1,c1,d1,g1,z,k1,k2,k3,k4,k5,k6,k7]
  exact k
 ·rw[if_neg z]at hA
  by_cases k1:K<14
  ·have k:=hQ (p+4) ⟨1,0,0,[],rs⟩ .imm (by omega) (by omega) (.inr ⟨rfl,rfl⟩) ⟨by simp,by simp,by simp,by simp,by simp,f2⟩
   simp only[rdBox,Event.cm,List.map_nil,ei]at k
   simp[c325,rdBox,Wld.c,a1,b1,c1,f1,z,k1]
   exact k
  by_cases k2:K<27
  ·have k:=hQ (p+3) ⟨2,A,0,[],[]⟩ .own (by omega) (by omega) (.inl rfl) ⟨by simp,hA0,by simp,by simp,by simp,by simp⟩
   simp only[rdBox,Event.cm,List.map_nil]at k
   simp[c325,rdBox,Wld.c,a1,b1,c1,z,k1,k2,hA]
   exact k
  by_cases k3:K<29
  ·have k:=hQ (p+3) ⟨3,A,0,[],[]⟩ .own (by omega) (by omega) (.inl rfl) ⟨by simp,hA0,by simp,by simp,by simp,by simp⟩
   simp only[rdBox,Event.cm,List.map_nil]at k
   simp[c325,rdBox,Wld.c,a1,b1,c1,z,k1,k2,k3,hA]
   exact k
  by_cases k4:K<31
  ·have k:=hQ (p+3) ⟨4,A,0,[],[]⟩ .own (by omega) (by omega) (.inl rfl) ⟨by simp,hA0,by simp,by simp,by simp,by simp⟩
   simp only[rdBox,Event.cm,List.map_nil]at k
   simp[c325,rdBox,Wld.c,a1,b1,c1,z,k1,k2,k3,k4,hA]
   exact k
  by_cases k5:K=31
  ·have k:=hQ (p+5) ⟨5,pickV bs (p+3) 3,pickV bs (p+4) 2,[],[]⟩ .own (by omega) (by omega) (.inl rfl) ⟨by simp,by simp only;omega,by simp only;omega,by simp,by simp,by simp⟩
   simp only[rdBox,Event.cm,List.map_nil]at k
   simp[c325,rdBox,Wld.c,a1,b1,c1,d1,e1,z,k1,k2,k3,k4,k5]
   exact k
  by_cases k6:K<35
  ·have k:=hQ (p+4) ⟨6,pickV bs (p+3) 3,0,[],[]⟩ .own (by omega) (by omega) (.inl rfl) ⟨by simp,by simp only;omega,by simp,by simp,by simp,by simp⟩
   simp only[rdBox,Event.cm,List.map_nil]at k
   simp[c325,rdBox,Wld.c,a1,b1,c1,d1,z,k1,k2,k3,k4,k5,k6]
   exact k
  by_cases k7:K=35
  ·have k:=hQ (p+4) ⟨7,pickV bs (p+3) 3,0,[],[]⟩ .own (by omega) (by omega) (.inl rfl) ⟨by simp,by simp only;omega,by simp,by simp,by simp,by simp⟩
   simp only[rdBox,Event.cm,List.map_nil]at k
   simp[c325,rdBox,Wld.c,a1,b1,c1,d1,z,k1,k2,k3,k4,k5,k6,k7]
   exact k
  have k:=hQ q ⟨7,pickV bs (p+3) 3,0,ws,[]⟩ .own (by omega) (by omega) (.inl rfl) ⟨by simp,by simp only;omega,by simp,g4,g5,by simp⟩
  simp only[rdBox,Event.cm,List.map_nil]at k
  simp[c325,rdBox,Wld.c,a1,b1,c1,d1,g1,z,k1,k2,k3,k4,k5,k6,k7]
  exact k
structure okE(x:Event×Md):Prop where
 md:okMd x.2 x.1.kind
 kind:1<=x.1.kind/\x.1.kind<=7
 a:0<=x.1.a/\x.1.a<=13
 nwants:x.1.wants.length<=4
 rates:x.1.rates.length<=3
 wants:∀ w∈x.1.wants,inS w.hold=true
def rowsE(evs:List (Event×Md)):List (List AV):=evs.map fun x=>x.1.cm x.2
theorem Zaq(evs:List (Event×Md)):(rowsE evs).length=evs.length:=by simp[rowsE]
def head315a(bs:List Int)(q:Int)(evs:List (Event×Md))(n:Nat):St:=hd [(3,.ptr 0 0 0),(4,.ref 1),(5,.int .i64 n)] [rdBox bs q,.arr 5 (rowsE evs)] 0
def head315b(bs:List Int)(q:Int)(evs:List (Event×Md))(n:Nat)(rs:List Int)(m:Nat):St:=hd [(3,.ptr 0 0 0),(4,.ref 1),(5,.int .i64 n),(8,.sl .imm 1 (rs.map rowI)),(9,.int .i64 m)] [rdBox bs q,.arr 5 (rowsE evs)] 0
def head315c(bs:List Int)(q:Int)(evs:List (Event×Md))(n:Nat)(rs:List Int)(m k:Nat):St:=hd [(3,.ptr 0 0 0),(4,.ref 1),(5,.int .i64 n),(8,.sl .imm 1 (rs.map rowI)),(9,.int .i64 m),(10,.int .i64 k)] [rdBox bs q,.arr 5 (rowsE evs)] 0
def Evs(r:AV×List (Option AO)):Prop:=∃ evs:List (Event×Md),r=(.sl .own 5 (rowsE evs),[])/\evs.length<=100000/\∀ x∈evs,okE x
theorem Zrx{evs:List (Event×Md)}{x:Event×Md}(h:∀ y∈evs,okE y)(hx:okE x):∀ y∈evs++[x],okE y:=fun y hy=>by
 rcases List.mem_append.1 hy with hy|hy
 ·exact h y hy
 ·rw[List.mem_singleton.1 hy];exact hx
theorem capE{n:Nat}(h:n<=40000):(n+1)*72<=140737488355328/\n+1<=140737488355328/\n*72<=140737488355328/\n<=140737488355328/\(n+1+2)*72<=140737488355328/\n+1+2<=140737488355328:=by omega
set_option maxHeartbeats 0 in
theorem law315(bs:List Int)(hl:bs.length<=1000000000)(h:∀ b∈bs,0<=b/\b<=255):Ends (F 315 [.sl .imm 1 (bs.map rowB)] []) Evs:=by
 refine Zm5 fn315 rfl ?_
 have hb:=Code.take h
 have w0:=law91 bs hl
 generalize bs.take 2000=cs at hb w0
 obtain⟨a1,a2,a3⟩:=law89 cs 0 60 hb (by omega) (by omega) (by omega)
 have a4:=a3 (by omega)
 obtain⟨k0,hk0,hk60⟩:=Zbe (n:=60) a2 a4
 rw[hk0]at a1
 have hw0:IntKind.i64.wrap (10+(k0:Int))=((k0+10:Nat):Int):=by rw[i64w (by omega) (by omega)];omega
 obtain⟨n0,hn0⟩:∃ n0:Nat,k0+10=n0:=⟨_,rfl⟩
 rw[hn0]at hw0
 simp only[rdBox]at a1
 simp[c315,w0,a1,hw0]
 refine Zem (σ:=Nat×Int×List (Event×Md)) (fun z=>head315a cs z.2.1 z.2.2 z.1) (fun z=>z.1<=n0/\1<=z.2.1/\z.2.1<=1+800*((n0:Int)-z.1)/\(z.2.2.length:Int)<=400*((n0:Int)-z.1)/\∀ x∈z.2.2,okE x) (fun z=>z.1) (fun z Y hinv hY=>?_) (n0,1,[]) ?_ ⟨Nat.le_refl _,by simp,by simp only;omega,by simp,by simp⟩ (by unfold big;simp only;omega)
 ·obtain⟨n,q,evs⟩:=z
  obtain⟨g1,g2,g3,g4,g5⟩:=hinv
  simp only at g1 g2 g3 g4 g5 hY ⊢
  rcases n with _|n
  ·simp[head315a,c315b2]
   exact⟨evs,by simp,by omega,g5⟩
  ·have hnI:(0:Int)<(n:Int)+1:=by omega
   have hwn:IntKind.i64.wrap (n:Int)=(n:Int):=i64w (by omega) (by omega)
   obtain⟨_,c1,x,q1,rfl,c2,c3,e,md,rfl,hmd,he⟩:=law325 cs q ⟨⟨0,[],[]⟩,[],[]⟩ .own hb (by omega) (by omega)
   obtain⟨d1,d2,d3⟩:=law89 cs q1 8 hb (by omega) (by omega) (by omega)
   have hlen:evs.length<=40000:=by omega
   obtain⟨b1,b2,b3,b4,b5,b6⟩:=capE hlen
   have hE1:okE (e,md):=⟨hmd,he.kind,he.a,he.nwants,he.rates,fun w hw=>(he.wants w hw).hold⟩
   have hs1:=Zrx g5 hE1
   simp only[Wld.c,Event.cm]at c1
   simp only[rdBox]at c1 d1
   simp only[List.map_nil]at c1
   obtain⟨kk1,kk2,kk3⟩:=law89 cs (q1+1) 2 hb (by omega) (by omega) (by omega)
   have kk4:=kk3 (by omega)
   obtain⟨f1,f2,f3⟩:=law89 cs (q1+2) 3 hb (by omega) (by omega) (by omega)
   have f4:=f3 (by omega)
   obtain⟨t1,t2⟩:=law140' (pickV cs (q1+2) 3) f2 (by omega)
   have t3:(⟨#[99]⟩:T).size+(dec (pickV cs (q1+2) 3).toNat).size<=9223372036854775807:=by
    have:(⟨#[99]⟩:T).size=1:=rfl
    omega
   obtain⟨cc,hcc⟩:∃ cc:T,cc=(⟨#[99]⟩:T)++dec (pickV cs (q1+2) 3).toNat:=⟨_,rfl⟩
   obtain⟨dw,i1⟩:∃ dw:Want,F 87 [.ptr 0 0 0,.str cc] [rdBox cs (q1+3)]=some (.agg dw.c,[some (rdBox cs (q1+9))]):=⟨drawWant cs (q1+3) cc,by rw[show q1+9=q1+3+6 by omega];exact law87 cs (q1+3) cc hb (by omega) (by omega)⟩
   subst hcc
   obtain⟨rs,j1,j2⟩:=law324 cs (q1+9) hb (by omega) (by omega)
   obtain⟨m1,m2,m3⟩:=law89 cs (q1+10) 30 hb (by omega) (by omega) (by omega)
   have m4:=m3 (by omega)
   obtain⟨m0,hm0,hm30⟩:=Zbe (n:=30) m2 m4
   rw[hm0]at m1
   obtain⟨K,hK⟩:∃ K,pickV cs (q1+1) 2=K:=⟨_,rfl⟩
   rw[hK]at kk1 kk2 kk4
   have hwK:IntKind.i64.wrap (1-K)=1-K:=i64w (by omega) (by omega)
   rw[show q1+1+1=q1+2 by omega]at kk1
   rw[show q1+2+1=q1+3 by omega]at f1
   rw[show q1+9+1=q1+10 by omega]at j1
   rw[show q1+10+1=q1+11 by omega]at m1
   simp only[rdBox,Want.c]at kk1 f1 i1 j1 m1
   have hm0':m0<=29:=by omega
   have hq1:1<=q1/\q1<=60000:=by clear hK kk1 kk2 kk4 hwK b1 b2 b3 b4 b5 b6;omega
   have inner:∀ (ev1:List (Event×Md)) (s0:St),ev1.length<=evs.length+3->(∀ x∈ev1,okE x)->s0.norm [3,4,5,8,9]=head315b cs (q1+11) ev1 (n+1) rs m0->Ends (fin [.tmp 2] 0 (X F [.code (.loop [3,4,5,8,9] c315b1),.blk 2,.blk 1,.code (.region [⟨some 19,.mov (.tmp 5),none⟩,⟨some 20,.bin .sub (.tmp 19) (.const (.int .i64 1)),none⟩,⟨some 5,.mov (.tmp 20),none⟩] [3,4,5]),.back Y,.blk 0,.code (.seq (.region [⟨some 78,.mov (.tmp 4),none⟩,⟨some 2,.mov (.tmp 78),none⟩] [2]) .ret)] (.normal,s0))) Evs:=fun ev1 s0 hl1 ho1 hs0=>by
    clear c1 d1 kk1 f1 i1 j1 m1 t1 t3 hwK b1 b2 b3 b4 b5 b6 hs1 hE1 g5
    refine Zem (σ:=Nat×Int×List (Event×Md)) (fun z=>head315b cs z.2.1 z.2.2 (n+1) rs z.1) (fun z=>z.1<=m0/\q1<=z.2.1/\z.2.1+20*z.1<=q1+11+20*m0/\z.2.2.length+9*z.1<=evs.length+3+9*m0/\∀ x∈z.2.2,okE x) (fun z=>z.1) (fun z Y1 hinv1 hY1=>?_) (m0,q1+11,ev1) hs0 ⟨Nat.le_refl _,by simp only;omega,by simp only;omega,by simp only;omega,ho1⟩ (by unfold big;simp only;omega)
    obtain⟨m,r,ev⟩:=z
    obtain⟨u1,u2,u3,u4,u5⟩:=hinv1
    simp only at u1 u2 u3 u4 u5 hY1 ⊢
    rcases m with _|m
    ·simp[head315b,rdBox,c315b1]
     refine hY (n,r,ev) _ ⟨by omega,by simp only;omega,by simp only;omega,by simp only;omega,u5⟩ (by simp only;omega) ?_
     simp[head315a,rdBox,hwn]
    ·have hmI:(0:Int)<(m:Int)+1:=by omega
     have hwm:IntKind.i64.wrap (m:Int)=(m:Int):=i64w (by omega) (by omega)
     have hev:ev.length<=40000:=by omega
     obtain⟨b1,b2,b3,b4,b5,b6⟩:=capE hev
     obtain⟨p1,p2,p3⟩:=law89 cs r 8 hb (by omega) (by omega) (by omega)
     have p4:=p3 (by omega)
     obtain⟨k1,hk1,hk8⟩:=Zbe (n:=8) p2 p4
     rw[hk1]at p1
     simp only[rdBox]at p1
     have ho2:=Zrx u5 (x:=(⟨1,0,0,[],rs⟩,.imm)) ⟨.inr ⟨rfl,rfl⟩,by simp,by simp,by simp,by simpa using j2,by simp⟩
     simp[head315b,rdBox,c315b1,hmI,p1,takeRows,Zaq,b1,b2,b3,b4]
     refine Zem (σ:=Nat×Int×List (Event×Md)) (fun z=>head315c cs z.2.1 z.2.2 (n+1) rs (m+1) z.1) (fun z=>z.1<=k1/\q1<=z.2.1/\z.2.1+2*z.1+20*m+4<=q1+11+20*m0/\z.2.2.length+z.1+9*m+1<=evs.length+3+9*m0/\∀ x∈z.2.2,okE x) (fun z=>z.1) (fun z Y2 hinv2 hY2=>?_) (k1,r+1,ev++[(⟨1,0,0,[],rs⟩,.imm)]) ?_ ⟨Nat.le_refl _,by simp only;omega,by simp only;omega,by simp only[List.length_append,List.length_singleton];omega,ho2⟩ (by unfold big;simp only;omega)
     ·obtain⟨k,a,el⟩:=z
      obtain⟨v1,v2,v3,v4,v5⟩:=hinv2
      simp only at v1 v2 v3 v4 v5 hY2 ⊢
      rcases k with _|k
      ·simp[head315c,rdBox,c315b0]
       refine hY1 (m,a,el) _ ⟨by omega,by simp only;omega,by simp only;omega,by simp only;omega,v5⟩ (by simp only;omega) ?_
       simp[head315b,rdBox,hwm]
      ·have hkI:(0:Int)<(k:Int)+1:=by omega
       have hwk:IntKind.i64.wrap (k:Int)=(k:Int):=i64w (by omega) (by omega)
       have hel:el.length<=40000:=by omega
       obtain⟨e1,e2,e3,e4,e5,e6⟩:=capE hel
       obtain⟨x1,x2,x3⟩:=law89 cs a 2 hb (by omega) (by omega) (by omega)
       have x4:=x3 (by omega)
       obtain⟨y1,y2,y3⟩:=law89 cs (a+1) 9 hb (by omega) (by omega) (by omega)
       have y4:=y3 (by omega)
       rw[show a+1+1=a+2 by omega]at y1
       obtain⟨ka,hka,hk2⟩:=Zbe (n:=2) x2 x4
       obtain⟨kb,hkb,hk9⟩:=Zbe (n:=9) y2 y4
       rw[hka]at x1
       rw[hkb]at y1
       have hprod:ka*kb<=8:=by
        have h1:ka=0\/ka=1:=by omega
        rcases h1 with rfl|rfl<;>omega
       have hwp:IntKind.i64.wrap ((ka:Int)*(kb:Int))=((ka*kb:Nat):Int):=by
        rw[<- Int.natCast_mul];exact i64w (by omega) (by omega)
       have ho3:=Zrx v5 (x:=(⟨2,((ka*kb:Nat):Int),0,[],[]⟩,.own)) ⟨.inl rfl,by simp,by simp only;omega,by simp,by simp,by simp⟩
       have hn:∀ st,st.norm [3,4,5,8,9,10]=head315c cs (a+2) (el++[(⟨2,((ka*kb:Nat):Int),0,[],[]⟩,.own)]) (n+1) rs (m+1) k->Ends (fin [.tmp 2] 0 (Y2 st)) Evs:=fun st hst=>hY2 (k,a+2,el++[(⟨2,((ka*kb:Nat):Int),0,[],[]⟩,.own)]) st ⟨by omega,by simp only;omega,by simp only;omega,by simp only[List.length_append,List.length_singleton];omega,ho3⟩ (by simp only;omega) hst
       generalize ka*kb=kc at hwp hn
       simp only[rdBox]at x1 y1
       simp[head315c,rdBox,c315b0,hkI,x1,y1,hwp,takeRows,Zaq,e1,e2,e3,e4]
       refine hn _ ?_
       simp[head315c,rdBox,hwk,rowsE,Event.cm]
     ·simp[head315c,rdBox,rowsE,Event.cm]
   have hputs:∀ md',okMd md' e.kind->∀ x∈evs++[(e,md')]++[((⟨7,1-K,0,[],[]⟩:Event),Md.own),(⟨7,K,0,[⟨dw.copy,dw.version,⟨#[118,111,108]⟩,dw.pull,dw.start,0,dw.grace⟩],[]⟩,.own)],okE x:=fun md' hmd' x hx=>by
    rcases List.mem_append.1 hx with hx|hx
    ·exact Zrx g5 ⟨hmd',he.kind,he.a,he.nwants,he.rates,fun w hw=>(he.wants w hw).hold⟩ x hx
    ·rcases List.mem_cons.1 hx with rfl|hx
     ·exact⟨.inl rfl,by simp,⟨by simp only;omega,by simp only;omega⟩,by simp,by simp,by simp⟩
     ·rw[List.mem_singleton.1 hx]
      exact⟨.inl rfl,by simp,⟨by simp only;omega,by simp only;omega⟩,by simp,by simp,fun w hw=>by simp only[List.mem_singleton]at hw;rw[hw];exact Zhb (by simp)⟩
   rcases hmd with rfl|⟨rfl,hk1⟩
   ·by_cases k8:pickV cs q1 8=0
    ·simp[head315a,rdBox,c315b2,hnI,c1,d1,k8,kk1,f1,t1,t3,i1,j1,m1,hwK,takeRows,Zaq,b1,b2,b3,b4,b5,b6]
     refine inner _ _ (by simp) (hputs .own (.inl rfl)) ?_
     simp[head315b,rdBox,rowsE,Event.cm,Want.c]
    ·simp[head315a,rdBox,c315b2,hnI,c1,d1,k8,takeRows,Zaq,b1,b2,b3,b4]
     refine hY (n,q1+1,evs++[(e,.own)]) _ ⟨by omega,by simp only;omega,by simp only;omega,by simp only[List.length_append,List.length_singleton];push_cast;omega,hs1⟩ (by simp only;omega) ?_
     simp[head315a,rdBox,hwn,rowsE,Event.cm]
   ·by_cases k8:pickV cs q1 8=0
    ·simp[head315a,rdBox,c315b2,hnI,c1,d1,k8,kk1,f1,t1,t3,i1,j1,m1,hwK,takeRows,Zaq,b1,b2,b3,b4,b5,b6]
     refine inner _ _ (by simp) (hputs .imm (.inr ⟨rfl,hk1⟩)) ?_
     simp[head315b,rdBox,rowsE,Event.cm,Want.c]
    ·simp[head315a,rdBox,c315b2,hnI,c1,d1,k8,takeRows,Zaq,b1,b2,b3,b4]
     refine hY (n,q1+1,evs++[(e,.imm)]) _ ⟨by omega,by simp only;omega,by simp only;omega,by simp only[List.length_append,List.length_singleton];push_cast;omega,hs1⟩ (by simp only;omega) ?_
     simp[head315a,rdBox,hwn,rowsE,Event.cm]
 ·simp[head315a,rdBox,rowsE]
def head316(bs:List Int)(ra rb:Int)(v:Wld)(evs:List (Event×Md))(i:Nat):St :=
 hd [(0,.sl .imm 1 (bs.map rowB)),(5,.ptr 0 0 0),(7,.ref 1),(8,.ref 2),(9,.int .i64 i)] ([.box (v.refs 3),.arr 1 [[.int .i64 ra],[.int .i64 rb]],.arr 5 (rowsE evs)]++v.arrs) 0
structure MovS(G C:Int)(x:MW):Prop where
 inv:InvS G C x
 is:WIs (x.v G)
 pa:x.land.pa=some (2,false)
 pb:x.land.pb=some (1,true)
set_option maxHeartbeats 0 in
theorem Zs2(bs cs:List Int)(hbs:ListWf Byte bs)(hcs:ListWf Byte cs):F 316 [.sl .imm 1 (bs.map rowB),.sl .imm 1 (cs.map rowB)] []=some (.bool true,[]):=by
 obtain⟨hlb,hbb⟩:=hbs
 obtain⟨hlc,hbc⟩:=hcs
 refine Zah fn316 rfl ?_
 by_cases hl:1048576<bs.length
 ·have hlI:(1048576:Int)<bs.length:=by omega
  simp[c316,hlI]
 have hlI:¬ (1048576:Int)<bs.length:=by omega
 by_cases hl2:1048576<cs.length
 ·have hlI2:(1048576:Int)<cs.length:=by omega
  simp[c316,hlI,hlI2]
 have hlI2:¬ (1048576:Int)<cs.length:=by omega
 obtain⟨G,hGe⟩:∃ G:Int,(bs.length:Int).tmod 9=G:=⟨_,rfl⟩
 obtain⟨a4,ha4⟩:∃ a4:Int,(bs.length:Int).tmod 4=a4:=⟨_,rfl⟩
 obtain⟨b4,hb4⟩:∃ b4:Int,(cs.length:Int).tmod 4=b4:=⟨_,rfl⟩
 obtain⟨par,hpar⟩:∃ par:Int,(bs.length:Int).tmod 2=par:=⟨_,rfl⟩
 have hG:0<=G/\G<=8:=by
  rw[Int.tmod_eq_emod_of_nonneg (by omega)]at hGe;omega
 have ha:0<=a4/\a4<=3:=by
  rw[Int.tmod_eq_emod_of_nonneg (by omega)]at ha4;omega
 have hb:0<=b4/\b4<=3:=by
  rw[Int.tmod_eq_emod_of_nonneg (by omega)]at hb4;omega
 have wa:IntKind.i64.wrap (1+a4)=1+a4:=i64w (by omega) (by omega)
 have wb:IntKind.i64.wrap (1+b4)=1+b4:=i64w (by omega) (by omega)
 obtain⟨ra,hra⟩:∃ ra:Int,1+a4=ra:=⟨_,rfl⟩
 obtain⟨rb,hrb⟩:∃ rb:Int,1+b4=rb:=⟨_,rfl⟩
 rw[hra]at wa
 rw[hrb]at wb
 have h1:1<=ra/\ra<=4:=by omega
 have h2:1<=rb/\rb<=4:=by omega
 have ee:(fun s:T=>[AV.str s])=rowT:=rfl
 have ei:(fun n:Int=>[AV.int .i64 n])=rowI:=rfl
 have hone:∀ y∈[oneW G],inS y.hold=true:=fun y hy=>by rw[List.mem_singleton.1 hy];exact Zhb (by simp[oneW,volT])
 -- the start
 have w50:=law50 [⟨#[97]⟩,⟨#[98]⟩] (by simp)
 rw[Zvq G]at w50
 have p1:doW (newS2.v G) ⟨7,0,0,[oneW G],[]⟩=startS.v G:=Zrh (a:=true) (w:=true) hG (Ztq G) (x:=newS2) ⟨fun p e=>(by simp only[putL,newS2,if_true]at e;obtain rfl:=Option.some.inj e;simp),fun p e=>(by simp[putL,newS2]at e),fun p q _ e'=>(by simp[putL,newS2]at e')⟩ (fun p e=>(by simp[newS2]at e)) (fun p e=>(by simp[newS2]at e))
 have d1:=do_v (Ztq G) ⟨7,0,0,[oneW G],[]⟩ (by simp) (by simp) p1
 have w1:WIs (startS.v G):=by rw[<- p1];exact (Ztq G).do' hone
 obtain⟨e8,w8⟩:=Zm9 hG h1 h2 8 (C:=0) (by omega) w1 (Zqy G)
 rw[Zvd G ra rb h1 h2]at e8 w8
 have l8:=law210 (startS.v G) .own 8 [ra,rb] w1.small (by have:=w1.fl;omega) (fun _=>w1)
 have em:mateCalm (startS.v G) 8 [ra,rb]=(readyS ra rb).v G:=by
  unfold mateCalm
  rw[w1.ok,if_pos rfl,show min (8:Int).toNat 1000=8 from rfl,e8]
 rw[em]at l8
 have s8:=law69 ((readyS ra rb).v G) .own w8.small
 rw[Ziy w8]at s8
 have p2:doW ((readyS ra rb).v G) ⟨7,0,0,[],[]⟩=({ readyS ra rb with land:=putL (readyS ra rb).land true false }:MW).v G:=Zrh (a:=true) (w:=false) hG w8 (x:=readyS ra rb) ⟨fun p e=>(by simp only[putL,readyS,if_true]at e;obtain rfl:=Option.some.inj e;simp),fun p e=>(by simp[putL,readyS]at e),fun p q _ e'=>(by simp[putL,readyS]at e')⟩ (fun p e=>(by simp only[readyS]at e;obtain rfl:=Option.some.inj e;simp)) (fun p e=>(by simp[readyS]at e))
 have d2:=do_v w8 ⟨7,0,0,[],[]⟩ (by simp) (by simp) p2
 have w9:WIs (({ readyS ra rb with land:=putL (readyS ra rb).land true false }:MW).v G):=by rw[<- p2];exact w8.do' (fun y hy=>by simp at hy)
 have p3:doW (({ readyS ra rb with land:=putL (readyS ra rb).land true false }:MW).v G) ⟨7,1,0,[oneW G],[]⟩=(movedS ra rb).v G:=Zrh (a:=false) (w:=true) hG w9 (x:={ readyS ra rb with land:=putL (readyS ra rb).land true false }) ⟨fun p e=>(by simp only[putL,readyS,if_true,Bool.false_eq_true,if_false]at e;obtain rfl:=Option.some.inj e;simp),fun p e=>(by simp only[putL,readyS,if_true,Bool.false_eq_true,if_false]at e;obtain rfl:=Option.some.inj e;simp),fun p q e e' k=>(by simp only[putL,readyS,if_true,Bool.false_eq_true,if_false]at e;obtain rfl:=Option.some.inj e;cases k)⟩ (fun p e=>(by simp only[putL,readyS,if_true]at e;obtain rfl:=Option.some.inj e;simp)) (fun p e=>(by simp[putL,readyS]at e))
 have d3:=do_v w9 ⟨7,1,0,[oneW G],[]⟩ (by simp) (by simp) p3
 have w10:WIs ((movedS ra rb).v G):=by rw[<- p3];exact w9.do' hone
 have start:MovS G 32 (movedS ra rb):=⟨Zqs G ra rb hG h1 h2,w10,rfl,rfl⟩
 obtain⟨_,w315,evs,rfl,hne,hev⟩:=law315 cs (by omega) (fun x hx=>hbc x hx)
 generalize newS2.v G=V0 at *
 generalize startS.v G=V1 at *
 generalize (readyS ra rb).v G=V2 at *
 generalize ({ readyS ra rb with land:=putL (readyS ra rb).land true false }:MW).v G=V3 at *
 obtain⟨y0,hy0⟩:∃ y0,movedS ra rb=y0:=⟨_,rfl⟩
 rw[hy0]at start d3
 clear p1 p2 p3 e8 em w8 w9 w10 w1 hy0
 have hri:∀ n:Int,rowI n=[.int .i64 n]:=fun _=>rfl
 have loop:∀ s0:St,s0.norm [0,5,7,8,9]=head316 bs ra rb (y0.v G) evs 0->fin [.tmp 4] 0 (X F [.code (.loop [0,5,7,8,9] c316b0),.blk 0,.code (.seq (.region [⟨some 98,.load (.tmp 5) 5 true .plain,none⟩,⟨some 99,.mov (.tmp 7),none⟩,⟨some 100,.call 312 [false,false] [.tmp 98,.tmp 99],none⟩,⟨some 4,.mov (.tmp 100),none⟩] [4]) .ret)] (.normal,s0))=some (.bool true,[]):=fun s0 hs0=>by
  refine Zay (σ:=Nat×MW) (fun z=>head316 bs ra rb (z.2.v G) evs z.1) (fun z=>z.1<=60/\MovS G (32+4*z.1) z.2) (fun z=>60-z.1) (fun _=>(AV.bool true,([]:List (Option AO)))) (fun z Y hinv hY=>?_) (0,y0) hs0 ⟨by simp,start⟩ (by unfold big;simp only;omega)
  obtain⟨i,x⟩:=z
  obtain⟨g1,g2⟩:=hinv
  simp only at g1 g2 hY ⊢
  have hw1:IntKind.i64.wrap ((i:Int)+1)=(i:Int)+1:=i64w (by omega) (by omega)
  have done:¬ (i<evs.length/\i<60)->fin [.tmp 4] 0 (X F (.code c316b0::.back Y::[.blk 0,.code (.seq (.region [⟨some 98,.load (.tmp 5) 5 true .plain,none⟩,⟨some 99,.mov (.tmp 7),none⟩,⟨some 100,.call 312 [false,false] [.tmp 98,.tmp 99],none⟩,⟨some 4,.mov (.tmp 100),none⟩] [4]) .ret)]) (.normal,head316 bs ra rb (x.v G) evs i))=some (.bool true,[]):=fun hn=>by
   have w312:=Zsc hG h1 h2 g2.is g2.inv (by omega) g2.pa g2.pb
   generalize x.v G=V at *
   simp only[Wld.c,ee,hri]at w312
   by_cases k1:i<evs.length
   ·have k2:¬ i<60:=fun k=>hn ⟨k1,k⟩
    have k1I:(i:Int)<(evs.length:Int):=by omega
    have k2I:¬ (i:Int)<60:=by omega
    simp[head316,Wld.refs,Wld.arrs,c316b0,Zaq,k1I,k2I,k1,k2,w312,ee]
   ·have k1I:¬ (i:Int)<(evs.length:Int):=by omega
    simp[head316,Wld.refs,Wld.arrs,c316b0,Zaq,k1I,k1,w312,ee]
  by_cases hlt:i<evs.length/\i<60
  ·obtain⟨k1,k2⟩:=hlt
   have k1I:(i:Int)<(evs.length:Int):=by omega
   have k2I:(i:Int)<60:=by omega
   obtain⟨em,hem⟩:∃ em,evs[i]?=some em:=⟨_,List.getElem?_eq_getElem k1⟩
   obtain⟨e,md⟩:=em
   have he:=hev (e,md) (List.mem_of_getElem? hem)
   have hrow:∀ h:i<(rowsE evs).length,(rowsE evs)[i]'h=e.cm md:=fun h=>by
    have k:(rowsE evs)[i]?=some (e.cm md):=by simp[rowsE,hem]
    rw[List.getElem?_eq_getElem h]at k
    exact Option.some.inj k
   have hi2:i<(rowsE evs).length:=by rw[Zaq];exact k1
   simp only[Event.cm]at hrow
   have same:∀ s',s'.norm [0,5,7,8,9]=head316 bs ra rb (x.v G) evs (i+1)->fin [.tmp 4] 0 (Y s')=some (.bool true,[]):=fun s' hs'=>hY (i+1,x) s' ⟨by simp only;omega,g2.inv.mono (by push_cast;omega),g2.is,g2.pa,g2.pb⟩ (by simp only;omega) hs'
   by_cases k7:e.kind=7
   ·simp[head316,Wld.refs,Wld.arrs,c316b0,Zaq,k1I,k2I,k1,hi2,hrow,k7,ee]
    exact (same _ (by simp[head316,Wld.refs,Wld.arrs,ee,hw1,List.range,List.range.loop])).trans (by simp)
   by_cases k5:e.kind=5/\par=0
   ·simp[head316,Wld.refs,Wld.arrs,c316b0,Zaq,k1I,k2I,k1,hi2,hrow,k5.1,k5.2,hpar,ee]
    exact (same _ (by simp[head316,Wld.refs,Wld.arrs,ee,hw1,List.range,List.range.loop])).trans (by simp)
   obtain⟨e',he'⟩:∃ e':Event,e'=if e.kind=1 then { e with rates:=[ra,rb] } else e:=⟨_,rfl⟩
   have hk':e'.kind=e.kind/\e'.a=e.a/\e'.b=e.b/\e'.wants=e.wants:=by rw[he'];split<;>exact⟨rfl,rfl,rfl,rfl⟩
   have hr':e'.kind=1->e'.rates=[ra,rb]:=fun k=>by rw[he',if_pos (hk'.1 ▸ k)]
   have hgC:(32:Int)+4*i<=900000:=by omega
   have hd:=Zpg hG g2.is g2.inv hgC h1 h2 (e:=e') (by rw[hk'.2.1];exact he.a.1) (by rw[hk'.1];exact k7) hr'
   have w':=g2.is.do' (e:=e') (by rw[hk'.2.2.2];exact he.wants)
   have i':=g2.inv.step hG.1 h1 h2 (ekS e')
   have pl:=Ztr G ra rb x (ekS e')
   have w251:=do_v g2.is e' (by rw[hk'.2.2.2];have:=he.nwants;simp only at this;omega) (by rw[hk'.2.1];have:=he.a;simp only at this;omega) hd
   rw[hd]at w'
   generalize stepS G ra rb x (ekS e')=x' at *
   have m':MovS G (32+4*((i+1:Nat):Int)) x':=⟨i'.mono (by push_cast;omega),w',pl.1.trans g2.pa,pl.2.trans g2.pb⟩
   have s66:=law66 (x'.v G) .own w'.small
   rw[Zqa w' i']at s66
   have s314:=law314 (x'.v G) w'.small
   rw[Zpr w' i']at s314
   have next:∀ s',s'.norm [0,5,7,8,9]=head316 bs ra rb (x'.v G) evs (i+1)->fin [.tmp 4] 0 (Y s')=some (.bool true,[]):=fun s' hs'=>hY (i+1,x') s' ⟨by simp only;omega,m'⟩ (by simp only;omega) hs'
   clear same done hY
   generalize x.v G=V at *
   generalize x'.v G=V' at *
   simp only[Wld.c,Event.c,ee,ei,hk'.1,hk'.2.1,hk'.2.2.1,hk'.2.2.2]at w251 s66 s314
   by_cases q1:e.kind=1
   ·have hrr:=hr' (by rw[hk'.1,q1])
    simp only[hrr,List.map_cons,List.map_nil,hri,q1]at w251
    have hmd:md=.own\/md=.imm:=by rcases he.md with k|⟨k,_⟩;exact .inl k;exact .inr k
    rcases hmd with rfl|rfl
    ·simp[head316,Wld.refs,Wld.arrs,c316b0,Zaq,k1I,k2I,k1,hi2,hrow,q1,w251,s66,s314,ee]
     exact (next _ (by simp[head316,Wld.refs,Wld.arrs,ee,hw1,List.range,List.range.loop])).trans (by simp)
    ·simp[head316,Wld.refs,Wld.arrs,c316b0,Zaq,k1I,k2I,k1,hi2,hrow,q1,w251,s66,s314,ee]
     exact (next _ (by simp[head316,Wld.refs,Wld.arrs,ee,hw1,List.range,List.range.loop])).trans (by simp)
   ·have hmd:md=.own:=by rcases he.md with k|⟨_,k⟩;exact k;exact absurd k q1
    subst hmd
    have hrr:e'.rates=e.rates:=by rw[he',if_neg q1]
    simp only[hrr]at w251
    by_cases q5:e.kind=5
    ·have hp0:¬ par=0:=fun k=>k5 ⟨q5,k⟩
     simp only[q5]at w251
     simp[head316,Wld.refs,Wld.arrs,c316b0,Zaq,k1I,k2I,k1,hi2,hrow,q5,hpar,hp0,w251,s66,s314,ee]
     exact (next _ (by simp[head316,Wld.refs,Wld.arrs,ee,hw1,List.range,List.range.loop])).trans (by simp)
    ·simp[head316,Wld.refs,Wld.arrs,c316b0,Zaq,k1I,k2I,k1,hi2,hrow,q1,q5,k7,w251,s66,s314,ee]
     exact (next _ (by simp[head316,Wld.refs,Wld.arrs,ee,hw1,List.range,List.range.loop])).trans (by simp)
  ·exact done hlt
 simp only[List.map_cons,List.map_nil]at w50
 have hwv:(oneW G).c=[.str ⟨#[120]⟩,.int .i64 1,.str ⟨#[118,111,108]⟩,.int .i64 1,.int .i64 1,.int .i64 0,.int .i64 G]:=rfl
 simp only[Wld.c,Event.c,ee,ei,List.map_cons,List.map_nil,hwv,hri]at w50 d1 l8 s8 d2 d3
 simp[c316,hlI,hlI2,hGe,ha4,hb4,hra,hrb,wa,wb,w50,d1,l8,s8,d2,d3,w315,ee,ei,AO.isArr]
 exact (loop _ (by simp[head316,Wld.refs,Wld.arrs,ee,List.range,List.range.loop])).trans (by simp)
end Go.Proofs.YtfemiipgkhekiaaGreatDoor
namespace Go.Proofs.YtfemiipgkhekiaaGreatDoor
open Go Go.RowKit
set_option linter.unusedSimpArgs false
def FzIn(fz:List (Nat×Obj))(w:World):Prop:=∀ p∈fz,p.1<w.heap.size/\w.heap[p.1]?=some p.2
def Ret(P:Program)(f:FuncId)(vs:Array Value)(w:World)(R:Value->World->Prop):Prop :=
 (callFunc f vs).run P w=.ok (.enter f vs) w/\Calls P f vs w fun e w'=>∃ v,e=.returned v/\Below w.heap.size w w'/\R v w'
theorem Ret.callable{P:Program}{f:FuncId}{vs:Array Value}{w:World}{R R':Value->World->Prop}(h:Ret P f vs w R)(hr:∀ v w',Below w.heap.size w w'->R v w'->R' v w'):Callable P f vs w R':=by
 intro o a next Q hnext
 rw[h.1,Oper.upon_enter]
 refine h.2.mono fun e w' he=>?_
 obtain⟨v,rfl,hb,hR⟩:=he
 exact hnext v w' (hr v w' hb hR)
structure PrimsOk(P:Program)(num:Nat->Option FuncId)(fz:List (Nat×Obj)):Prop where
 sfx:∀ f,num 222=some f->∀ (s p:ByteArray) (w:World),FzIn fz w->s.size<=9223372036854775807->Ret P f #[.string s,.string p] w fun v _=>v=.bool (Lib.hasSuffix s.data.toList p.data.toList)
 spl:∀ f,num 220=some f->∀ (s sep:ByteArray) (w:World),FzIn fz w->s.size<4294967281->1<=sep.size->Ret P f #[.string s,.string sep] w fun v w'=>v=.slice (some ⟨w.heap.size,0,none⟩) (splitT s sep).length (splitT s sep).length/\∃ t,w'.heap[w.heap.size]?=some (.cells ((splitT s sep).map Value.string).toArray t (0,0))
 joi:∀ f,num 230=some f->∀ (a:Option Addr) (c:Nat) (xs:List ByteArray) (sep:ByteArray) (w:World),FzIn fz w->(xs=[]\/∃ b o,a=some ⟨b,o,none⟩/\b<w.heap.size/\xs.length<=c/\∀ (j:Nat) x,xs[j]?=some x->w.cell? ⟨b,o+j,none⟩=some (.string x)) ->
  xs.length<=140737488355328->(joinT xs sep).size<=140737488355328->Ret P f #[.slice a xs.length c,.string sep] w fun v _=>v=.string (joinT xs sep)
 ito:∀ f,num 231=some f->∀ (n:Int) (w:World),FzIn fz w->-9223372036854775808<=n->n<=9223372036854775807->Ret P f #[.int .i64 n] w fun v _=>v=.string (itoaT n)
 ato:∀ f,num 221=some f->∀ (s:ByteArray) (w:World),FzIn fz w->s.size<=281474976710656->Ret P f #[.string s] w fun v _=>v=.int .i64 (numT s)
theorem Mem.fzIn{cx:Cx}{h:Nat->Option AO}{ep:Nat}{g:Gh}{w:World}(m:Mem cx h ep g w):FzIn cx.fz w:=fun _ hp=>⟨(m.fz_now hp).1,(m.fz_now hp).2.1⟩
theorem Zcc{cx:Cx}{h:Nat->Option AO}{g:Gh}{w w':World}(m:Mem cx h 0 g w)(hw:cx.w0=w)(h0:cx.base=0)(hb:Below w.heap.size w w'){v:Value}{r:AV}(hr:Cl w' g.I v r (fun _=>False))(ht:r.isTup=false) :
  ∃ I N S fo,Post cx w' v r [] I N S fo:=by
 refine⟨g.I,g.N,fun _=>False,fun _ _=>False,⟨?_,h0.symm,m.I_up,m.I_new,m.I_N,m.N_up,m.N_new,fun b h=>Nat.lt_of_lt_of_le (m.N_lt b h) hb.size,.one _ _ _ (.one _ _ _ hr (fun _ h=>h.elim)) ht,fun k o h=>by simp at h,fun _ h=>h.elim,fun _ _ _ h=>h.elim,fun _ _ _ h=>h.elim,fun _ _ _ _ _ h=>h.elim⟩⟩
 rw[hw]
 exact⟨hb.os,hb.tape,hb.output,hb.size,fun b h1 _=>hb.block b h1⟩
theorem Znz{cx:Cx}{h:Nat->Option AO}{g:Gh}{w w':World}(m:Mem cx h 0 g w)(hw:cx.w0=w)(h0:cx.base=0)(hb:Below w.heap.size w w'){xs:List ByteArray}{t:TypeId}(hmax:xs.length<=maxLen)
  (hh:w'.heap[w.heap.size]?=some (.cells (xs.map Value.string).toArray t (0,0))) :
  ∃ I N S fo,Post cx w' (.slice (some ⟨w.heap.size,0,none⟩) xs.length xs.length) (.sl .own 1 (xs.map fun x=>[.str x])) [] I N S fo:=by
 have hlt:=(Array.getElem?_eq_some_iff.1 hh).1
 have hca:∀ i j c,cellAt (xs.map fun x=>[AV.str x]) i j=some c->∃ x,xs[i]?=some x/\j=0/\c=.str x:=fun i j c hc=>by
  obtain⟨row,h1,h2⟩:=Zaa.1 hc
  rw[List.getElem?_map]at h1
  cases hi:xs[i]? with
  | none=>rw[hi]at h1;cases h1
  | some x =>
   rw[hi]at h1
   simp only[Option.map_some,Option.some.injEq]at h1
   subst h1
   cases j with
   | zero=>exact⟨x,rfl,rfl,by simpa using h2.symm⟩
   | succ j=>simp at h2
 refine⟨g.I,fun b=>g.N b\/b=w.heap.size,fun b=>b=w.heap.size,fun _ _=>False,⟨?_,h0.symm,m.I_up,m.I_new,fun b h=>.inl (m.I_N b h),fun b h=>.inl (m.N_up b h),fun b h=>?_,fun b h=>?_,.one _ _ _ (.one _ _ _ ?_ (fun x h=>.inr h)) rfl,fun k o h=>by simp at h,fun x h=>?_,fun _ _ _ h=>h.elim,fun _ _ _ _ h=>h,fun _ _ _ _ _ h=>h.elim⟩⟩
 ·rw[hw]
  exact⟨hb.os,hb.tape,hb.output,hb.size,fun b h1 _=>hb.block b h1⟩
 ·rcases h with h|h
  ·exact m.N_new b h
  ·exact .inr (by rw[hw,h];exact Nat.le_refl _)
 ·rcases h with h|h
  ·exact Nat.lt_of_lt_of_le (m.N_lt b h) hb.size
  ·rw[h];exact hlt
 ·have e:xs.length=(xs.map fun x=>[AV.str x]).length:=by simp
  rw[e]
  have e2:(xs.map fun x=>[AV.str x]).length=xs.length:=by simp
  refine .own 1 _ w.heap.size _ (xs.map Value.string).toArray t (fun i _=>(xs[i]?.map Value.string).getD undef) (fun _ _ _=>False) _ hh (by simp) (by rw[e2];exact hmax) (by simp) (fun row hr=>?_) (fun i j c hc=>?_) (fun i j c hc=>?_) (fun _ _ _ _ _ _ _ _ _ h=>h.elim) (fun _ _ _ _ h=>h) (fun x=>?_)
  ·obtain⟨x,_,rfl⟩:=List.mem_map.1 hr;rfl
  ·obtain⟨x,h1,rfl,rfl⟩:=hca i j c hc
   simp[h1]
  ·obtain⟨x,h1,rfl,rfl⟩:=hca i j c hc
   simp only[h1,Option.map_some,Option.getD_some]
   exact .str _ _ (fun _ h=>h)
  ·constructor
   ·exact fun h=>.inl h
   ·rintro (h|⟨_,_,_,_,h⟩)
    ·exact h
    ·exact h.elim
 ·subst h
  refine⟨.inr (by rw[hw];exact Nat.le_refl _),fun hI=>?_⟩
  have:=m.I_lt _ hI
  omega
theorem Zd0:∀ {rows:List (List AV)} {xs:List ByteArray},textsOf rows=some xs->xs.length=rows.length/\∀ (j:Nat) x,xs[j]?=some x->cellAt rows j 0=some (.str x)
 | [],xs,h=>by
  simp only[textsOf,Option.some.injEq]at h
  subst h
  exact⟨rfl,fun j x hx=>by simp at hx⟩
 | []::_,xs,h=>by simp[textsOf]at h
 | (c::d::e)::r,xs,h=>by
  cases c<;>simp[textsOf]at h
 | [c]::r,xs,h=>by
  cases c<;>try (simp[textsOf]at h;done)
  rename_i s
  simp only[textsOf]at h
  cases hr:textsOf r with
  | none=>rw[hr]at h;cases h
  | some ys =>
   rw[hr]at h
   simp only[Option.some.injEq]at h
   subst h
   obtain⟨h1,h2⟩:=Zd0 hr
   refine⟨by simp[h1],fun j x hx=>?_⟩
   cases j with
   | zero =>
    simp only[List.getElem?_cons_zero,Option.some.injEq]at hx
    subst hx
    exact Zaa.2 ⟨_,rfl,rfl⟩
   | succ j =>
    obtain⟨row,h3,h4⟩:=Zaa.1 (h2 j x (by simpa using hx))
    exact Zaa.2 ⟨row,by simpa using h3,h4⟩
theorem Zh0{P:Program}{num:Nat->Option FuncId}{fz:List (Nat×Obj)}(hp:PrimsOk P num fz):∀ k f args objs r outs,num k=some f->prim k args objs=some (r,outs)->Contract P num fz f args objs r outs:=by
 intro k f args objs r outs hn h
 cases objs with
 | cons _ _=>cases h
 | nil =>
 replace h:primGo k args=some (r,outs):=h
 intro cx g w vs hP hnum hfz hw0 hbase hh0 hv0 hu m hsz hrel
 subst hP;subst hnum;subst hfz
 have hfi:=m.fzIn
 have hbase0:cx.base=0:=hbase
 have one:∀ (c:AV),args=[c]->∃ v,vs=#[v]/\SRel cx.num w cx.R g (startHeap [] 0) 0 v c:=fun c hc=>by
  subst hc
  have:vs.size=1:=hsz
  obtain⟨v,rfl⟩:∃ v,vs=#[v]:=⟨vs[0],by apply Array.ext' ;match vs,this with|⟨[x]⟩,_=>rfl⟩
  exact⟨v,rfl,hrel 0 v c rfl rfl⟩
 have two:∀ (c d:AV),args=[c,d]->∃ v u,vs=#[v,u]/\SRel cx.num w cx.R g (startHeap [] 0) 0 v c/\SRel cx.num w cx.R g (startHeap [] 0) 0 u d:=fun c d hc=>by
  subst hc
  have:vs.size=2:=hsz
  obtain⟨v,u,rfl⟩:∃ v u,vs=#[v,u]:=by match vs,this with|⟨[x,y]⟩,_=>exact⟨x,y,rfl⟩
  exact⟨v,u,rfl,hrel 0 v c rfl rfl,hrel 1 u d rfl rfl⟩
 unfold primGo at h
 split at h
 ·subst k
  split at h
  case h_2=>cases h
  rename_i s p
  split at h
  case isFalse=>cases h
  rename_i hs
  obtain⟨rfl,rfl⟩:=Prod.mk.inj (Option.some.inj h)
  obtain⟨v,u,rfl,r1,r2⟩:=two _ _ rfl
  cases r1;cases r2
  refine (hp.sfx f hn s p w hfi hs).callable fun v w' hb hv=>?_
  subst hv
  exact Zcc m hw0 hbase0 hb (.bool _ _ fun _ h=>h) rfl
 split at h
 ·subst k
  split at h
  case h_2=>cases h
  rename_i s sep
  split at h
  case isFalse=>cases h
  rename_i hs
  obtain⟨rfl,rfl⟩:=Prod.mk.inj (Option.some.inj h)
  obtain⟨v,u,rfl,r1,r2⟩:=two _ _ rfl
  cases r1;cases r2
  refine (hp.spl f hn s sep w hfi hs.1 hs.2).callable fun v w' hb hv=>?_
  obtain⟨rfl,t,ht⟩:=hv
  have hlen:(splitT s sep).length=Lib.countB s sep+1:=Lib.splitB_all sep hs.2 0 _ s rfl
  have hle:=Lib.countB_le sep hs.2 s.size s (Nat.le_refl _)
  exact Znz m hw0 hbase0 hb (by rw[hlen];unfold maxLen;omega) ht
 split at h
 ·subst k
  split at h
  case h_2=>cases h
  rename_i rows sep
  split at h
  case h_2=>cases h
  rename_i xs hx
  split at h
  case isFalse=>cases h
  rename_i hs
  obtain⟨rfl,rfl⟩:=Prod.mk.inj (Option.some.inj h)
  obtain⟨v,u,rfl,r1,r2⟩:=two _ _ rfl
  obtain⟨hl,hc⟩:=Zd0 hx
  cases r2
  cases r1 with
  | sl _ _ _ _ h1 hm _ _ =>
   have hB:=hm rfl
   cases hB with
   | nil _ _ a cap =>
    have:xs=[]:=by simpa using hl
    subst this
    refine (hp.joi f hn a cap [] sep w hfi (.inl rfl) hs.1 hs.2).callable fun v w' hb hv=>?_
    subst hv
    exact Zcc m hw0 hbase0 hb (.str _ _ fun _ h=>h) rfl
   | sl _ _ _ b o cap us hcap hb' hrow hcell hin =>
    rw[<- hl]
    refine (hp.joi f hn (some ⟨b,o,none⟩) cap xs sep w hfi (.inr ⟨b,o,rfl,?_,by omega,fun j x hj=>?_⟩) hs.1 hs.2).callable fun v w' hb hv=>?_
    ·have h3:=m.R_old b hb'
     rw[hw0]at h3
     exact h3.1
    ·have h3:=hc j x hj
     have h4:=hcell j 0 _ h3
     have h5:=hin j 0 _ h3
     rw[Nat.mul_one,Nat.add_zero]at h4
     rw[h4]
     generalize us j 0=uv at h5
     cases h5
     rfl
    ·subst hv
     exact Zcc m hw0 hbase0 hb (.str _ _ fun _ h=>h) rfl
 split at h
 ·subst k
  split at h
  case h_2=>cases h
  rename_i n
  split at h
  case isFalse=>cases h
  rename_i hs
  obtain⟨rfl,rfl⟩:=Prod.mk.inj (Option.some.inj h)
  obtain⟨v,rfl,r1⟩:=one _ rfl
  cases r1
  refine (hp.ito f hn n w hfi hs.1 hs.2).callable fun v w' hb hv=>?_
  subst hv
  exact Zcc m hw0 hbase0 hb (.str _ _ fun _ h=>h) rfl
 split at h
 ·subst k
  split at h
  case h_2=>cases h
  rename_i s
  split at h
  case isFalse=>cases h
  rename_i hs
  obtain⟨rfl,rfl⟩:=Prod.mk.inj (Option.some.inj h)
  obtain⟨v,rfl,r1⟩:=one _ rfl
  cases r1
  refine (hp.ato f hn s w hfi hs).callable fun v w' hb hv=>?_
  subst hv
  exact Zcc m hw0 hbase0 hb (.int _ _ _ fun _ h=>h) rfl
 ·cases h
theorem Zp9{P:Program}{num:Nat->Option FuncId}(h:∀ e∈sortTab,∀ f t fs,num e.1=some f->num (1000+e.1)=some t->num kSort=some fs->SortOk P fs f t e.2.1 e.2.2.1 e.2.2.2):SrtAll P num :=
 fun kl o c sz hm f t fs h1 h2 h3=>h (kl,o,c,sz) (by simpa using hm) f t fs h1 h2 h3
end Go.Proofs.YtfemiipgkhekiaaGreatDoor
