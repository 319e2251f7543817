/- A hold that moves from berth to berth, in small: two mates, one copy, one hold; what an event makes of such a world (plain). · While a hold moves: at no moment do both hold (plain). · While a hold moves: what is brought, who falls and rises (plain). · Calm rounds of the small world (plain). · A calm round of the small world, from one where nothing is in flight (plain). · The small world comes to rest (plain). · The small world's first rounds, and what moves the hold (plain). · The abstract machine on values without addresses: what the program's operations compute, memory seen as trees and named arrays. No Go and no memory here. · The functions' table in the limit of depth: what a call answers at every great depth. Plain laws speak of this one. · Running the abstract machine by rewriting: frames, branches as 'if', loops by a rule. · Texts' order; what sorting by a text does. Plain Lean. · The library's functions: what they answer, on values alone. -/
import Derived.WalkKit
import Derived.ProofKit
import Derived.KernelRfl
import GoSem.Core.Value
import GoSem.Core.Ast
import GoSem.Op.String
import Derived.IntWalk
import Derived.Lib.Join
import Derived.Lib.Split
import Derived.Lib.ItoaNum
import Derived.Lib.AtoiAll
namespace Go.Proofs.YtfemiipgkhekiaaGreatDoor
set_option linter.unusedSimpArgs false
structure RS where
 st:Int
 left:Int
 til:Int
structure KS where
 first:Int
 at_:Int
structure MS where
 up:Bool
 clock:Int
 known:Bool
 seen:Int
 w:Bool
 r:Option RS
 k:Option KS
 g:Option KS
structure GS where
 a:Bool
 at_:Int
 til:Int
structure LS where
 time:Int
 gr:Option GS
 pa:Option (Int×Bool)
 pb:Option (Int×Bool)
inductive PK where
 | told (a:Bool) (seen:Int) (w:Bool)
 | asked (a:Bool) (t:Int)
 | given (a:Bool) (t:Int)
 | back (a:Bool) (t:Int)
 | got (a:Bool) (t:Int)
 | here (a:Bool) (seen:Int)
structure MW where
 land:LS
 a:MS
 b:MS
 fl:List PK
def aliveZ(st:Int):Bool:=st == 3 || st == 4 || st == 6
def wdS(c:Int)(r:RS):RS:=if aliveZ r.st && !decide (c+4<=r.til) then ⟨2,0,r.til⟩ else r
def liveS(G c:Int)(w:Bool)(r:RS):Option RS :=
 if !w && r.st != 6 then (if aliveZ r.st then some ⟨6,G,r.til⟩ else none)
 else if r.st≠2/\1<r.left then some ⟨r.st,r.left-1,r.til⟩
 else if r.st=3 then some ⟨4,0,r.til⟩
 else if r.st=4 then some r
 else if r.st=6 then none
 else if c+4<=r.til then some ⟨3,1,r.til⟩ else some ⟨2,0,r.til⟩
def newS(w:Bool):Option RS:=if w then some ⟨1,1,0⟩ else none
def onS(m:MS)(rate:Int):MS:={ m with clock:=m.clock+rate,r:=m.r.map (wdS (m.clock+rate)) }
def livesS(G:Int)(m:MS):MS:=match m.r with
 | none=>{ m with r:=newS m.w }
 | some r=>match liveS G m.clock m.w r with
  | some n=>{ m with r:=some n }
  | none=>{ m with r:=newS m.w,k:=none,g:=match m.k with
    | some a=>some a
    | none=>m.g }
def runsS(G:Int)(m:MS):MS:=if m.known then livesS G m else m
def askS(m:MS):Option KS:=match m.r with
 | none=>none
 | some _=>if m.w && m.g.isNone then (match m.k with
  | some a=>if m.clock<a.at_+6 then none else some ⟨a.first,m.clock⟩
  | none=>some ⟨m.clock,m.clock⟩) else none
def asksS(m:MS):MS:=match askS m with
 | some a=>{ m with k:=some a }
 | none=>m
def outS(a:Bool)(m:MS):List PK :=
 (match askS m with
  | some _=>[PK.asked a m.clock]
  | none=>[])++(match m.g with
  | some g=>[PK.back a g.at_]
  | none=>[])++[PK.here a m.seen]
def tickS(G:Int)(a:Bool)(m:MS)(rate:Int):MS×List PK :=
 if m.up then (asksS (runsS G (onS m rate)),outS a (runsS G (onS m rate))) else (onS m rate,[])
def fitsS(m:MS)(t:Int):Bool:=match m.k with
 | some k=>decide (k.first<=t) && decide (t<=k.at_)
 | none=>false
def givenS(t:Int)(r:RS):RS:=if r.til<t+16 then { r with til:=t+16 } else r
def takeS(me:Bool)(m:MS)(p:PK):MS:=if m.up then (match p with
  | .told a s w=>if a == me && (!m.known || decide (m.seen<s)) then { m with known:=true,seen:=s,w:=w } else m
  | .given a t=>if a == me && fitsS m t then { m with r:=m.r.map (givenS t) } else m
  | .got a t=>if a == me then (match m.g with
    | some g=>if g.at_=t then { m with g:=none } else m
    | none=>m) else m
  | _=>m) else m
def fallS(machine:Bool)(m:MS):MS:=⟨false,m.clock,false,0,false,match m.r with
 | some r=>if aliveZ r.st then (if machine then some ⟨2,0,r.til⟩ else some r) else none
 | none=>none,none,none⟩
def riseS(m:MS):MS:={ m with up:=true }
def toldS(l:LS):List PK:=(match l.pa with
  | some x=>[PK.told true x.1 x.2]
  | none=>[])++(match l.pb with
  | some x=>[PK.told false x.1 x.2]
  | none=>[])
def wantsS(l:LS)(a:Bool):Bool:=match (if a then l.pa else l.pb) with
 | some x=>x.2
 | none=>false
def landS(l:LS)(p:PK):LS×List PK:=match p with
 | .asked a t=>if wantsS l a then (match l.gr with
   | some g=>if l.time<g.til/\¬ (g.a=a/\g.at_<=t) then (l,[]) else ({ l with gr:=some ⟨a,t,l.time+32⟩ },[.given a t])
   | none=>({ l with gr:=some ⟨a,t,l.time+32⟩ },[.given a t])) else (l,[])
 | .back a t=>(match l.gr with
   | some g=>if g.a=a/\g.at_<=t then { l with gr:=none } else l
   | none=>l,[.got a t])
 | _=>(l,[])
def isDownS:PK->Bool
 | .told ..=>true
 | .given ..=>true
 | .got ..=>true
 | _=>false
def sendS(fl:List PK)(ps:List PK):List PK:=ps.foldl (fun fl p=>if fl.length<300 then fl++[p] else fl) fl
def outK(l:List PK)(k:Nat):List PK:=l.take k++l.drop (k+1)
def bringS(x:MW)(k:Nat):MW:=match x.fl[k]? with
 | none=>x
 | some p=>if isDownS p then { x with fl:=outK x.fl k,a:=takeS true x.a p,b:=takeS false x.b p }
  else { x with land:=(landS x.land p).1,fl:=sendS (outK x.fl k) (landS x.land p).2 }
def tickMW(G ra rb:Int)(x:MW):MW :=
 ⟨{ x.land with time:=x.land.time+2 },(tickS G true x.a ra).1,(tickS G false x.b rb).1,
  sendS (sendS (sendS x.fl (toldS x.land)) (tickS G true x.a ra).2) (tickS G false x.b rb).2⟩
def bringsS:Nat->MW->MW
 | 0,x=>x
 | n+1,x=>bringsS n (bringS x 0)
def roundS(G ra rb:Int)(x:MW):MW :=
 let a:=tickMW G ra rb x
 let b:=bringsS a.fl.length a
 bringsS b.fl.length b
def roundsS(G ra rb:Int):Nat->MW->MW
 | 0,x=>x
 | n+1,x=>roundsS G ra rb n (roundS G ra rb x)
inductive EK where
 | tick
 | bring (k:Nat)
 | double (k:Nat)
 | lose (k:Nat)
 | fall (a machine:Bool)
 | rise (a:Bool)
 | none
def stepS(G ra rb:Int)(x:MW):EK->MW
 | .tick=>tickMW G ra rb x
 | .bring k=>bringS x k
 | .double k=>match x.fl[k]? with
  | some p=>if x.fl.length<300 then { x with fl:=x.fl++[p] } else x
  | none=>x
 | .lose k=>{ x with fl:=outK x.fl k }
 | .fall a machine=>if a then { x with a:=fallS machine x.a } else { x with b:=fallS machine x.b }
 | .rise a=>if a then { x with a:=riseS x.a } else { x with b:=riseS x.b }
 | .none=>x
set_option linter.unusedVariables false
def okR(G:Int)(r:RS):Prop:=(1<=r.st/\r.st<=6)/\(0<=r.left/\(r.left<=1\/r.left<=G))/\(r.st=4->r.left=0)
structure OkM(G:Int)(m:MS):Prop where
 clock:0<=m.clock
 seen:0<=m.seen
 wk:m.w=true->m.known=true
 ku:m.known=true->m.up=true
 run:∀ r,m.r=some r->okR G r
 ask:∀ k,m.k=some k->0<=k.first/\k.first<=k.at_/\k.at_<=m.clock
 give:∀ k,m.g=some k->0<=k.first/\k.first<=k.at_/\k.at_<=m.clock
 apart:m.k=none\/m.g=none
 idle:m.up=false->m.k=none/\m.g=none/\m.seen=0
theorem Zsi{G c:Int}{r:RS}(h:okR G r):okR G (wdS c r)/\(wdS c r).til=r.til/\(r.st≠6->(wdS c r).st≠6):=by
 unfold wdS
 split
 ·exact⟨⟨by simp,by simp,by simp⟩,rfl,fun _=>by simp⟩
 ·exact⟨h,rfl,id⟩
theorem Zi2{G c:Int}{w:Bool}{r n:RS}(hG:0<=G)(h:okR G r)(e:liveS G c w r=some n):okR G n/\n.til=r.til/\(w=true->r.st≠6->n.st≠6):=by
 obtain⟨⟨h1,h2⟩,⟨h3,h4⟩,h5⟩:=h
 unfold liveS at e
 repeat' split at e
 all_goals first|(cases e;done)|skip
 all_goals obtain rfl:=Option.some.inj e
 all_goals simp_all[okR]
 all_goals omega
theorem Zeb{G c:Int}{w:Bool}{r:RS}(e:liveS G c w r=none)(hw:w=true):r.st=6:=by
 subst hw
 unfold liveS at e
 simp only[Bool.not_true,Bool.false_and]at e
 repeat' split at e
 all_goals first|(cases e;done)|assumption|(simp_all;done)
structure Ticked(G:Int)(m x:MS)(rate:Int):Prop where
 up:x.up=m.up
 clock:x.clock=m.clock+rate
 known:x.known=m.known
 seen:x.seen=m.seen
 w:x.w=m.w
 ok:OkM G x
 gone:m.r=none->m.w=false->x.r=none
 stay:m.w=true->(∀ r,m.r=some r->r.st≠6)->(∃ r,x.r=some r)/\∀ r,x.r=some r->r.st≠6
 stayD:m.known=false->(∀ r,m.r=some r->r.st≠6)->∀ r,x.r=some r->r.st≠6
 til:∀ r,x.r=some r->(∃ r0,m.r=some r0/\r.til=r0.til)\/r.til=0
 give:x.g≠none->(m.w=true->∀ r,m.r=some r->r.st≠6)->(m.g≠none\/(x.r=none/\x.w=false))
 gives:m.g=none->(∀ r,m.r=some r->m.w=true/\r.st≠6\/m.known=false)->x.g=none
theorem Zty{G:Int}{m:MS}{rate:Int}(hr:1<=rate)(h:OkM G m):OkM G (onS m rate):=by
 obtain⟨c1,c2,c3,c4,c5,c6,c7,c8,c9⟩:=h
 refine⟨by simp only[onS];omega,c2,c3,c4,fun r e=>?_,fun k e=>?_,fun k e=>?_,c8,c9⟩
 ·simp only[onS,Option.map_eq_some_iff]at e
  obtain⟨r0,e1,rfl⟩:=e
  exact (Zsi (c5 r0 e1)).1
 ·have:=c6 k e;simp only[onS];omega
 ·have:=c7 k e;simp only[onS];omega
theorem Zg9{G:Int}{w:Bool}{r:RS}(e:newS w=some r):okR G r/\r.til=0/\r.st≠6/\w=true:=by
 unfold newS at e
 cases w
 ·cases e
 ·obtain rfl:=Option.some.inj e
  simp[okR]
theorem Zr8{G:Int}{m:MS}(hG:0<=G)(h:OkM G m)(hk:m.known=true):OkM G (livesS G m):=by
 have hup:=h.ku hk
 obtain⟨c1,c2,c3,c4,c5,c6,c7,c8,c9⟩:=h
 unfold livesS
 split
 ·exact⟨c1,c2,c3,c4,fun r e=>(Zg9 e).1,c6,c7,c8,c9⟩
 ·rename_i r er
  split
  ·rename_i n en
   refine⟨c1,c2,c3,c4,fun r' e=>?_,c6,c7,c8,c9⟩
   obtain rfl:=Option.some.inj e
   exact (Zi2 hG (c5 r er) en).1
  ·refine⟨c1,c2,c3,c4,fun r e=>(Zg9 e).1,fun k e=>(by cases e),fun k e=>?_,Or.inl rfl,fun e=>by rw[hup]at e;cases e⟩
   simp only at e
   split at e
   ·rename_i a ea
    obtain rfl:=Option.some.inj e
    exact c6 a ea
   ·exact c7 k e
theorem Zln{G:Int}{m:MS}(hG:0<=G)(h:OkM G m):OkM G (runsS G m):=by
 unfold runsS
 split
 ·rename_i hk;exact Zr8 hG h hk
 ·exact h
theorem Zte{m:MS}{a:KS}(e:askS m=some a):m.g=none/\m.w=true/\a.at_=m.clock/\(a.first=m.clock\/∃ k,m.k=some k/\a.first=k.first):=by
 unfold askS at e
 split at e
 ·cases e
 ·split at e
  ·rename_i q
   simp only[Bool.and_eq_true,Option.isNone_iff_eq_none]at q
   split at e
   ·rename_i k ek
    split at e
    ·cases e
    ·obtain rfl:=Option.some.inj e
     exact⟨q.2,q.1,rfl,Or.inr ⟨k,ek,rfl⟩⟩
   ·obtain rfl:=Option.some.inj e
    exact⟨q.2,q.1,rfl,Or.inl rfl⟩
  ·cases e
theorem Zuf{G:Int}{m:MS}(h:OkM G m):OkM G (asksS m):=by
 unfold asksS
 split
 ·rename_i a ea
  obtain⟨e1,e2,e3,e4⟩:=Zte ea
  obtain⟨c1,c2,c3,c4,c5,c6,c7,c8,c9⟩:=h
  refine⟨c1,c2,c3,c4,c5,fun k e=>?_,c7,Or.inr e1,fun e=>?_⟩
  ·obtain rfl:=Option.some.inj e
   rcases e4 with e4|⟨k0,k1,k2⟩
   ·simp only;omega
   ·have:=c6 k0 k1
    simp only;omega
  ·have:=c4 (c3 e2)
   simp only at e
   rw[this]at e;cases e
 ·exact h
theorem Zdl{G:Int}{m:MS}{rate:Int}(a:Bool)(hG:0<=G)(hr:1<=rate)(h:OkM G m):Ticked G m (tickS G a m rate).1 rate:=by
 have h1:=Zty hr h
 have hok:OkM G (tickS G a m rate).1:=by
  unfold tickS
  split
  ·exact Zuf (Zln hG h1)
  ·exact h1
 have hf:∀ x:MS,(asksS x).up=x.up/\(asksS x).clock=x.clock/\(asksS x).known=x.known/\(asksS x).seen=x.seen/\(asksS x).w=x.w/\(asksS x).r=x.r/\(asksS x).g=x.g:=fun x=>by
  unfold asksS;split<;>simp
 have hl:∀ x:MS,(livesS G x).up=x.up/\(livesS G x).clock=x.clock/\(livesS G x).known=x.known/\(livesS G x).seen=x.seen/\(livesS G x).w=x.w:=fun x=>by
  unfold livesS;split
  ·simp
  ·split<;>simp
 have hw:∀ r,m.r=some r->okR G (wdS (m.clock+rate) r)/\(wdS (m.clock+rate) r).til=r.til/\(r.st≠6->(wdS (m.clock+rate) r).st≠6):=fun r e=>Zsi (h.run r e)
 have hu:m.up=false->m.known=false/\m.w=false/\(onS m rate).g=none:=fun e=>by
  have k1:m.known=false:=by cases q:m.known;rfl;rw[h.ku q]at e;cases e
  exact⟨k1,(by cases q:m.w;rfl;rw[h.wk q]at k1;cases k1),(h.idle e).2.1⟩
 obtain⟨up,clock,known,seen,w,r,k,g⟩:=m
 simp only at *
 cases up
 ·obtain⟨rfl,rfl,hg⟩:=hu rfl
  refine⟨rfl,rfl,rfl,rfl,rfl,hok,fun e _=>?_,fun e=>(by cases e),fun _ e r' e'=>?_,fun r' e'=>?_,fun e=>absurd hg (by simpa [tickS] using e),fun _ _=>by simpa [tickS] using hg⟩
  ·subst e;simp[tickS,onS]
  ·simp only[tickS,onS,Bool.false_eq_true,if_false,Option.map_eq_some_iff]at e'
   obtain⟨r0,e0,rfl⟩:=e'
   exact (hw r0 e0).2.2 (e r0 e0)
  ·simp only[tickS,onS,Bool.false_eq_true,if_false,Option.map_eq_some_iff]at e'
   obtain⟨r0,e0,rfl⟩:=e'
   exact Or.inl ⟨r0,e0,(hw r0 e0).2.1⟩
 ·simp only[tickS,if_true]at hok ⊢
  obtain⟨f1,f2,f3,f4,f5,f6,f7⟩:=hf (runsS G (onS ⟨true,clock,known,seen,w,r,k,g⟩ rate))
  cases known
  ·have hw0:w=false:=by cases w;rfl;exact absurd (h.wk rfl) (by simp)
   simp only[runsS,onS,Bool.false_eq_true,if_false]at f1 f2 f3 f4 f5 f6 f7 hok ⊢
   refine⟨f1,f2,f3,f4,f5,hok,fun e _=>?_,fun e=>?_,fun _ e r' e'=>?_,fun r' e'=>?_,fun e _=>Or.inl (by rw[f7]at e;exact e),fun e _=>by rw[f7];exact e⟩
   ·rw[f6,show r=none from e];rfl
   ·rw[hw0]at e;cases e
   ·rw[f6,Option.map_eq_some_iff]at e'
    obtain⟨r0,e0,rfl⟩:=e'
    exact (hw r0 e0).2.2 (e r0 e0)
   ·rw[f6,Option.map_eq_some_iff]at e'
    obtain⟨r0,e0,rfl⟩:=e'
    exact Or.inl ⟨r0,e0,(hw r0 e0).2.1⟩
  ·simp only[runsS,onS,if_true]at f1 f2 f3 f4 f5 f6 f7 hok ⊢
   obtain⟨l1,l2,l3,l4,l5⟩:=hl ⟨true,clock+rate,true,seen,w,r.map (wdS (clock+rate)),k,g⟩
   refine⟨f1.trans l1,f2.trans l2,f3.trans l3,f4.trans l4,f5.trans l5,hok,fun e e2=>?_,fun e e2=>?_,fun e=>(by cases e),fun r' e'=>?_,fun e e2=>?_,fun e e2=>?_⟩
   ·rw[f6]
    obtain rfl:r=none:=e
    obtain rfl:w=false:=e2
    rfl
   ·rw[f6]
    obtain rfl:w=true:=e
    rcases r with _|r
    ·refine⟨⟨_,rfl⟩,fun r' e'=>?_⟩
     simp only[livesS,Option.map_none]at e'
     exact (Zg9 (G:=G) e').2.2.1
    ·have h6:=(hw r rfl).2.2 (e2 r rfl)
     simp only[livesS,Option.map_some]
     split
     ·rename_i n en
      refine⟨⟨_,rfl⟩,fun r' e'=>?_⟩
      obtain rfl:=Option.some.inj e'
      exact (Zi2 hG (hw r rfl).1 en).2.2 rfl h6
     ·rename_i en
      exact absurd (Zeb en rfl) h6
   ·rw[f6]at e'
    rcases r with _|r
    ·exact Or.inr (Zg9 (G:=G) e').2.1
    ·simp only[livesS,Option.map_some]at e'
     split at e'
     ·rename_i n en
      obtain rfl:=Option.some.inj e'
      exact Or.inl ⟨r,rfl,(Zi2 hG (hw r rfl).1 en).2.1.trans (hw r rfl).2.1⟩
     ·exact Or.inr (Zg9 (G:=G) e').2.1
   ·rw[f7]at e
    rcases r with _|r
    ·exact Or.inl e
    ·simp only[livesS,Option.map_some]at e f5 f6
     split at e
     ·exact Or.inl e
     ·rename_i en
      by_cases hg:g=none
      ·right
       have hw0:w=false:=by
        cases w
        ·rfl
        ·exact absurd (Zeb en rfl) ((hw r rfl).2.2 (e2 rfl r rfl))
       rw[en]at f5 f6
       subst hw0
       refine⟨?_,?_⟩
       ·simp only[livesS,Option.map_some,en];exact f6
       ·simp only[livesS,Option.map_some,en];exact f5
      ·exact Or.inl hg
   ·rw[f7]
    rcases r with _|r
    ·exact e
    ·simp only[livesS,Option.map_some]
     split
     ·exact e
     ·rename_i en
      rcases e2 r rfl with ⟨h3,h4⟩|h3
      ·exact absurd (Zeb en h3) ((hw r rfl).2.2 h4)
      ·cases h3
theorem Zcx{G:Int}{a:Bool}{m:MS}{rate:Int}{p:PK}(hp:p∈(tickS G a m rate).2) :
  (p=.asked a (tickS G a m rate).1.clock)\/(∃ g,(tickS G a m rate).1.g=some g/\p=.back a g.at_)\/p=.here a (tickS G a m rate).1.seen:=by
 have hf:∀ x:MS,(asksS x).clock=x.clock/\(asksS x).seen=x.seen/\(asksS x).g=x.g:=fun x=>by
  unfold asksS;split<;>simp
 unfold tickS at hp ⊢
 split
 ·rename_i q
  rw[if_pos q]at hp
  simp only at hp ⊢
  generalize runsS G (onS m rate)=x at *
  obtain⟨h1,h2,h3⟩:=hf x
  rw[h1,h2,h3]
  simp only[outS,List.mem_append,List.mem_singleton]at hp
  rcases hp with (hp|hp)|hp
  ·split at hp
   ·exact Or.inl (List.mem_singleton.1 hp)
   ·cases hp
  ·split at hp
   ·rename_i g eg
    exact Or.inr (Or.inl ⟨g,eg,List.mem_singleton.1 hp⟩)
   ·cases hp
  ·exact Or.inr (Or.inr hp)
 ·rename_i q
  rw[if_neg q]at hp
  cases hp
def okP(x:MW):PK->Prop
 | .told true s w=>w=false/\2<=s/\s<=1000
 | .told false s w=>w=true/\1<=s/\s<=1000
 | .asked true t=>0<=t/\t<=x.a.clock
 | .asked false t=>0<=t/\t<=x.b.clock
 | .given true _=>False
 | .given false t=>0<=t/\t<=x.b.clock/\(x.b.clock+4<=t+16->∃ g,x.land.gr=some g/\g.a=false/\t<=g.at_)
 | .back true t=>0<=t/\t<=x.a.clock/\x.a.r=none/\x.a.w=false
 | .back false _=>False
 | .got a t=>a=true/\0<=t/\t<=x.a.clock
 | .here true s=>0<=s/\s<=1000
 | .here false s=>0<=s/\s<=1000
structure InvS(G C:Int)(x:MW):Prop where
 ga:OkM G x.a
 gb:OkM G x.b
 ca:x.a.clock<=C
 cb:x.b.clock<=C
 ct:0<=x.land.time/\x.land.time<=C
 sa:x.a.seen<=1000
 sb:x.b.seen<=1000
 pa:∃ s,x.land.pa=some (s,false)/\2<=s/\s<=1000
 pb:∃ s,x.land.pb=some (s,true)/\1<=s/\s<=1000
 fl:∀ p∈x.fl,okP x p
 a1:x.a.w=true->x.a.seen<=1/\(∃ r,x.a.r=some r)/\∀ r,x.a.r=some r->r.st≠6
 a3:x.a.g≠none->x.a.r=none/\x.a.w=false
 a4:∀ r,x.a.r=some r->x.a.clock+4<=r.til->∃ g,x.land.gr=some g/\g.a=true/\2*(r.til-x.a.clock)<=g.til-x.land.time
 b1:x.b.w=x.b.known
 b2:x.b.g=none
 b3:∀ r,x.b.r=some r->r.st≠6
 b4:∀ r,x.b.r=some r->x.b.clock+4<=r.til->∃ g,x.land.gr=some g/\g.a=false/\r.til<=g.at_+16
 g1:∀ g,x.land.gr=some g->g.til<=x.land.time+32/\0<=g.at_
 g2:∀ g,x.land.gr=some g->g.a=false->g.at_<=x.b.clock/\32-2*(x.b.clock-g.at_)<=g.til-x.land.time
 g3:∀ g,x.land.gr=some g->g.a=true->g.at_<=x.a.clock
theorem InvS.one{G C:Int}{x:MW}(h:InvS G C x){r q:RS}(hr:x.a.r=some r)(hq:x.b.r=some q)(ha:x.a.clock+4<=r.til):¬ x.b.clock+4<=q.til:=fun hb=>by
 obtain⟨g,g1,g2,_⟩:=h.a4 r hr ha
 obtain⟨g',g1',g2',_⟩:=h.b4 q hq hb
 rw[g1]at g1'
 obtain rfl:=Option.some.inj g1'
 rw[g2]at g2';cases g2'
theorem InvS.heldA{G C:Int}{x:MW}(h:InvS G C x){r:RS}(hr:x.a.r=some r)(ha:x.a.clock+4<=r.til):∃ g,x.land.gr=some g/\g.a=true/\x.land.time<g.til:=by
 obtain⟨g,g1,g2,g3⟩:=h.a4 r hr ha
 exact⟨g,g1,g2,by omega⟩
theorem InvS.heldB{G C:Int}{x:MW}(h:InvS G C x){r:RS}(hr:x.b.r=some r)(ha:x.b.clock+4<=r.til):∃ g,x.land.gr=some g/\g.a=false/\x.land.time<g.til:=by
 obtain⟨g,g1,g2,g3⟩:=h.b4 r hr ha
 have:=h.g2 g g1 g2
 exact⟨g,g1,g2,by omega⟩
theorem Zbn:∀ (ps fl:List PK) (p:PK),p∈sendS fl ps->p∈fl\/p∈ps
 | [],fl,p,h=>Or.inl h
 | q::ps,fl,p,h=>by
  rcases Zbn ps _ p h with h|h
  ·dsimp only at h
   split at h
   ·rcases List.mem_append.1 h with h|h
    ·exact Or.inl h
    ·exact Or.inr (by rw[List.mem_singleton.1 h];exact List.mem_cons_self)
   ·exact Or.inl h
  ·exact Or.inr (List.mem_cons_of_mem _ h)
theorem Zgp{l:List PK}{k:Nat}{p:PK}(h:p∈outK l k):p∈l:=by
 rcases List.mem_append.1 h with h|h
 ·exact List.mem_of_mem_take h
 ·exact List.mem_of_mem_drop h
theorem InvS.tick{G C:Int}{x:MW}{ra rb:Int}(h:InvS G C x)(hG:0<=G)(h1:1<=ra/\ra<=4)(h2:1<=rb/\rb<=4):InvS G (C+4) (tickMW G ra rb x):=by
 have ta:=Zdl true hG h1.1 h.ga
 have tb:=Zdl false hG h2.1 h.gb
 have oa:=@Zcx G true x.a ra
 have ob:=@Zcx G false x.b rb
 obtain⟨s1,s2,s3,s3'⟩:=h.pa
 obtain⟨s4,s5,s6,s6'⟩:=h.pb
 unfold tickMW
 generalize hA:tickS G true x.a ra=A at *
 generalize hB:tickS G false x.b rb=B at *
 obtain⟨a',outa⟩:=A
 obtain⟨b',outb⟩:=B
 simp only at ta tb oa ob ⊢
 have hb2:b'.g=none:=tb.gives h.b2 fun r e=>by
  cases q:x.b.known
  ·exact Or.inr rfl
  ·exact Or.inl ⟨by rw[h.b1,q],h.b3 r e⟩
 have ha3:a'.g≠none->a'.r=none/\a'.w=false:=fun e=>by
  rcases ta.give e (fun e1=>(h.a1 e1).2.2) with k|k
  ·obtain⟨k1,k2⟩:=h.a3 k
   exact⟨ta.gone k1 k2,ta.w.trans k2⟩
  ·exact k
 have c1:=ta.clock
 have c2:=tb.clock
 have hca:=h.ca
 have hcb:=h.cb
 have hct:=h.ct
 have hA0:=h.ga.clock
 have hB0:=h.gb.clock
 refine⟨ta.ok,tb.ok,by simp only;omega,by simp only;omega,by simp only;omega,by simp only[ta.seen];exact h.sa,by simp only[tb.seen];exact h.sb,⟨s1,s2,s3,s3'⟩,⟨s4,s5,s6,s6'⟩,fun p hp=>?_,fun e=>?_,ha3,fun r e1 e2=>?_,?_,hb2,fun r e=>?_,fun r e1 e2=>?_,fun g e=>?_,fun g e1 e2=>?_,fun g e1 e2=>?_⟩
 ·rcases Zbn _ _ p hp with hp|hp
  ·rcases Zbn _ _ p hp with hp|hp
   ·rcases Zbn _ _ p hp with hp|hp
    ·have:=h.fl p hp
     cases p with
     | told a s w=>cases a<;>exact this
     | asked a t=>cases a<;>simp only[okP]at this ⊢<;>omega
     | given a t =>
      cases a
      ·simp only[okP]at this ⊢
       refine⟨this.1,by omega,fun e=>this.2.2 (by omega)⟩
      ·exact this
     | back a t =>
      cases a
      ·exact this
      ·simp only[okP]at this ⊢
       exact⟨this.1,by omega,ta.gone this.2.2.1 this.2.2.2,ta.w.trans this.2.2.2⟩
     | got a t=>simp only[okP]at this ⊢;exact⟨this.1,this.2.1,by omega⟩
     | here a s=>cases a<;>exact this
    ·unfold toldS at hp
     rw[s2,s5]at hp
     simp only[List.mem_append,List.mem_singleton]at hp
     rcases hp with rfl|rfl
     ·exact⟨rfl,s3,s3'⟩
     ·exact⟨rfl,s6,s6'⟩
   ·rcases oa hp with rfl|⟨g,g1,rfl⟩|rfl
    ·simp only[okP];exact⟨ta.ok.clock,Int.le_refl _⟩
    ·obtain⟨k1,k2⟩:=ha3 (by rw[g1];simp)
     have:=ta.ok.give g g1
     simp only[okP]
     exact⟨by omega,by omega,k1,k2⟩
    ·simp only[okP];exact⟨ta.ok.seen,by rw[ta.seen];exact h.sa⟩
  ·rcases ob hp with rfl|⟨g,g1,rfl⟩|rfl
   ·simp only[okP];exact⟨tb.ok.clock,Int.le_refl _⟩
   ·rw[hb2]at g1;cases g1
   ·simp only[okP];exact⟨tb.ok.seen,by rw[tb.seen];exact h.sb⟩
 ·have e0:x.a.w=true:=by rw[<- ta.w];exact e
  obtain⟨k1,k2,k3⟩:=h.a1 e0
  exact⟨by simp only[ta.seen];exact k1,ta.stay e0 k3⟩
 ·rcases ta.til r e1 with ⟨r0,k1,k2⟩|k
  ·obtain⟨g,g1,g2,g3⟩:=h.a4 r0 k1 (by simp only at e2;omega)
   exact⟨g,g1,g2,by simp only at e2 ⊢;omega⟩
  ·simp only at e2;omega
 ·simp only[tb.w,tb.known];exact h.b1
 ·cases q:x.b.known
  ·exact tb.stayD q h.b3 r e
  ·exact (tb.stay (by rw[h.b1,q]) h.b3).2 r e
 ·rcases tb.til r e1 with ⟨r0,k1,k2⟩|k
  ·obtain⟨g,g1,g2,g3⟩:=h.b4 r0 k1 (by simp only at e2;omega)
   exact⟨g,g1,g2,by omega⟩
  ·simp only at e2;omega
 ·have:=h.g1 g e;simp only;omega
 ·have:=h.g2 g e1 e2;simp only;omega
 ·have:=h.g3 g e1 e2;simp only;omega
theorem InvS.flight{G C:Int}{x:MW}(h:InvS G C x)(fl:List PK)(hf:∀ p∈fl,p∈x.fl):InvS G C { x with fl:=fl }:=by
 obtain⟨c1,c2,c3,c4,c5,c6,c7,c8,c9,c10,c11,c12,c13,c14,c15,c16,c17,c18,c19,c20⟩:=h
 refine⟨c1,c2,c3,c4,c5,c6,c7,c8,c9,fun p hp=>?_,c11,c12,c13,c14,c15,c16,c17,c18,c19,c20⟩
 have:=c10 p (hf p hp)
 cases p with
 | told a s w=>cases a<;>exact this
 | asked a t=>cases a<;>exact this
 | given a t=>cases a<;>exact this
 | back a t=>cases a<;>exact this
 | got a t=>exact this
 | here a s=>cases a<;>exact this
theorem InvS.answers{G C:Int}{x:MW}(h:InvS G C x)(ps:List PK)(hp:∀ p∈ps,okP x p):InvS G C { x with fl:=sendS x.fl ps }:=by
 have hf:∀ p∈sendS x.fl ps,okP x p:=fun p hp'=>by
  rcases Zbn _ _ p hp' with h1|h1
  ·exact h.fl p h1
  ·exact hp p h1
 obtain⟨c1,c2,c3,c4,c5,c6,c7,c8,c9,c10,c11,c12,c13,c14,c15,c16,c17,c18,c19,c20⟩:=h
 refine⟨c1,c2,c3,c4,c5,c6,c7,c8,c9,fun p hp=>?_,c11,c12,c13,c14,c15,c16,c17,c18,c19,c20⟩
 have:=hf p hp
 cases p with
 | told a s w=>cases a<;>exact this
 | asked a t=>cases a<;>exact this
 | given a t=>cases a<;>exact this
 | back a t=>cases a<;>exact this
 | got a t=>exact this
 | here a s=>cases a<;>exact this
theorem InvS.lose{G C:Int}{x:MW}(h:InvS G C x)(k:Nat):InvS G C { x with fl:=outK x.fl k }:=h.flight _ fun _ hp=>Zgp hp
theorem InvS.landS{G C:Int}{x:MW}(h:InvS G C x){p:PK}(hp:okP x p):InvS G C { x with land:=(landS x.land p).1 }/\∀ q∈(landS x.land p).2,okP { x with land:=(landS x.land p).1 } q:=by
 obtain⟨s1,s2,s3,s3'⟩:=h.pa
 obtain⟨s4,s5,s6,s6'⟩:=h.pb
 have same:InvS G C { x with land:=x.land }/\∀ q∈([]:List PK),okP { x with land:=x.land } q:=⟨h,fun _ hq=>by cases hq⟩
 cases p with
 | told a s w=>exact same
 | given a t=>exact same
 | got a t=>exact same
 | here a s=>exact same
 | back a t =>
  cases a
  ·exact absurd hp (by simp[okP])
  ·simp only[okP]at hp
   obtain⟨p1,p2,p3,p4⟩:=hp
   refine⟨?_,fun q hq=>by
    simp only[YtfemiipgkhekiaaGreatDoor.landS,List.mem_singleton]at hq
    subst hq
    exact⟨rfl,p1,p2⟩⟩
   simp only[YtfemiipgkhekiaaGreatDoor.landS]
   split
   ·rename_i g eg
    split
    ·rename_i q
     have nb:∀ r,x.b.r=some r->¬ x.b.clock+4<=r.til:=fun r e1 e2=>by
      obtain⟨g',g1,g2,_⟩:=h.b4 r e1 e2
      rw[eg]at g1
      obtain rfl:=Option.some.inj g1
      rw[q.1]at g2;cases g2
     have hfl:=h.fl
     obtain⟨c1,c2,c3,c4,c5,c6,c7,c8,c9,c10,c11,c12,c13,c14,c15,c16,c17,c18,c19,c20⟩:=h
     refine⟨c1,c2,c3,c4,c5,c6,c7,c8,c9,fun p hp=>?_,c11,c12,fun r e1=>?_,c14,c15,c16,fun r e1 e2=>absurd e2 (nb r e1),fun g e=>(by cases e),fun g e=>(by cases e),fun g e=>(by cases e)⟩
     ·have:=hfl p hp
      cases p with
      | told a s w=>cases a<;>exact this
      | asked a t=>cases a<;>exact this
      | given a t =>
       cases a
       ·simp only[okP]at this ⊢
        refine⟨this.1,this.2.1,fun e=>?_⟩
        obtain⟨g',g1,g2,_⟩:=this.2.2 e
        rw[eg]at g1
        obtain rfl:=Option.some.inj g1
        rw[q.1]at g2;cases g2
       ·exact this
      | back a t=>cases a<;>exact this
      | got a t=>exact this
      | here a s=>cases a<;>exact this
     ·rw[p3]at e1;cases e1
    ·exact h
   ·exact h
 | asked a t =>
  cases a
  ·simp only[okP]at hp
   have hw:wantsS x.land false=true:=by simp[wantsS,s5]
   have key:(∀ g,x.land.gr=some g->¬ (x.land.time<g.til/\¬(g.a=false/\g.at_<=t)))->InvS G C { x with land:={ x.land with gr:=some ⟨false,t,x.land.time+32⟩ } }/\∀ q∈[PK.given false t],okP { x with land:={ x.land with gr:=some ⟨false,t,x.land.time+32⟩ } } q:=fun hn=>by
    have na:∀ r,x.a.r=some r->¬ x.a.clock+4<=r.til:=fun r e1 e2=>by
     obtain⟨g,g1,g2,g3⟩:=h.a4 r e1 e2
     refine hn g g1 ⟨by omega,fun e=>?_⟩
     rw[g2]at e;exact absurd e.1 (by simp)
    have up:∀ g,x.land.gr=some g->g.a=false->(x.b.clock+4<=g.at_+16)->g.at_<=t:=fun g e1 e2 e3=>by
     have k:=h.g2 g e1 e2
     refine Int.not_lt.1 fun hlt=>hn g e1 ⟨by omega,fun e=>by omega⟩
    have hfl:=h.fl
    have hb4:=h.b4
    have hg2:=h.g2
    obtain⟨c1,c2,c3,c4,c5,c6,c7,c8,c9,c10,c11,c12,c13,c14,c15,c16,c17,c18,c19,c20⟩:=h
    refine⟨⟨c1,c2,c3,c4,c5,c6,c7,c8,c9,fun p hp'=>?_,c11,c12,fun r e1 e2=>absurd e2 (na r e1),c14,c15,c16,fun r e1 e2=>⟨_,rfl,rfl,?_⟩,fun g e=>?_,fun g e _=>?_,fun g e e'=>?_⟩,fun q hq=>?_⟩
    ·have:=hfl p hp'
     cases p with
     | told a s w=>cases a<;>exact this
     | asked a t=>cases a<;>exact this
     | given a u =>
      cases a
      ·simp only[okP]at this ⊢
       refine⟨this.1,this.2.1,fun e=>⟨_,rfl,rfl,?_⟩⟩
       obtain⟨g',g1,g2,g3⟩:=this.2.2 e
       have:=up g' g1 g2 (by omega)
       simp only;omega
      ·exact this
     | back a t=>cases a<;>exact this
     | got a t=>exact this
     | here a s=>cases a<;>exact this
    ·obtain⟨g,g1,g2,g3⟩:=hb4 r e1 e2
     have:=up g g1 g2 (by simp only at e2;omega)
     simp only;omega
    ·obtain rfl:=Option.some.inj e
     simp only;omega
    ·obtain rfl:=Option.some.inj e
     simp only;omega
    ·obtain rfl:=Option.some.inj e
     cases e'
    ·rw[List.mem_singleton.1 hq]
     simp only[okP]
     exact⟨hp.1,hp.2,fun _=>⟨_,rfl,rfl,Int.le_refl _⟩⟩
   simp only[YtfemiipgkhekiaaGreatDoor.landS,hw,if_true]
   split
   ·rename_i g eg
    split
    ·exact same
    ·rename_i q
     exact key fun g' e'=>by rw[eg]at e';obtain rfl:=Option.some.inj e';exact q
   ·rename_i eg
    exact key fun g' e'=>by rw[eg]at e';cases e'
  ·have hw:wantsS x.land true=false:=by simp[wantsS,s2]
   simp only[YtfemiipgkhekiaaGreatDoor.landS,hw]
   exact same
theorem Ziz{G:Int}{m:MS}{me:Bool}{p:PK}(h:OkM G m)(hs:∀ a s w,p=.told a s w->0<=s):OkM G (takeS me m p):=by
 unfold takeS
 split
 case isFalse=>exact h
 rename_i hup
 obtain⟨c1,c2,c3,c4,c5,c6,c7,c8,c9⟩:=h
 split
 ·split
  ·exact⟨c1,hs _ _ _ rfl,fun _=>rfl,fun _=>hup,c5,c6,c7,c8,fun e=>by rw[hup]at e;cases e⟩
  ·exact⟨c1,c2,c3,c4,c5,c6,c7,c8,c9⟩
 ·split
  ·refine⟨c1,c2,c3,c4,fun r e=>?_,c6,c7,c8,c9⟩
   simp only[Option.map_eq_some_iff]at e
   obtain⟨r0,e0,rfl⟩:=e
   have:=c5 r0 e0
   unfold givenS
   split
   ·exact this
   ·exact this
  ·exact⟨c1,c2,c3,c4,c5,c6,c7,c8,c9⟩
 ·split
  ·split
   ·split
    ·exact⟨c1,c2,c3,c4,c5,c6,fun k e=>(by cases e),Or.inr rfl,fun e=>by rw[hup]at e;cases e⟩
    ·exact⟨c1,c2,c3,c4,c5,c6,c7,c8,c9⟩
   ·exact⟨c1,c2,c3,c4,c5,c6,c7,c8,c9⟩
  ·exact⟨c1,c2,c3,c4,c5,c6,c7,c8,c9⟩
 ·exact⟨c1,c2,c3,c4,c5,c6,c7,c8,c9⟩
theorem Zda{m:MS}{me:Bool}{p:PK}:(takeS me m p).clock=m.clock/\(takeS me m p).up=m.up:=by
 unfold takeS
 split
 ·split
  ·split<;>simp
  ·split<;>simp
  ·split
   ·split
    ·split<;>simp
    ·simp
   ·simp
  ·simp
 ·simp
theorem InvS.down{G C:Int}{x:MW}(h:InvS G C x){p:PK}(hp:okP x p)(hd:isDownS p=true):InvS G C { x with a:=takeS true x.a p,b:=takeS false x.b p }:=by
 have hs:∀ a s w,p=.told a s w->0<=s:=fun a s w e=>by
  subst e
  cases a<;>simp only[okP]at hp<;>omega
 have oa:=Ziz (me:=true) h.ga hs
 have ob:=Ziz (me:=false) h.gb hs
 have hfl:=h.fl
 cases p with
 | asked a t=>cases hd
 | back a t=>cases hd
 | here a s=>cases hd
 | told a s w =>
  cases a
  ·have ea:takeS true x.a (.told false s w)=x.a:=by unfold takeS;split<;>simp
   rw[ea]at oa ⊢
   obtain⟨rfl,p2,p3⟩:=hp
   by_cases hu:x.b.up=true
   ·by_cases hn:(!x.b.known || decide (x.b.seen<s))=true
    ·have eb:takeS false x.b (.told false s true)={ x.b with known:=true,seen:=s,w:=true }:=by
      unfold takeS;rw[if_pos hu];simp only[beq_self_eq_true,Bool.true_and,hn,if_true]
     rw[eb]at ob ⊢
     obtain⟨c1,c2,c3,c4,c5,c6,c7,c8,c9,c10,c11,c12,c13,c14,c15,c16,c17,c18,c19,c20⟩:=h
     refine⟨c1,ob,c3,c4,c5,c6,p3,c8,c9,fun p hp=>?_,c11,c12,c13,rfl,c15,c16,c17,c18,c19,c20⟩
     have:=hfl p hp
     cases p with
     | told a s w=>cases a<;>exact this
     | asked a t=>cases a<;>exact this
     | given a t=>cases a<;>exact this
     | back a t=>cases a<;>exact this
     | got a t=>exact this
     | here a s=>cases a<;>exact this
    ·have eb:takeS false x.b (.told false s true)=x.b:=by
      unfold takeS;rw[if_pos hu];simp only[beq_self_eq_true,Bool.true_and,hn];rfl
     rw[eb];exact h
   ·have eb:takeS false x.b (.told false s true)=x.b:=by unfold takeS;rw[if_neg hu]
    rw[eb];exact h
  ·have eb:takeS false x.b (.told true s w)=x.b:=by unfold takeS;split<;>simp
   rw[eb]at ob ⊢
   obtain⟨rfl,p2,p3⟩:=hp
   by_cases hu:x.a.up=true
   ·by_cases hn:(!x.a.known || decide (x.a.seen<s))=true
    ·have ea:takeS true x.a (.told true s false)={ x.a with known:=true,seen:=s,w:=false }:=by
      unfold takeS;rw[if_pos hu];simp only[beq_self_eq_true,Bool.true_and,hn,if_true]
     rw[ea]at oa ⊢
     obtain⟨c1,c2,c3,c4,c5,c6,c7,c8,c9,c10,c11,c12,c13,c14,c15,c16,c17,c18,c19,c20⟩:=h
     refine⟨oa,c2,c3,c4,c5,p3,c7,c8,c9,fun p hp=>?_,fun e=>(by cases e),fun e=>⟨(c12 e).1,rfl⟩,c13,c14,c15,c16,c17,c18,c19,c20⟩
     have:=hfl p hp
     cases p with
     | told a s w=>cases a<;>exact this
     | asked a t=>cases a<;>exact this
     | given a t=>cases a<;>exact this
     | back a t =>
      cases a
      ·exact this
      ·simp only[okP]at this ⊢;exact⟨this.1,this.2.1,this.2.2.1,trivial⟩
     | got a t=>exact this
     | here a s=>cases a<;>exact this
    ·have ea:takeS true x.a (.told true s false)=x.a:=by
      unfold takeS;rw[if_pos hu];simp only[beq_self_eq_true,Bool.true_and,hn];rfl
     rw[ea];exact h
   ·have ea:takeS true x.a (.told true s false)=x.a:=by unfold takeS;rw[if_neg hu]
    rw[ea];exact h
 | given a t =>
  cases a
  ·have ea:takeS true x.a (.given false t)=x.a:=by unfold takeS;split<;>simp
   rw[ea]at oa ⊢
   obtain⟨p1,p2,p3⟩:=hp
   by_cases hu:x.b.up=true
   ·by_cases hn:fitsS x.b t=true
    ·have eb:takeS false x.b (.given false t)={ x.b with r:=x.b.r.map (givenS t) }:=by
      unfold takeS;rw[if_pos hu];simp only[beq_self_eq_true,Bool.true_and,hn,if_true]
     rw[eb]at ob ⊢
     obtain⟨c1,c2,c3,c4,c5,c6,c7,c8,c9,c10,c11,c12,c13,c14,c15,c16,c17,c18,c19,c20⟩:=h
     refine⟨c1,ob,c3,c4,c5,c6,c7,c8,c9,fun p hp=>?_,c11,c12,c13,c14,c15,fun r e=>?_,fun r e e2=>?_,c18,c19,c20⟩
     ·have:=hfl p hp
      cases p with
      | told a s w=>cases a<;>exact this
      | asked a t=>cases a<;>exact this
      | given a t=>cases a<;>exact this
      | back a t=>cases a<;>exact this
      | got a t=>exact this
      | here a s=>cases a<;>exact this
     ·simp only[Option.map_eq_some_iff]at e
      obtain⟨r0,e0,rfl⟩:=e
      have:=c16 r0 e0
      unfold givenS;split<;>exact this
     ·simp only[Option.map_eq_some_iff]at e
      obtain⟨r0,e0,rfl⟩:=e
      unfold givenS at e2 ⊢
      split
      ·rename_i q
       rw[if_pos q]at e2
       obtain⟨g,g1,g2,g3⟩:=p3 e2
       exact⟨g,g1,g2,by simp only;omega⟩
      ·rename_i q
       rw[if_neg q]at e2
       exact c17 r0 e0 e2
    ·have eb:takeS false x.b (.given false t)=x.b:=by
      unfold takeS;rw[if_pos hu];simp only[beq_self_eq_true,Bool.true_and,hn];rfl
     rw[eb];exact h
   ·have eb:takeS false x.b (.given false t)=x.b:=by unfold takeS;rw[if_neg hu]
    rw[eb];exact h
  ·exact absurd hp (by simp[okP])
 | got a t =>
  obtain⟨rfl,p2,p3⟩:=hp
  have eb:takeS false x.b (.got true t)=x.b:=by unfold takeS;split<;>simp
  rw[eb]at ob ⊢
  have ea:takeS true x.a (.got true t)=x.a\/takeS true x.a (.got true t)={ x.a with g:=none }:=by
   unfold takeS
   split
   ·simp only[beq_self_eq_true,if_true]
    split
    ·split
     ·exact Or.inr rfl
     ·exact Or.inl rfl
    ·exact Or.inl rfl
   ·exact Or.inl rfl
  rcases ea with ea|ea
  ·rw[ea];exact h
  ·rw[ea]at oa ⊢
   obtain⟨c1,c2,c3,c4,c5,c6,c7,c8,c9,c10,c11,c12,c13,c14,c15,c16,c17,c18,c19,c20⟩:=h
   refine⟨oa,c2,c3,c4,c5,c6,c7,c8,c9,fun p hp=>?_,c11,fun e=>absurd rfl e,c13,c14,c15,c16,c17,c18,c19,c20⟩
   have:=hfl p hp
   cases p with
   | told a s w=>cases a<;>exact this
   | asked a t=>cases a<;>exact this
   | given a t=>cases a<;>exact this
   | back a t=>cases a<;>exact this
   | got a t=>exact this
   | here a s=>cases a<;>exact this
theorem InvS.bring{G C:Int}{x:MW}(h:InvS G C x)(k:Nat):InvS G C (bringS x k):=by
 unfold bringS
 split
 ·exact h
 ·rename_i p hk
  have hp:=h.fl p (List.mem_of_getElem? hk)
  split
  ·rename_i hd
   exact (h.down hp hd).flight _ fun _ hq=>Zgp hq
  ·obtain⟨h1,h2⟩:=h.landS hp
   refine (h1.flight (outK x.fl k) fun _ hq=>Zgp hq).answers _ fun q hq=>?_
   have:=h2 q hq
   cases q with
   | told a s w=>cases a<;>exact this
   | asked a t=>cases a<;>exact this
   | given a t=>cases a<;>exact this
   | back a t=>cases a<;>exact this
   | got a t=>exact this
   | here a s=>cases a<;>exact this
theorem Zqx{G:Int}{m:MS}{b:Bool}(h:OkM G m):OkM G (fallS b m):=by
 obtain⟨c1,c2,c3,c4,c5,c6,c7,c8,c9⟩:=h
 refine⟨c1,Int.le_refl _,fun e=>(by cases e),fun e=>(by cases e),fun r e=>?_,fun k e=>(by cases e),fun k e=>(by cases e),Or.inl rfl,fun _=>⟨rfl,rfl,rfl⟩⟩
 simp only[fallS]at e
 split at e
 ·rename_i r0 e0
  split at e
  ·split at e
   ·obtain rfl:=Option.some.inj e
    exact⟨by simp,by simp,by simp⟩
   ·obtain rfl:=Option.some.inj e
    exact c5 _ e0
  ·cases e
 ·cases e
theorem Zjk{m:MS}{b:Bool}{r:RS}(e:(fallS b m).r=some r):∃ r0,m.r=some r0/\r.til=r0.til/\(r0.st≠6->r.st≠6):=by
 simp only[fallS]at e
 split at e
 ·rename_i r0 e0
  split at e
  ·split at e
   ·obtain rfl:=Option.some.inj e
    exact⟨r0,e0,rfl,fun _=>by simp⟩
   ·obtain rfl:=Option.some.inj e
    exact⟨_,e0,rfl,id⟩
  ·cases e
 ·cases e
theorem InvS.fallA{G C:Int}{x:MW}(h:InvS G C x)(b:Bool):InvS G C { x with a:=fallS b x.a }:=by
 have hfl:=h.fl
 have hG:=h.a4
 obtain⟨c1,c2,c3,c4,c5,c6,c7,c8,c9,c10,c11,c12,c13,c14,c15,c16,c17,c18,c19,c20⟩:=h
 refine⟨Zqx c1,c2,c3,c4,c5,by simp[fallS],c7,c8,c9,fun p hp=>?_,fun e=>(by cases e),fun e=>absurd rfl e,fun r e e2=>?_,c14,c15,c16,c17,c18,c19,c20⟩
 ·have:=hfl p hp
  cases p with
  | told a s w=>cases a<;>exact this
  | asked a t=>cases a<;>exact this
  | given a t=>cases a<;>exact this
  | back a t =>
   cases a
   ·exact this
   ·simp only[okP]at this ⊢
    refine⟨this.1,this.2.1,?_,rfl⟩
    simp only[fallS,this.2.2.1]
  | got a t=>exact this
  | here a s=>cases a<;>exact this
 ·obtain⟨r0,e0,e1,_⟩:=Zjk e
  obtain⟨g,g1,g2,g3⟩:=hG r0 e0 (by simp only[fallS]at e2;omega)
  exact⟨g,g1,g2,by simp only[fallS];omega⟩
theorem InvS.fallB{G C:Int}{x:MW}(h:InvS G C x)(b:Bool):InvS G C { x with b:=fallS b x.b }:=by
 have hfl:=h.fl
 have hG:=h.b4
 obtain⟨c1,c2,c3,c4,c5,c6,c7,c8,c9,c10,c11,c12,c13,c14,c15,c16,c17,c18,c19,c20⟩:=h
 refine⟨c1,Zqx c2,c3,c4,c5,c6,by simp[fallS],c8,c9,fun p hp=>?_,c11,c12,c13,rfl,rfl,fun r e=>?_,fun r e e2=>?_,c18,c19,c20⟩
 ·have:=hfl p hp
  cases p with
  | told a s w=>cases a<;>exact this
  | asked a t=>cases a<;>exact this
  | given a t=>cases a<;>exact this
  | back a t=>cases a<;>exact this
  | got a t=>exact this
  | here a s=>cases a<;>exact this
 ·obtain⟨r0,e0,_,e1⟩:=Zjk e
  exact e1 (c16 r0 e0)
 ·obtain⟨r0,e0,e1,_⟩:=Zjk e
  obtain⟨g,g1,g2,g3⟩:=hG r0 e0 (by simp only[fallS]at e2;omega)
  exact⟨g,g1,g2,by omega⟩
theorem Zq0{G:Int}{m:MS}(h:OkM G m):OkM G (riseS m):=by
 obtain⟨c1,c2,c3,c4,c5,c6,c7,c8,c9⟩:=h
 exact⟨c1,c2,c3,fun _=>rfl,c5,c6,c7,c8,fun e=>by cases e⟩
theorem InvS.riseA{G C:Int}{x:MW}(h:InvS G C x):InvS G C { x with a:=riseS x.a }:=by
 have hfl:=h.fl
 obtain⟨c1,c2,c3,c4,c5,c6,c7,c8,c9,c10,c11,c12,c13,c14,c15,c16,c17,c18,c19,c20⟩:=h
 refine⟨Zq0 c1,c2,c3,c4,c5,c6,c7,c8,c9,fun p hp=>?_,c11,c12,c13,c14,c15,c16,c17,c18,c19,c20⟩
 have:=hfl p hp
 cases p with
 | told a s w=>cases a<;>exact this
 | asked a t=>cases a<;>exact this
 | given a t=>cases a<;>exact this
 | back a t=>cases a<;>exact this
 | got a t=>exact this
 | here a s=>cases a<;>exact this
theorem InvS.riseB{G C:Int}{x:MW}(h:InvS G C x):InvS G C { x with b:=riseS x.b }:=by
 have hfl:=h.fl
 obtain⟨c1,c2,c3,c4,c5,c6,c7,c8,c9,c10,c11,c12,c13,c14,c15,c16,c17,c18,c19,c20⟩:=h
 refine⟨c1,Zq0 c2,c3,c4,c5,c6,c7,c8,c9,fun p hp=>?_,c11,c12,c13,c14,c15,c16,c17,c18,c19,c20⟩
 have:=hfl p hp
 cases p with
 | told a s w=>cases a<;>exact this
 | asked a t=>cases a<;>exact this
 | given a t=>cases a<;>exact this
 | back a t=>cases a<;>exact this
 | got a t=>exact this
 | here a s=>cases a<;>exact this
theorem InvS.mono{G C D:Int}{x:MW}(h:InvS G C x)(hd:C<=D):InvS G D x:=by
 obtain⟨c1,c2,c3,c4,c5,c6,c7,c8,c9,c10,c11,c12,c13,c14,c15,c16,c17,c18,c19,c20⟩:=h
 exact⟨c1,c2,by omega,by omega,by omega,c6,c7,c8,c9,c10,c11,c12,c13,c14,c15,c16,c17,c18,c19,c20⟩
theorem InvS.step{G C:Int}{x:MW}{ra rb:Int}(h:InvS G C x)(hG:0<=G)(h1:1<=ra/\ra<=4)(h2:1<=rb/\rb<=4)(e:EK):InvS G (C+4) (stepS G ra rb x e):=by
 cases e with
 | tick=>exact h.tick hG h1 h2
 | bring k=>exact (h.bring k).mono (by omega)
 | double k =>
  simp only[stepS]
  split
  ·rename_i p hk
   split
   ·exact (h.flight (x.fl++[p]) fun q hq=>by
     rcases List.mem_append.1 hq with hq|hq
     ·exact hq
     ·rw[List.mem_singleton.1 hq];exact List.mem_of_getElem? hk).mono (by omega)
   ·exact h.mono (by omega)
  ·exact h.mono (by omega)
 | lose k=>exact (h.lose k).mono (by omega)
 | fall a m =>
  cases a
  ·exact (h.fallB m).mono (by omega)
  ·exact (h.fallA m).mono (by omega)
 | rise a =>
  cases a
  ·exact h.riseB.mono (by omega)
  ·exact h.riseA.mono (by omega)
 | none=>exact h.mono (by omega)
def dlS(y:MW)(p:PK):MW:=if isDownS p then { y with a:=takeS true y.a p,b:=takeS false y.b p } else { y with land:=(landS y.land p).1,fl:=y.fl++(landS y.land p).2 }
theorem Zi5(l:LS)(p:PK):(landS l p).2.length<=1:=by
 unfold landS
 repeat' split
 all_goals simp
theorem Zcz:∀ (ps fl:List PK),fl.length+ps.length<=300->sendS fl ps=fl++ps
 | [],fl,_=>by simp[sendS]
 | p::ps,fl,h=>by
  have e:sendS fl (p::ps)=sendS (fl++[p]) ps:=by
   simp only[sendS,List.foldl_cons]
   rw[if_pos (by simp at h;omega)]
  rw[e,Zcz ps _ (by simp at h ⊢;omega)]
  simp
theorem Zcp:∀ (ps qs:List PK) (x:MW),x.fl=ps++qs->x.fl.length<=300->bringsS ps.length x=ps.foldl dlS { x with fl:=qs }
 | [],qs,x,h,_=>by
  simp only[List.nil_append]at h
  subst h
  rfl
 | p::ps,qs,x,h,hl=>by
  obtain⟨land,a,b,fl⟩:=x
  simp only at h hl
  subst h
  have h1:bringS ⟨land,a,b,p::ps++qs⟩ 0=if isDownS p then ⟨land,takeS true a p,takeS false b p,ps++qs⟩ else ⟨(landS land p).1,a,b,ps++(qs++(landS land p).2)⟩:=by
   simp only[bringS,List.cons_append,List.getElem?_cons_zero]
   split
   ·simp[outK]
   ·have:=Zi5 land p
    simp only[outK,List.take_zero,List.drop_succ_cons,List.drop_zero,List.nil_append]
    rw[Zcz _ _ (by simp at hl ⊢;omega)]
    simp
  rw[List.length_cons,bringsS,h1,List.foldl_cons]
  simp only[dlS]
  split
  ·exact Zcp ps qs _ rfl (by simp at hl ⊢;omega)
  ·have:=Zi5 land p
   exact Zcp ps _ _ rfl (by simp at hl ⊢;omega)
theorem Zsw(l:LS):(toldS l).length<=2:=by
 unfold toldS;split<;>split<;>simp
theorem Zs0(a:Bool)(m:MS):(outS a m).length<=3:=by
 unfold outS;split<;>split<;>simp
theorem Zna(G:Int)(a:Bool)(m:MS)(r:Int):(tickS G a m r).2.length<=3:=by
 unfold tickS;split
 ·exact Zs0 _ _
 ·simp
theorem Zvh:∀ (ps:List PK) (y:MW),(∀ p∈y.fl,isDownS p=true)->∀ p∈(ps.foldl dlS y).fl,isDownS p=true
 | [],y,h=>h
 | p::ps,y,h=>by
  refine Zvh ps _ fun q hq=>?_
  unfold dlS at hq
  split at hq
  ·exact h q hq
  ·rcases List.mem_append.1 hq with hq|hq
   ·exact h q hq
   ·unfold landS at hq
    repeat' split at hq
    all_goals first|(cases hq;done)|(rw[List.mem_singleton.1 hq];rfl)
theorem Zq8:∀ (ps:List PK) (y:MW),(∀ p∈ps,isDownS p=true)->(ps.foldl dlS y).fl=y.fl/\(ps.foldl dlS y).land=y.land
 | [],y,_=>⟨rfl,rfl⟩
 | p::ps,y,h=>by
  have e:=Zq8 ps (dlS y p) fun q hq=>h q (List.mem_cons_of_mem _ hq)
  have h1:(dlS y p).fl=y.fl/\(dlS y p).land=y.land:=by
   unfold dlS;rw[if_pos (h p List.mem_cons_self)];simp
  exact⟨e.1.trans h1.1,e.2.trans h1.2⟩
theorem Zm3(G ra rb:Int)(x:MW)(hl:(tickMW G ra rb x).fl.length<=300) :
  ∃ y,y=(tickMW G ra rb x).fl.foldl dlS { tickMW G ra rb x with fl:=[] }/\(∀ p∈y.fl,isDownS p=true)/\roundS G ra rb x=y.fl.foldl dlS { y with fl:=[] }:=by
 refine⟨_,rfl,Zvh _ _ (fun p hp=>by cases hp),?_⟩
 have e1:=Zcp (tickMW G ra rb x).fl [] (tickMW G ra rb x) (by simp) hl
 have h2:(bringsS (tickMW G ra rb x).fl.length (tickMW G ra rb x)).fl.length<=300:=by
  rw[e1]
  have key:∀ (ps:List PK) (y:MW),(ps.foldl dlS y).fl.length<=y.fl.length+ps.length:=by
   intro ps
   induction ps with
   | nil=>intro y;simp
   | cons p ps ih =>
    intro y
    have:=ih (dlS y p)
    have h3:(dlS y p).fl.length<=y.fl.length+1:=by
     unfold dlS;split
     ·simp
     ·have:=Zi5 y.land p
      simp;omega
    simp only[List.foldl_cons,List.length_cons]
    omega
  have:=key (tickMW G ra rb x).fl { tickMW G ra rb x with fl:=[] }
  simp at this
  omega
 have e2:=Zcp (bringsS (tickMW G ra rb x).fl.length (tickMW G ra rb x)).fl [] (bringsS (tickMW G ra rb x).fl.length (tickMW G ra rb x)) (by simp) h2
 simp only[roundS]
 rw[e2,e1]
theorem Zgb:∀ (ps fl:List PK),fl.length<=300->(sendS fl ps).length<=300
 | [],fl,h=>h
 | p::ps,fl,h=>by
  refine Zgb ps _ ?_
  dsimp only
  split
  ·simp;omega
  ·exact h
theorem Zir(G ra rb:Int)(x:MW)(h:x.fl.length<=300):(tickMW G ra rb x).fl.length<=300:=Zgb _ _ (Zgb _ _ (Zgb _ _ h))
theorem Zm0(G ra rb:Int)(x:MW)(h:x.fl.length<=300):(roundS G ra rb x).fl=[]:=by
 obtain⟨y,-,h2,h3⟩:=Zm3 G ra rb x (Zir G ra rb x h)
 rw[h3,(Zq8 _ _ h2).1]
theorem InvS.brings{G C:Int}:∀ (n:Nat) {x:MW},InvS G C x->InvS G C (bringsS n x)
 | 0,_,h=>h
 | n+1,_,h=>InvS.brings n (h.bring 0)
theorem InvS.round{G C:Int}{x:MW}{ra rb:Int}(h:InvS G C x)(hG:0<=G)(h1:1<=ra/\ra<=4)(h2:1<=rb/\rb<=4):InvS G (C+4) (roundS G ra rb x):=by
 unfold roundS
 exact InvS.brings _ (InvS.brings _ (h.tick hG h1 h2))
theorem dl_A:∀ (ps:List PK) (y:MW),(∀ p∈ps,(∃ t,p=.asked true t)\/(∃ t,p=.back true t)\/∃ s,p=.here true s)->wantsS y.land true=false ->
  (ps.foldl dlS y).a=y.a/\(ps.foldl dlS y).b=y.b/\(∃ ts:List Int,(ps.foldl dlS y).fl=y.fl++ts.map (PK.got true))/\(ps.foldl dlS y).land.pa=y.land.pa/\(ps.foldl dlS y).land.pb=y.land.pb/\(ps.foldl dlS y).land.time=y.land.time/\((ps.foldl dlS y).land.gr=y.land.gr\/(ps.foldl dlS y).land.gr=none)
 | [],y,_,_=>⟨rfl,rfl,⟨[],by simp⟩,rfl,rfl,rfl,Or.inl rfl⟩
 | p::ps,y,h,hw=>by
  have h1:(dlS y p).a=y.a/\(dlS y p).b=y.b/\(∃ ts:List Int,(dlS y p).fl=y.fl++ts.map (PK.got true))/\(dlS y p).land.pa=y.land.pa/\(dlS y p).land.pb=y.land.pb/\(dlS y p).land.time=y.land.time/\((dlS y p).land.gr=y.land.gr\/(dlS y p).land.gr=none):=by
   rcases h p List.mem_cons_self with ⟨t,rfl⟩|⟨t,rfl⟩|⟨s,rfl⟩
   ·simp only[dlS,isDownS,landS,hw]
    exact⟨rfl,rfl,⟨[],by simp⟩,rfl,rfl,rfl,Or.inl rfl⟩
   ·simp only[dlS,isDownS,landS,Bool.false_eq_true,if_false]
    refine⟨trivial,trivial,⟨[t],rfl⟩,?_,?_,?_,?_⟩
    ·split
     ·split<;>rfl
     ·rfl
    ·split
     ·split<;>rfl
     ·rfl
    ·split
     ·split<;>rfl
     ·rfl
    ·split
     ·split
      ·exact Or.inr rfl
      ·exact Or.inl rfl
     ·exact Or.inl rfl
   ·exact⟨rfl,rfl,⟨[],by simp[dlS,isDownS,landS]⟩,rfl,rfl,rfl,Or.inl rfl⟩
  obtain⟨k1,k2,⟨ts,k3⟩,k4,k5,k6,k7⟩:=h1
  obtain⟨e1,e2,⟨us,e3⟩,e4,e5,e6,e7⟩:=dl_A ps (dlS y p) (fun q hq=>h q (List.mem_cons_of_mem _ hq)) (by simp only[wantsS,k4,if_true];simpa [wantsS] using hw)
  refine⟨e1.trans k1,e2.trans k2,⟨ts++us,by rw[List.foldl_cons,e3,k3];simp⟩,e4.trans k4,e5.trans k5,e6.trans k6,?_⟩
  rw[List.foldl_cons]
  rcases e7 with e7|e7
  ·rw[e7];exact k7
  ·exact Or.inr e7
def sameA(m n:MS):Prop:=n.up=m.up/\n.clock=m.clock/\n.known=m.known/\n.seen=m.seen/\n.w=m.w/\n.r=m.r/\n.k=m.k
theorem Zsz(m:MS)(t:Int):sameA m (takeS true m (.got true t)):=by
 unfold takeS sameA
 split
 ·simp only[beq_self_eq_true,if_true]
  split
  ·split<;>simp
  ·simp
 ·simp
theorem Zql:∀ (ts:List Int) (y:MW),sameA y.a ((ts.map (PK.got true)).foldl dlS y).a/\((ts.map (PK.got true)).foldl dlS y).b=y.b/\((ts.map (PK.got true)).foldl dlS y).land=y.land
 | [],y=>⟨⟨rfl,rfl,rfl,rfl,rfl,rfl,rfl⟩,rfl,rfl⟩
 | t::ts,y=>by
  obtain⟨e1,e2,e3⟩:=Zql ts (dlS y (.got true t))
  have k:sameA y.a (dlS y (.got true t)).a/\(dlS y (.got true t)).b=y.b/\(dlS y (.got true t)).land=y.land:=by
   refine⟨Zsz _ _,?_,rfl⟩
   simp only[dlS,isDownS,if_true]
   unfold takeS;split<;>simp
  obtain⟨⟨a1,a2,a3,a4,a5,a6,a7⟩,b,c⟩:=k
  obtain⟨d1,d2,d3,d4,d5,d6,d7⟩:=e1
  exact⟨⟨d1.trans a1,d2.trans a2,d3.trans a3,d4.trans a4,d5.trans a5,d6.trans a6,d7.trans a7⟩,e2.trans b,e3.trans c⟩
theorem Zow(x:MW)(G ra rb:Int)(h:x.fl=[]):(tickMW G ra rb x).fl=toldS x.land++((tickS G true x.a ra).2++(tickS G false x.b rb).2):=by
 have h1:=Zsw x.land
 have h2:=Zna G true x.a ra
 have h3:=Zna G false x.b rb
 simp only[tickMW,h]
 have e1:sendS [] (toldS x.land)=toldS x.land:=by rw[Zcz _ _ (by simp;omega)];simp
 have e2:sendS (toldS x.land) (tickS G true x.a ra).2=toldS x.land++(tickS G true x.a ra).2:=Zcz _ _ (by omega)
 rw[e1,e2,Zcz _ _ (by simp;omega)]
 simp
structure Rounded(G ra rb:Int)(x z:MW):Prop where
 aup:z.a.up=true
 bup:z.b.up=true
 aknown:z.a.known=true
 aw:z.a.w=false
 bknown:z.b.known=true
 ar:z.a.r=(tickS G true x.a ra).1.r
 aclock:z.a.clock=x.a.clock+ra
 bclock:z.b.clock=x.b.clock+rb
 time:z.land.time=x.land.time+2
 gr:∀ g,z.land.gr=some g->g.a=true->x.land.gr=some g
 quiet:askS (runsS G (onS x.b rb))=none->z.b.k=(runsS G (onS x.b rb)).k/\z.b.r=(runsS G (onS x.b rb)).r
 asks:∀ k,askS (runsS G (onS x.b rb))=some k->z.b.k=some k/\((∀ g,x.land.gr=some g->g.a=true->g.til<=x.land.time+2)->z.b.r=(runsS G (onS x.b rb)).r.map (givenS (x.b.clock+rb)))
 seen:z.a.seen<=1000
theorem Zme{G C:Int}{x:MW}{ra rb:Int}(h:InvS G C x)(hG:0<=G)(h1:1<=ra/\ra<=4)(h2:1<=rb/\rb<=4)(hf:x.fl=[])(hua:x.a.up=true)(hub:x.b.up=true):Rounded G ra rb x (roundS G ra rb x):=by
 have hinv:=h.round hG h1 h2
 obtain⟨y,hy,hyd,hz⟩:=Zm3 G ra rb x (Zir G ra rb x (by rw[hf];simp))
 rw[Zow x G ra rb hf]at hy
 obtain⟨s1,s2,s3,s3'⟩:=h.pa
 obtain⟨s4,s5,s6,s6'⟩:=h.pb
 have ta:=Zdl true hG h1.1 h.ga
 have tb:=Zdl false hG h2.1 h.gb
 have oa:=@Zcx G true x.a ra
 have hb2:(tickS G false x.b rb).1.g=none:=tb.gives h.b2 fun r e=>by
  cases q:x.b.known
  ·exact Or.inr rfl
  ·exact Or.inl ⟨by rw[h.b1,q],h.b3 r e⟩
 have hts:toldS x.land=[PK.told true s1 false,PK.told false s4 true]:=by simp[toldS,s2,s5]
 -- the first two
 have hA1:takeS true (tickS G true x.a ra).1 (.told true s1 false)={ (tickS G true x.a ra).1 with known:=true,seen:=if (!(tickS G true x.a ra).1.known || decide ((tickS G true x.a ra).1.seen<s1))=true then s1 else (tickS G true x.a ra).1.seen,w:=false }:=by
  have hup:(tickS G true x.a ra).1.up=true:=ta.up.trans hua
  unfold takeS
  rw[if_pos hup]
  simp only[beq_self_eq_true,Bool.true_and]
  split
  ·rfl
  ·rename_i q
   simp only[Bool.or_eq_true,Bool.not_eq_true',decide_eq_true_eq,not_or,Bool.not_eq_false,Int.not_lt]at q
   have hw:(tickS G true x.a ra).1.w=false:=by
    rw[ta.w]
    cases e:x.a.w
    ·rfl
    ·have:=(h.a1 e).1
     rw[ta.seen]at q
     omega
   generalize (tickS G true x.a ra).1=m at *
   obtain⟨up,clock,known,seen,w,r,k,g⟩:=m
   simp only at q hw ⊢
   rw[q.1,hw]
 have hA2:takeS false (tickS G false x.b rb).1 (.told true s1 false)=(tickS G false x.b rb).1:=by unfold takeS;split<;>simp
 obtain⟨B1,hB1⟩:∃ B1,takeS false (tickS G false x.b rb).1 (.told false s4 true)=B1:=⟨_,rfl⟩
 have hB1f:B1.up=true/\B1.clock=x.b.clock+rb/\B1.known=true/\B1.r=(tickS G false x.b rb).1.r/\B1.k=(tickS G false x.b rb).1.k:=by
  have hup:(tickS G false x.b rb).1.up=true:=tb.up.trans hub
  rw[<- hB1,<- tb.clock]
  unfold takeS
  rw[if_pos hup]
  simp only[beq_self_eq_true,Bool.true_and]
  split
  ·exact⟨hup,rfl,rfl,rfl,rfl⟩
  ·rename_i q
   simp only[Bool.or_eq_true,Bool.not_eq_true',decide_eq_true_eq,not_or,Bool.not_eq_false,Int.not_lt]at q
   exact⟨hup,rfl,q.1,rfl,rfl⟩
 have hB2:takeS true (takeS true (tickS G true x.a ra).1 (.told true s1 false)) (.told false s4 true)=takeS true (tickS G true x.a ra).1 (.told true s1 false):=by
  generalize takeS true (tickS G true x.a ra).1 (.told true s1 false)=m
  unfold takeS;split<;>simp
 rw[List.foldl_append,List.foldl_append,hts]at hy
 simp only[List.foldl_cons,List.foldl_nil]at hy
 rw[show dlS (dlS { tickMW G ra rb x with fl:=[] } (.told true s1 false)) (.told false s4 true)=⟨{ x.land with time:=x.land.time+2 },takeS true (tickS G true x.a ra).1 (.told true s1 false),B1,[]⟩ by
  simp only[dlS,isDownS,if_true,tickMW,hA2,hB2,hB1]]at hy
 rw[hA1]at hy
 -- what a sends
 obtain⟨e1,e2,⟨ts,e3⟩,e4,e5,e6,e7⟩:=dl_A (tickS G true x.a ra).2 ⟨{ x.land with time:=x.land.time+2 },{ (tickS G true x.a ra).1 with known:=true,seen:=if (!(tickS G true x.a ra).1.known || decide ((tickS G true x.a ra).1.seen<s1))=true then s1 else (tickS G true x.a ra).1.seen,w:=false },B1,[]⟩ (fun p hp=>by
  rcases oa hp with rfl|⟨g,_,rfl⟩|rfl
  ·exact Or.inl ⟨_,rfl⟩
  ·exact Or.inr (Or.inl ⟨_,rfl⟩)
  ·exact Or.inr (Or.inr ⟨_,rfl⟩)) (by simp[wantsS,s2])
 generalize hW:List.foldl dlS (⟨{ x.land with time:=x.land.time+2 },{ (tickS G true x.a ra).1 with known:=true,seen:=if (!(tickS G true x.a ra).1.known || decide ((tickS G true x.a ra).1.seen<s1))=true then s1 else (tickS G true x.a ra).1.seen,w:=false },B1,[]⟩:MW) (tickS G true x.a ra).2=W at *
 obtain⟨wl,wa,wb,wf⟩:=W
 simp only[List.nil_append]at e1 e2 e3 e4 e5 e6 e7
 subst e2
 -- what b sends
 have hTb:tickS G false x.b rb=(asksS (runsS G (onS x.b rb)),outS false (runsS G (onS x.b rb))):=by
  unfold tickS;rw[if_pos hub]
 have hmg:(runsS G (onS x.b rb)).g=none:=by
  have:(asksS (runsS G (onS x.b rb))).g=(runsS G (onS x.b rb)).g:=by unfold asksS;split<;>rfl
  rw[<- this];rw[hTb]at hb2;exact hb2
 have hmr:(asksS (runsS G (onS x.b rb))).r=(runsS G (onS x.b rb)).r:=by unfold asksS;split<;>rfl
 have hmc:(runsS G (onS x.b rb)).clock=x.b.clock+rb:=by
  have:(asksS (runsS G (onS x.b rb))).clock=(runsS G (onS x.b rb)).clock:=by unfold asksS;split<;>rfl
  rw[<- this];have:=tb.clock;rw[hTb]at this;exact this
 have hsa:=hinv.sa
 have hout:(tickS G false x.b rb).2=(match askS (runsS G (onS x.b rb)) with
  | some _=>[PK.asked false (x.b.clock+rb)]
  | none=>[])++[PK.here false (runsS G (onS x.b rb)).seen]:=by
  rw[hTb];simp only[outS,hmg,hmc];cases askS (runsS G (onS x.b rb))<;>rfl
 have hhere:∀ (y:MW) (s:Int),dlS y (.here false s)=y:=fun y s=>by simp[dlS,isDownS,landS]
 rw[hout,List.foldl_append]at hy
 simp only[List.foldl_cons,List.foldl_nil,hhere]at hy
 rw[hTb]at hB1f
 simp only[hmr]at hB1f
 obtain⟨b1,b2,b3,b4,b5⟩:=hB1f
 cases ha:askS (runsS G (onS x.b rb)) with
 | none =>
  rw[ha]at hy
  simp only[List.foldl_nil]at hy
  obtain⟨g1,g2,g3⟩:=Zql ts ⟨wl,wa,wb,[]⟩
  have hz':roundS G ra rb x=(ts.map (PK.got true)).foldl dlS ⟨wl,wa,wb,[]⟩:=by
   rw[hz,hy]
   simp only[e3]
  rw[hz']at hsa ⊢
  obtain⟨f1,f2,f3,f4,f5,f6,f7⟩:=g1
  simp only at f1 f2 f3 f4 f5 f6 f7 g2 g3
  have hk:(asksS (runsS G (onS x.b rb))).k=(runsS G (onS x.b rb)).k:=by unfold asksS;rw[ha]
  refine⟨?_,by rw[g2];exact b1,?_,?_,by rw[g2];exact b3,?_,?_,by rw[g2];exact b2,by rw[g3];exact e6,fun g e e'=>?_,fun _=>by rw[g2,b4,b5,hk];exact⟨rfl,rfl⟩,fun k e=>(by rw[ha]at e;cases e),hsa⟩
  ·rw[f1,e1];exact ta.up.trans hua
  ·rw[f3,e1]
  ·rw[f5,e1]
  ·rw[f6,e1]
  ·rw[f2,e1];exact ta.clock
  ·rw[g3]at e
   rcases e7 with e7|e7
   ·rw[e7]at e;exact e
   ·rw[e7]at e;cases e
 | some k =>
  rw[ha]at hy
  simp only[List.foldl_cons,List.foldl_nil]at hy
  obtain⟨k1,k2,k3,k4⟩:=Zte ha
  have hk:(asksS (runsS G (onS x.b rb))).k=some k:=by unfold asksS;rw[ha]
  have hww:wantsS wl false=true:=by simp only[wantsS,Bool.false_eq_true,if_false,e5,s5]
  -- the book's answer
  have hl:(landS wl (.asked false (x.b.clock+rb))=(wl,[]))\/(landS wl (.asked false (x.b.clock+rb))=({ wl with gr:=some ⟨false,x.b.clock+rb,wl.time+32⟩ },[.given false (x.b.clock+rb)])):=by
   simp only[landS,hww,if_true]
   split
   ·split
    ·exact Or.inl rfl
    ·exact Or.inr rfl
   ·exact Or.inr rfl
  have hlg:(∀ g,x.land.gr=some g->g.a=true->g.til<=x.land.time+2)->landS wl (.asked false (x.b.clock+rb))=({ wl with gr:=some ⟨false,x.b.clock+rb,wl.time+32⟩ },[.given false (x.b.clock+rb)]):=fun hn=>by
   simp only[landS,hww,if_true]
   split
   ·rename_i g eg
    rw[if_neg]
    rcases e7 with e7|e7
    ·rw[e7]at eg
     rintro⟨q1,q2⟩
     rw[e6]at q1
     cases qa:g.a
     ·have:=h.g2 g eg qa
      exact q2 ⟨qa,by omega⟩
     ·have:=hn g eg qa
      omega
    ·rw[e7]at eg;cases eg
   ·rfl
  have hzz:roundS G ra rb x=((ts.map (PK.got true))++(landS wl (.asked false (x.b.clock+rb))).2).foldl dlS ⟨(landS wl (.asked false (x.b.clock+rb))).1,wa,wb,[]⟩:=by
   rw[hz,hy]
   simp only[dlS,isDownS,Bool.false_eq_true,if_false,e3]
  rw[List.foldl_append]at hzz
  have hgot:=Zql ts ⟨(landS wl (.asked false (x.b.clock+rb))).1,wa,wb,[]⟩
  generalize List.foldl dlS ⟨(landS wl (.asked false (x.b.clock+rb))).1,wa,wb,[]⟩ (ts.map (PK.got true))=V at *
  obtain⟨⟨f1,f2,f3,f4,f5,f6,f7⟩,g2,g3⟩:=hgot
  simp only at f1 f2 f3 f4 f5 f6 f7 g2 g3
  rw[hzz]at hsa ⊢
  rcases hl with hl|hl
  ·rw[hl]at hsa g3 ⊢
   simp only[List.foldl_nil]at hsa g3 ⊢
   refine⟨?_,by rw[g2];exact b1,?_,?_,by rw[g2];exact b3,?_,?_,by rw[g2];exact b2,by rw[g3];exact e6,fun g e e'=>?_,fun e=>(by rw[ha]at e;cases e),fun k' e=>⟨by rw[g2,b5,hk];exact (ha.symm.trans e),fun hn=>?_⟩,hsa⟩
   ·rw[f1,e1];exact ta.up.trans hua
   ·rw[f3,e1]
   ·rw[f5,e1]
   ·rw[f6,e1]
   ·rw[f2,e1];exact ta.clock
   ·rw[g3]at e
    rcases e7 with e7|e7
    ·rw[e7]at e;exact e
    ·rw[e7]at e;cases e
   ·have:=hlg hn
    rw[hl]at this
    exact absurd (congrArg (fun z=>z.2.length) this) (by simp)
  ·rw[hl]at hsa g3 ⊢
   simp only[List.foldl_cons,List.foldl_nil]at hsa g3 ⊢
   have hta:takeS true V.a (.given false (x.b.clock+rb))=V.a:=by unfold takeS;split<;>simp
   have htb:takeS false V.b (.given false (x.b.clock+rb))={ wb with r:=wb.r.map (givenS (x.b.clock+rb)) }:=by
    rw[g2]
    unfold takeS
    rw[if_pos b1]
    have hfit:fitsS wb (x.b.clock+rb)=true:=by
     unfold fitsS
     rw[b5,hk]
     have hok:=Zln hG (Zty h2.1 h.gb)
     have:k.first<=x.b.clock+rb:=by
      rcases k4 with k4|⟨k0,m1,m2⟩
      ·omega
      ·have:=hok.ask k0 m1
       omega
     simp only[Bool.and_eq_true,decide_eq_true_eq]
     omega
    simp only[beq_self_eq_true,Bool.true_and,hfit,if_true]
   have hV:dlS V (.given false (x.b.clock+rb))={ V with a:=V.a,b:={ wb with r:=wb.r.map (givenS (x.b.clock+rb)) } }:=by
    simp only[dlS,isDownS,if_true,hta,htb]
   rw[hV]at hsa ⊢
   refine⟨?_,b1,?_,?_,b3,?_,?_,b2,by simp only[g3];exact e6,fun g e e'=>?_,fun e=>(by rw[ha]at e;cases e),fun k' e=>⟨by simp only[b5,hk];exact (ha.symm.trans e),fun hn=>by simp only[b4]⟩,hsa⟩
   ·simp only[f1,e1];exact ta.up.trans hua
   ·simp only[f3,e1]
   ·simp only[f5,e1]
   ·simp only[f6,e1]
   ·simp only[f2,e1];exact ta.clock
   ·simp only[g3]at e
    obtain rfl:=Option.some.inj e
    cases e'
def muS(G:Int):Option RS->Int
 | none=>0
 | some r=>if r.st=6 then r.left+1 else G+3
def piS(r:RS):Int:=if r.st=4 then 0 else if r.st=3 then r.left+1 else r.left+3
theorem Zvp{G:Int}{o:Option RS}(hG:0<=G/\G<=8)(h:∀ r,o=some r->okR G r):muS G o<=11:=by
 unfold muS
 split
 ·omega
 ·have:=h _ rfl
  obtain⟨h1,h2,h3⟩:=this
  split<;>omega
theorem Zuv{G:Int}{o:Option RS}(hG:0<=G)(h:∀ r,o=some r->okR G r)(e:muS G o<=0):o=none:=by
 unfold muS at e
 split at e
 ·rfl
 ·have:=h _ rfl
  obtain⟨h1,h2,h3⟩:=this
  split at e<;>omega
theorem Zur{G:Int}{m:MS}{rate:Int}(hG:0<=G)(h:OkM G m)(hk:m.known=true)(hw:m.w=false):muS G (tickS G true m rate).1.r<=max (muS G m.r-1) 0:=by
 have hu:=h.ku hk
 have hr:(tickS G true m rate).1.r=(livesS G (onS m rate)).r:=by
  unfold tickS runsS
  rw[if_pos hu,if_pos (show (onS m rate).known=true from hk)]
  unfold asksS;split<;>rfl
 rw[hr]
 have hrun:=h.run
 obtain⟨up,clock,known,seen,w,r,k,g⟩:=m
 simp only at hk hw hu hrun
 subst hk hw hu
 rcases r with _|r
 ·simp[livesS,onS,newS,muS]
  omega
 ·have hr0:=hrun r rfl
  simp only[livesS,onS,Option.map_some]
  have hw1:=(Zsi (c:=clock+rate) hr0).1
  have h6:muS G (some (wdS (clock+rate) r))<=muS G (some r)\/(wdS (clock+rate) r).st=2:=by
   unfold wdS;split
   ·exact Or.inr rfl
   ·exact Or.inl (Int.le_refl _)
  obtain⟨⟨a1,a2⟩,⟨a3,a4⟩,a5⟩:=hr0
  generalize wdS (clock+rate) r=q at *
  obtain⟨⟨b1,b2⟩,⟨b3,b4⟩,b5⟩:=hw1
  have hp:1<=muS G (some r):=by simp only[muS];split<;>omega
  by_cases q6:q.st=6
  ·have e:liveS G (clock+rate) false q=if 1<q.left then some ⟨q.st,q.left-1,q.til⟩ else none:=by
    unfold liveS
    simp[q6]
   rw[e]
   split
   ·rename_i e1
    split at e1
    ·obtain rfl:=Option.some.inj e1
     rcases h6 with h6|h6
     ·simp only[muS,q6,if_true]at h6 ⊢
      omega
     ·omega
    ·cases e1
   ·simp only[newS,Bool.false_eq_true,if_false,muS];exact Int.le_max_right _ _
  ·have e:liveS G (clock+rate) false q=if aliveZ q.st then some ⟨6,G,q.til⟩ else none:=by
    unfold liveS
    simp[q6]
   rw[e]
   by_cases al:aliveZ q.st=true
   ·rw[if_pos al]
    rcases h6 with h6|h6
    ·simp only[muS,q6,if_true,if_false]at h6 ⊢
     omega
    ·rw[h6]at al;cases al
   ·rw[if_neg al]
    simp only[newS,Bool.false_eq_true,if_false,muS];exact Int.le_max_right _ _
theorem Zt0{G:Int}{m:MS}{rate:Int}(hG:0<=G)(h:OkM G m)(hk:m.known=true)(hw:m.w=true)(hg:m.g=none)(h6:∀ r,m.r=some r->r.st≠6) :
  ∃ n,(runsS G (onS m rate)).r=some n/\(runsS G (onS m rate)).k=m.k/\askS (runsS G (onS m rate))=(match m.k with
   | some a=>if m.clock+rate<a.at_+6 then none else some ⟨a.first,m.clock+rate⟩
   | none=>some ⟨m.clock+rate,m.clock+rate⟩) /\
  (∀ r,m.r=some r->m.clock+rate+4<=r.til->n.til=r.til/\piS n<=max (piS r-1) 0)/\okR G n:=by
 have hrun:=h.run
 obtain⟨up,clock,known,seen,w,r,k,g⟩:=m
 simp only at hk hw hg h6 hrun ⊢
 subst hk hw hg
 simp only[runsS,onS,if_true]
 rcases r with _|r
 ·refine⟨⟨1,1,0⟩,rfl,rfl,?_,fun r e=>(by cases e),⟨by simp,by simp,by simp⟩⟩
  simp only[livesS,Option.map_none,newS,if_true,askS,Option.isNone_none,Bool.and_self]
  all_goals (cases k<;>rfl)
 ·have hw0:=Zsi (c:=clock+rate) (hrun r rfl)
  have hq6:=hw0.2.2 (h6 r rfl)
  cases hl:liveS G (clock+rate) true (wdS (clock+rate) r) with
  | none=>exact absurd (Zeb hl rfl) hq6
  | some n =>
   simp only[livesS,Option.map_some,hl]
   obtain⟨l1,l2,l3⟩:=Zi2 hG hw0.1 hl
   refine⟨n,by trivial,by trivial,?_,fun r' e e2=>?_,l1⟩
   ·simp only[askS,Option.isNone_none,Bool.and_self,if_true]
    all_goals (cases k<;>rfl)
   ·obtain rfl:=Option.some.inj e
    have hq:wdS (clock+rate) r=r:=by
     unfold wdS;rw[if_neg];simp[e2]
    rw[hq]at hl l2
    refine⟨l2,?_⟩
    have h6':=h6 r rfl
    obtain⟨⟨a1,a2⟩,⟨a3,a4⟩,a5⟩:=hrun r rfl
    unfold liveS at hl
    simp only[Bool.not_true,Bool.false_and,Bool.false_eq_true,if_false,if_neg h6']at hl
    split at hl
    ·rename_i q
     obtain rfl:=Option.some.inj hl
     have:r.st≠4:=fun e=>by have:=a5 e;omega
     simp only[piS,this,if_false]
     split<;>omega
    ·split at hl
     ·rename_i q
      obtain rfl:=Option.some.inj hl
      simp only[piS,if_true]
      omega
     ·split at hl
      ·rename_i q
       obtain rfl:=Option.some.inj hl
       simp only[piS,q,if_true]
       omega
      ·rename_i q3 q4
       obtain rfl:=Option.some.inj hl
       simp only[piS,q3,q4,if_false]
       have e34:¬ ((3:Int)=4):=by decide
       simp only[e34,if_false,if_true]
       omega
def regS(x:MW):Prop:=∃ k r,x.b.k=some k/\x.b.r=some r/\x.b.clock-k.at_<=5/\k.at_+16<=r.til
def youngS(n:Int)(x:MW):Prop:=regS x\/x.b.k=none\/∃ k,x.b.k=some k/\k.at_+6-x.b.clock<=n
structure BaseS(G C:Int)(x:MW):Prop where
 inv:InvS G C x
 fl:x.fl=[]
 aup:x.a.up=true
 bup:x.b.up=true
 ak:x.a.known=true
 aw:x.a.w=false
 bk:x.b.known=true
theorem Zh6{G C ra rb:Int}{x:MW}(hG:0<=G)(h1:1<=ra/\ra<=4)(h2:1<=rb/\rb<=4)(h:InvS G C x)(hf:x.fl=[])(ha:x.a.up=true)(hb:x.b.up=true):BaseS G (C+4) (roundS G ra rb x):=by
 have r:=Zme h hG h1 h2 hf ha hb
 exact⟨h.round hG h1 h2,Zm0 G ra rb x (by rw[hf];simp),r.aup,r.bup,r.aknown,r.aw,r.bknown⟩
theorem Ze6{G C ra rb n:Int}{x:MW}(hG:0<=G)(h1:1<=ra/\ra<=4)(h2:1<=rb/\rb<=4)(h:BaseS G C x)(hg:∀ g,x.land.gr=some g->g.a=true->g.til<=x.land.time+2) :
  (regS x->regS (roundS G ra rb x)/\∀ r,x.b.r=some r->∀ r',(roundS G ra rb x).b.r=some r'->piS r'<=max (piS r-1) 0)/\(youngS n x->youngS (n-1) (roundS G ra rb x))/\(youngS 0 x->regS (roundS G ra rb x)):=by
 have hi:=h.inv
 have rd:=Zme hi hG h1 h2 h.fl h.aup h.bup
 have hw:x.b.w=true:=by rw[hi.b1,h.bk]
 obtain⟨nr,n1,n2,n3,n4,n5⟩:=Zt0 (rate:=rb) hG hi.gb h.bk hw hi.b2 hi.b3
 have hc:=rd.bclock
 have hfresh:∀ k,askS (runsS G (onS x.b rb))=some k->k.at_=x.b.clock+rb->regS (roundS G ra rb x)/\∃ r,(roundS G ra rb x).b.r=some r/\piS r=piS nr:=fun k e e2=>by
  obtain⟨q1,q2⟩:=rd.asks k e
  have q3:=q2 hg
  rw[n1,Option.map_some]at q3
  have e3:(givenS (x.b.clock+rb) nr).st=nr.st/\(givenS (x.b.clock+rb) nr).left=nr.left:=by unfold givenS;split<;>simp
  refine⟨⟨k,_,q1,q3,by omega,?_⟩,_,q3,?_⟩
  ·unfold givenS;split
   ·simp only;omega
   ·omega
  ·unfold piS;rw[e3.1,e3.2]
 have hold:askS (runsS G (onS x.b rb))=none->(roundS G ra rb x).b.k=x.b.k/\(roundS G ra rb x).b.r=some nr:=fun e=>by
  obtain⟨q1,q2⟩:=rd.quiet e
  exact⟨q1.trans n2,q2.trans n1⟩
 have hreg:regS x->regS (roundS G ra rb x)/\∀ r,x.b.r=some r->∀ r',(roundS G ra rb x).b.r=some r'->piS r'<=max (piS r-1) 0:=by
  rintro⟨k,r,k1,k2,k3,k4⟩
  obtain⟨m1,m2⟩:=n4 r k2 (by omega)
  rw[k1]at n3
  simp only at n3
  by_cases hlt:x.b.clock+rb<k.at_+6
  ·rw[if_pos hlt]at n3
   obtain⟨p1,p2⟩:=hold n3
   refine⟨⟨k,nr,p1.trans k1,p2,by omega,by omega⟩,fun r0 e0 r' e'=>?_⟩
   rw[k2]at e0;obtain rfl:=Option.some.inj e0
   rw[p2]at e';obtain rfl:=Option.some.inj e'
   exact m2
  ·rw[if_neg hlt]at n3
   obtain⟨p1,r',p2,p3⟩:=hfresh _ n3 rfl
   refine⟨p1,fun r0 e0 r2 e2=>?_⟩
   rw[k2]at e0;obtain rfl:=Option.some.inj e0
   rw[p2]at e2;obtain rfl:=Option.some.inj e2
   rw[p3];exact m2
 refine⟨hreg,?_,?_⟩
 ·rintro (q|q|⟨k,k1,k2⟩)
  ·exact Or.inl (hreg q).1
  ·rw[q]at n3
   exact Or.inl (hfresh _ n3 rfl).1
  ·rw[k1]at n3
   simp only at n3
   by_cases hlt:x.b.clock+rb<k.at_+6
   ·rw[if_pos hlt]at n3
    obtain⟨p1,p2⟩:=hold n3
    exact Or.inr (Or.inr ⟨k,p1.trans k1,by omega⟩)
   ·rw[if_neg hlt]at n3
    exact Or.inl (hfresh _ n3 rfl).1
 ·rintro (q|q|⟨k,k1,k2⟩)
  ·exact (hreg q).1
  ·rw[q]at n3
   exact (hfresh _ n3 rfl).1
  ·rw[k1]at n3
   simp only at n3
   rw[if_neg (by omega)]at n3
   exact (hfresh _ n3 rfl).1
structure StageS(G C:Int)(i:Nat)(x:MW):Prop where
 base:BaseS G C x
 mu:muS G x.a.r<=max (11-i) 0
 gr:∀ g,x.land.gr=some g->g.a=true->g.til<=x.land.time+max (32-2*i) 0
 young:16<=i->i<=22->youngS (22-i) x
 reg:23<=i->regS x/\∀ r,x.b.r=some r->piS r<=max (34-i) 0
theorem Zve{G:Int}{r:RS}(hG:0<=G/\G<=8)(h:okR G r):piS r<=11:=by
 obtain⟨h1,h2,h3⟩:=h
 unfold piS
 split
 ·omega
 ·split<;>omega
theorem Znm{G C ra rb:Int}{i:Nat}{x:MW}(hG:0<=G/\G<=8)(h1:1<=ra/\ra<=4)(h2:1<=rb/\rb<=4)(h:StageS G C i x):StageS G (C+4) (i+1) (roundS G ra rb x):=by
 have hb:=h.base
 have hi:=hb.inv
 have rd:=Zme hi hG.1 h1 h2 hb.fl hb.aup hb.bup
 have nb:=Zh6 hG.1 h1 h2 hi hb.fl hb.aup hb.bup
 refine⟨nb,?_,fun g e e2=>?_,fun k1 k2=>?_,fun k=>?_⟩
 ·rw[rd.ar]
  have:=Zur (rate:=ra) hG.1 hi.ga hb.ak hb.aw
  have:=h.mu
  push_cast
  omega
 ·have:=h.gr g (rd.gr g e e2) e2
  rw[rd.time]
  push_cast
  omega
 ·by_cases k3:i=15
  ·subst k3
   rcases hk:(roundS G ra rb x).b.k with _|k
   ·exact Or.inr (Or.inl hk)
   ·have:=(nb.inv.gb.ask k hk).2.2
    exact Or.inr (Or.inr ⟨k,hk,by simp;omega⟩)
  ·have hy:=h.young (by omega) (by omega)
   have:=(Ze6 (ra:=ra) (rb:=rb) (n:=22-i) hG.1 h1 h2 hb fun g e e2=>by have:=h.gr g e e2;omega).2.1 hy
   rw[show (22:Int)-((i+1:Nat):Int)=22-i-1 by push_cast;omega]
   exact this
 ·have hgr:∀ g,x.land.gr=some g->g.a=true->g.til<=x.land.time+2:=fun g e e2=>by have:=h.gr g e e2;omega
  by_cases k3:i=22
  ·subst k3
   have hy:=h.young (by omega) (by omega)
   have hr:=(Ze6 (ra:=ra) (rb:=rb) (n:=0) hG.1 h1 h2 hb hgr).2.2 hy
   refine⟨hr,fun r e=>?_⟩
   have:=Zve hG (nb.inv.gb.run r e)
   simp;omega
  ·obtain⟨q1,q2⟩:=h.reg (by omega)
   obtain⟨q3,q4⟩:=(Ze6 (ra:=ra) (rb:=rb) (n:=0) hG.1 h1 h2 hb hgr).1 q1
   refine⟨q3,fun r e=>?_⟩
   obtain⟨k,r0,_,m2,_,_⟩:=q1
   have:=q4 r0 m2 r e
   have:=q2 r0 m2
   push_cast
   omega
theorem Znp{G C:Int}{x:MW}(hG:0<=G/\G<=8)(h:BaseS G C x):StageS G C 0 x :=
 ⟨h,by have:=Zvp hG h.inv.ga.run;simp;omega,fun g e _=>by have:=(h.inv.g1 g e).1;simp;omega,fun k=>absurd k (by omega),fun k=>absurd k (by omega)⟩
theorem Zfz{G ra rb:Int}(hG:0<=G/\G<=8)(h1:1<=ra/\ra<=4)(h2:1<=rb/\rb<=4):∀ (n i:Nat) {C:Int} {x:MW},StageS G C i x->StageS G (C+4*n) (i+n) (roundsS G ra rb n x)
 | 0,i,C,x,h=>by simpa [roundsS] using h
 | n+1,i,C,x,h=>by
  have:=Zfz hG h1 h2 n (i+1) (Znm hG h1 h2 h)
  simp only[roundsS]
  rw[show i+(n+1)=i+1+n by omega,show C+4*((n+1:Nat):Int)=C+4+4*n by push_cast;omega]
  exact this
theorem Zpx(G:Int)(a:Bool)(m:MS)(r:Int):(tickS G a m r).1.up=m.up:=by
 have h1:∀ x:MS,(asksS x).up=x.up:=fun x=>by unfold asksS;split<;>rfl
 have h2:∀ x:MS,(runsS G x).up=x.up:=fun x=>by
  unfold runsS livesS
  split
  ·split
   ·rfl
   ·split<;>rfl
  ·rfl
 unfold tickS
 split
 ·simp only[h1,h2];rfl
 ·rfl
theorem Zss(x:MW)(k:Nat):(bringS x k).a.up=x.a.up/\(bringS x k).b.up=x.b.up:=by
 unfold bringS
 split
 ·simp
 ·split
  ·exact⟨Zda.2,Zda.2⟩
  ·simp
theorem Zhd:∀ (n:Nat) (x:MW),(bringsS n x).a.up=x.a.up/\(bringsS n x).b.up=x.b.up
 | 0,x=>⟨rfl,rfl⟩
 | n+1,x=>by
  have h1:=Zhd n (bringS x 0)
  have h2:=Zss x 0
  exact⟨h1.1.trans h2.1,h1.2.trans h2.2⟩
theorem Zsd(G ra rb:Int)(x:MW):(roundS G ra rb x).a.up=x.a.up/\(roundS G ra rb x).b.up=x.b.up:=by
 have h1:=Zhd (tickMW G ra rb x).fl.length (tickMW G ra rb x)
 have h2:=Zhd (bringsS (tickMW G ra rb x).fl.length (tickMW G ra rb x)).fl.length (bringsS (tickMW G ra rb x).fl.length (tickMW G ra rb x))
 simp only[roundS]
 exact⟨h2.1.trans (h1.1.trans (Zpx _ _ _ _)),h2.2.trans (h1.2.trans (Zpx _ _ _ _))⟩
def restS(x:MW):Prop:=x.a.up=true/\x.b.up=true/\x.a.r=none/\x.a.w=false/\∃ r,x.b.r=some r/\r.st=4
theorem Zot{G C:Int}{i:Nat}{x:MW}(hG:0<=G/\G<=8)(h:StageS G C i x)(hi:34<=i):restS x:=by
 obtain⟨⟨k,r,k1,k2,k3,k4⟩,q⟩:=h.reg (by omega)
 have hm:=h.mu
 refine⟨h.base.aup,h.base.bup,Zuv hG.1 h.base.inv.ga.run (by omega),h.base.aw,r,k2,?_⟩
 have:=q r k2
 obtain⟨a1,⟨a2,a3⟩,a4⟩:=h.base.inv.gb.run r k2
 have h0:piS r<=0:=by omega
 unfold piS at h0
 split at h0
 ·assumption
 ·split at h0<;>omega
theorem Zff(G ra rb:Int):∀ (n m:Nat) (x:MW),roundsS G ra rb (n+m) x=roundsS G ra rb m (roundsS G ra rb n x)
 | 0,m,x=>by simp[roundsS]
 | n+1,m,x=>by
  rw[show n+1+m=(n+m)+1 by omega]
  simp only[roundsS]
  exact Zff G ra rb n m _
theorem InvS.rounds{G ra rb:Int}(hG:0<=G)(h1:1<=ra/\ra<=4)(h2:1<=rb/\rb<=4):∀ (n:Nat) {C:Int} {x:MW},InvS G C x->InvS G (C+4*n) (roundsS G ra rb n x)
 | 0,C,x,h=>by simpa [roundsS] using h
 | n+1,C,x,h=>by
  have:=InvS.rounds hG h1 h2 n (h.round hG h1 h2)
  simp only[roundsS]
  rw[show C+4*((n+1:Nat):Int)=C+4+4*n by push_cast;omega]
  exact this
theorem Zns{G C ra rb:Int}{x:MW}(hG:0<=G/\G<=8)(h1:1<=ra/\ra<=4)(h2:1<=rb/\rb<=4)(h:InvS G C x)(hf:x.fl.length<=300)(ha:x.a.up=true)(hb:x.b.up=true)(n:Nat)(hn:36<=n):restS (roundsS G ra rb n x):=by
 have u:=Zsd G ra rb x
 have i1:=h.round hG.1 h1 h2
 have b2:=Zh6 hG.1 h1 h2 i1 (Zm0 G ra rb x hf) (u.1.trans ha) (u.2.trans hb)
 have st:=Zfz hG h1 h2 (n-2) 0 (Znp hG b2)
 have e:roundsS G ra rb n x=roundsS G ra rb (n-2) (roundS G ra rb (roundS G ra rb x)):=by
  rw[show n=(n-2)+1+1 by omega];rfl
 rw[e]
 exact Zot hG st (by omega)
def startS:MW:=⟨⟨0,none,some (1,true),none⟩,⟨true,0,false,0,false,none,none,none⟩,⟨true,0,false,0,false,none,none,none⟩,[]⟩
def readyS(ra rb:Int):MW:=⟨⟨16,some ⟨true,8*ra,48⟩,some (1,true),none⟩,⟨true,8*ra,true,1,true,some ⟨4,0,8*ra+16⟩,some ⟨2*ra,8*ra⟩,none⟩,⟨true,8*rb,false,0,false,none,none,none⟩,[]⟩
theorem Zpu(G:Int):roundsS G 1 1 8 startS=readyS 1 1:=by kernel_rfl
theorem Zq1(G:Int):roundsS G 1 2 8 startS=readyS 1 2:=by kernel_rfl
theorem Zpm(G:Int):roundsS G 1 3 8 startS=readyS 1 3:=by kernel_rfl
theorem Zpj(G:Int):roundsS G 1 4 8 startS=readyS 1 4:=by kernel_rfl
theorem Zq4(G:Int):roundsS G 2 1 8 startS=readyS 2 1:=by kernel_rfl
theorem Zrf(G:Int):roundsS G 2 2 8 startS=readyS 2 2:=by kernel_rfl
theorem Zqd(G:Int):roundsS G 2 3 8 startS=readyS 2 3:=by kernel_rfl
theorem Zqg(G:Int):roundsS G 2 4 8 startS=readyS 2 4:=by kernel_rfl
theorem Zqn(G:Int):roundsS G 3 1 8 startS=readyS 3 1:=by kernel_rfl
theorem Zrb(G:Int):roundsS G 3 2 8 startS=readyS 3 2:=by kernel_rfl
theorem Zp3(G:Int):roundsS G 3 3 8 startS=readyS 3 3:=by kernel_rfl
theorem Zq7(G:Int):roundsS G 3 4 8 startS=readyS 3 4:=by kernel_rfl
theorem Zps(G:Int):roundsS G 4 1 8 startS=readyS 4 1:=by kernel_rfl
theorem Zqo(G:Int):roundsS G 4 2 8 startS=readyS 4 2:=by kernel_rfl
theorem Zpc(G:Int):roundsS G 4 3 8 startS=readyS 4 3:=by kernel_rfl
theorem Zpy(G:Int):roundsS G 4 4 8 startS=readyS 4 4:=by kernel_rfl
theorem Zvd(G ra rb:Int)(h1:1<=ra/\ra<=4)(h2:1<=rb/\rb<=4):roundsS G ra rb 8 startS=readyS ra rb:=by
 have e1:ra=1\/ra=2\/ra=3\/ra=4:=by omega
 have e2:rb=1\/rb=2\/rb=3\/rb=4:=by omega
 rcases e1 with rfl|rfl|rfl|rfl<;>rcases e2 with rfl|rfl|rfl|rfl
 ·exact Zpu G
 ·exact Zq1 G
 ·exact Zpm G
 ·exact Zpj G
 ·exact Zq4 G
 ·exact Zrf G
 ·exact Zqd G
 ·exact Zqg G
 ·exact Zqn G
 ·exact Zrb G
 ·exact Zp3 G
 ·exact Zq7 G
 ·exact Zps G
 ·exact Zqo G
 ·exact Zpc G
 ·exact Zpy G
def movedS(ra rb:Int):MW:={ readyS ra rb with land:={ (readyS ra rb).land with pa:=some (2,false),pb:=some (1,true) } }
theorem Zqs(G ra rb:Int)(hG:0<=G/\G<=8)(h1:1<=ra/\ra<=4)(h2:1<=rb/\rb<=4):InvS G 32 (movedS ra rb):=by
 refine⟨⟨?_,?_,fun _=>rfl,fun _=>rfl,fun r e=>?_,fun k e=>?_,fun k e=>(by cases e),Or.inr rfl,fun e=>(by cases e)⟩,⟨?_,?_,fun e=>(by cases e),fun e=>(by cases e),fun r e=>(by cases e),fun k e=>(by cases e),fun k e=>(by cases e),Or.inl rfl,fun e=>(by cases e)⟩,?_,?_,?_,?_,?_,⟨2,rfl,by decide,by decide⟩,⟨1,rfl,by decide,by decide⟩,fun p hp=>(by cases hp),fun _=>⟨Int.le_refl 1,⟨_,rfl⟩,fun r e=>?_⟩,fun e=>absurd rfl e,fun r e e2=>⟨_,rfl,rfl,?_⟩,rfl,rfl,fun r e=>(by cases e),fun r e=>(by cases e),fun g e=>?_,fun g e e2=>?_,fun g e e2=>?_⟩
 ·simp only[movedS,readyS];omega
 ·simp only[movedS,readyS];omega
 ·obtain rfl:=Option.some.inj e
  exact⟨show (1:Int)<=4/\(4:Int)<=6 by decide,by simp,fun _=>rfl⟩
 ·obtain rfl:=Option.some.inj e
  simp only[movedS,readyS];omega
 ·simp only[movedS,readyS];omega
 ·simp only[movedS,readyS];omega
 ·simp only[movedS,readyS];omega
 ·simp only[movedS,readyS];omega
 ·simp only[movedS,readyS];omega
 ·simp only[movedS,readyS];omega
 ·simp only[movedS,readyS];omega
 ·obtain rfl:=Option.some.inj e
  exact show (4:Int)≠6 by decide
 ·obtain rfl:=Option.some.inj e
  simp only[movedS,readyS];omega
 ·obtain rfl:=Option.some.inj e
  simp only[movedS,readyS];omega
 ·obtain rfl:=Option.some.inj e
  cases e2
 ·obtain rfl:=Option.some.inj e
  simp only[movedS,readyS];omega
def raisedS(x:MW):MW:={ x with a:=riseS x.a,b:=riseS x.b,land:={ x.land with pa:=x.land.pa.map fun p=>(p.1+1,p.2),pb:=x.land.pb.map fun p=>(p.1+1,p.2) } }
theorem InvS.raised{G C:Int}{x:MW}(h:InvS G C x)(hp:∀ p,x.land.pa=some p->p.1<=999)(hq:∀ p,x.land.pb=some p->p.1<=999):InvS G C (raisedS x):=by
 have h':=h.riseA.riseB
 obtain⟨c1,c2,c3,c4,c5,c6,c7,⟨s1,s2,s3,s4⟩,⟨t1,t2,t3,t4⟩,c10,c11,c12,c13,c14,c15,c16,c17,c18,c19,c20⟩:=h'
 refine⟨c1,c2,c3,c4,c5,c6,c7,⟨s1+1,?_,by omega,?_⟩,⟨t1+1,?_,by omega,?_⟩,fun p hp=>?_,c11,c12,c13,c14,c15,c16,c17,c18,c19,c20⟩
 ·simp only at s2;simp only[raisedS,s2,Option.map_some]
 ·have:=hp _ s2;simp only at this;omega
 ·simp only at t2;simp only[raisedS,t2,Option.map_some]
 ·have:=hq _ t2;simp only at this;omega
 ·have:=c10 p hp
  cases p with
  | told a s w=>cases a<;>exact this
  | asked a t=>cases a<;>exact this
  | given a t=>cases a<;>exact this
  | back a t=>cases a<;>exact this
  | got a t=>exact this
  | here a s=>cases a<;>exact this
open Go
inductive Md where
 | own
 | imm
 | bor
 | snap (e:Nat)
inductive AV where
 | any
 | bool (b:Bool)
 | int (k:IntKind) (n:Int)
 | str (s:ByteArray)
 | sl (m:Md) (sz:Nat) (xs:List (List AV))
 | ref (id:Nat)
 | view (id lo len:Nat)
 | ptr (id i off:Nat)
 | bptr (m:Md) (row:List AV) (off:Nat)
 | agg (cs:List AV)
 | tup (vs:List AV)
 | cellp (cells:List AV)
 | mapr (id:Nat)
 | fn (k:Nat)
 | inn (e id i off:Nat)
 | ifs (kl id:Nat)
 | clo (kl id:Nat)
 | cut (id n:Nat)
 | inp (e id i off j sz:Nat)
inductive AO where
 | box (cells:List AV)
 | arr (sz:Nat) (xs:List (List AV))
 | map (kb:Bool) (kvs:ByteArray->Option AV)
structure St where
 slots:Nat->AV
 heap:Nat->Option AO
 ep:Nat
 next:Nat
 base:Nat
def upd{α:Type}(f:Nat->α)(k:Nat)(v:α):Nat->α:=fun j=>if j=k then v else f j
inductive CK where
 | i
 | s
 | b
 deriving DecidableEq
inductive Opd where
 | tmp (t:Nat)
 | const (v:AV)
inductive Hint where
 | plain
 | take
 | share
 | freeze
inductive COp where
 | mov (x:Opd)
 | nilck (x:Opd)
 | pick (c a b:Opd)
 | bin (op:BinOp) (x y:Opd)
 | beq (neg:Bool) (x y:Opd)
 | eqs (neg:Bool) (ks:List CK) (x y:Opd)
 | un (op:UnOp) (x:Opd)
 | conv (k:IntKind) (x:Opd)
 | toStr (x:Opd)
 | sconv (x:Opd)
 | alloc (zs:List AV)
 | box (x:Opd)
 | build (zs:List AV) (parts:List (Nat×Nat×Opd))
 | bslice (sz:Nat) (zs:List AV) (len:Nat) (parts:List (Nat×Opd))
 | mksl (sz:Nat) (zs:List AV) (bytes:Nat) (l:Opd)
 | load (x:Opd) (sz:Nat) (agg:Bool) (hint:Hint)
 | store (a x:Opd) (sz:Nat)
 | faddr (x:Opd) (off:Nat)
 | iaddr (sz:Nat) (x i:Opd)
 | sidx (x i:Opd)
 | slice (sz:Nat) (x:Opd) (lo hi:Option Opd)
 | sslice (x:Opd) (lo hi:Option Opd)
 | len (str:Bool) (x:Opd)
 | append (sz bytes:Nat) (flat:Bool) (s x:Opd)
 | ext (x:Opd) (i:Nat)
 | mx (hi:Bool) (x y:Opd)
 | mkmap (kb:Bool)
 | lookup (kb:Bool) (z:AV) (m k:Opd)
 | mapset (kb:Bool) (m k v:Opd)
 | call (k:Nat) (modes:List Bool) (args:List Opd)
 | callf (f:Opd) (modes:List Bool) (args:List Opd)
 | callin (k:Nat) (x:Opd) (args:List Opd)
 | mkifs (kl:Nat) (x:Opd)
 | mkclo (kl:Nat) (x:Opd)
 | cut3 (sz:Nat) (x hi mx:Opd)
 | blank (sz:Nat) (x:Opd)
 | sortc (kl o c sz:Nat) (x y:Opd)
structure CIns where
 dst:Option Nat
 op:COp
 guard:Option (Nat×Bool)
inductive CCode where
 | skip
 | region (ops:List CIns) (keep:List Nat)
 | quiet (ops:List CIns) (keep:List Nat)
 | loud (ops:List CIns) (deps:List Nat) (keep:List Nat)
 | seq (a b:CCode)
 | cond (c:Opd) (thn els:CCode)
 | block (id:Nat) (body:CCode)
 | loop (keep:List Nat) (body:CCode)
 | exit (id:Nat)
 | ret
inductive CRes where
 | tmp (t:Nat)
 | cell (t:Nat) (sz:Nat) (agg:Bool)
structure CFn where
 nt:Nat
 res:List CRes
 body:CCode
inductive AExit where
 | normal
 | exit (id:Nat)
 | ret
/-! ### Small helpers -/
def Opd.ev(g:Nat->AV):Opd->AV
 | .tmp t=>g t
 | .const v=>v
def AV.parts:AV->Option (List AV)
 | .agg cs=>some cs
 | .any=>none
 | .tup _=>none
 | .cellp _=>none
 | v=>some [v]
def AV.lend(m:Md):AV->AV
 | .sl _ sz xs=>.sl m sz xs
 | v=>v
def AV.lendO(ep:Nat):AV->AV
 | .sl .own sz xs=>.sl (.snap ep) sz xs
 | v=>v
def AV.frz:AV->AV
 | .sl .own sz xs=>.sl .imm sz xs
 | v=>v
def Md.ok(ep:Nat):Md->Bool
 | .own=>false
 | .imm=>true
 | .bor=>true
 | .snap e=>e == ep
def Md.isSnap:Md->Bool
 | .snap _=>true
 | _=>false
def distinct:List Nat->Bool
 | []=>true
 | i::is=>!(is.contains i) && distinct is
def kill(is:List Nat):List (Nat×Option AO):=is.map fun i=>(i,none)
def lay(cs:List AV)(off:Nat)(vs:List AV):List AV:=cs.take off++(vs++cs.drop (off+vs.length))
def absorb1(h:Nat->Option AO):AV->Option (AV×List Nat)
 | .ref id=>match h id with
  | some (.arr sz xs)=>some (.sl .own sz xs,[id])
  | _=>none
 | .bool b=>some (.bool b,[])
 | .int k n=>some (.int k n,[])
 | .str s=>some (.str s,[])
 | .sl .own sz []=>some (.sl .own sz [],[])
 | .sl .imm sz xs=>some (.sl .imm sz xs,[])
 | _=>none
def absorb(h:Nat->Option AO):List AV->Option (List AV×List Nat)
 | []=>some ([],[])
 | c::cs=>match absorb1 h c with
  | none=>none
  | some (d,i)=>match absorb h cs with
   | none=>none
   | some (ds,is)=>some (d::ds,i++is)
structure Out where
 v:AV
 ws:List (Nat×Option AO)
 bump:Bool
def Out.val(v:AV):Option Out:=some ⟨v,[],false⟩
def Out.opt:Option AV->Option Out
 | some v=>some ⟨v,[],false⟩
 | none=>none
def sEq(x y:ByteArray):Bool:=x.toList == y.toList
def sLt(x y:ByteArray):Bool:=Op.bytesLess x.toList y.toList
def binInt(op:BinOp)(k:IntKind)(a b:Int):Option AV :=
 match op with
 | .add=>some (.int k (k.wrap (a+b)))
 | .sub=>some (.int k (k.wrap (a-b)))
 | .mul=>some (.int k (k.wrap (a*b)))
 | .quo=>if b=0 then none else some (.int k (k.wrap (a.tdiv b)))
 | .rem=>if b=0 then none else some (.int k (a.tmod b))
 | .xor=>some (.int k (k.wrap (BitVec.ofInt k.bits a ^^^ BitVec.ofInt k.bits b).toNat))
 | .eql=>some (.bool (a == b))
 | .neq=>some (.bool (a != b))
 | .lss=>some (.bool (decide (a<b)))
 | .leq=>some (.bool (decide (a<=b)))
 | .gtr=>some (.bool (decide (a > b)))
 | .geq=>some (.bool (decide (a >= b)))
 | _=>none
def binStr(op:BinOp)(x y:ByteArray):Option AV :=
 match op with
 | .add=>if x.size+y.size<=9223372036854775807 then some (.str (x++y)) else none
 | .eql=>some (.bool (sEq x y))
 | .neq=>some (.bool (!sEq x y))
 | .lss=>some (.bool (sLt x y))
 | .leq=>some (.bool (sLt x y || sEq x y))
 | .gtr=>some (.bool (!(sLt x y || sEq x y)))
 | .geq=>some (.bool (!sLt x y))
 | _=>none
def binAV(op:BinOp):AV->AV->Option AV
 | .int k a,.int k' b=>match op with
  | .shl=>if b<0 then none else some (.int k (k.wrap (a*2 ^ min b.toNat k.bits)))
  | .shr=>if b<0 then none else some (.int k (a.fdiv (2 ^ min b.toNat k.bits)))
  | op=>if k=k' then binInt op k a b else none
 | .str x,.str y=>binStr op x y
 | _,_=>none
def eqCell:CK->AV->AV->Option Bool
 | .i,.int k a,.int k' b=>if k=k' then some (a == b) else none
 | .s,.str x,.str y=>some (sEq x y)
 | .b,.bool a,.bool b=>some (a == b)
 | _,_,_=>none
def eqCells:List CK->List AV->List AV->Option Bool
 | [],[],[]=>some true
 | k::ks,c::cs,d::ds=>match eqCell k c d with
  | some true=>eqCells ks cs ds
  | some false=>if ks.length=cs.length/\ks.length=ds.length then some false else none
  | none=>none
 | _,_,_=>none
def content(h:Nat->Option AO)(ep:Nat):AV->Option (Nat×List (List AV))
 | .ref id=>match h id with
  | some (.arr sz xs)=>some (sz,xs)
  | _=>none
 | .view id lo len=>match h id with
  | some (.arr sz xs)=>if lo+len<=xs.length then some (sz,(xs.drop lo).take len) else none
  | _=>none
 | .sl .own sz []=>some (sz,[])
 | .sl m sz xs=>if m.ok ep then some (sz,xs) else none
 | _=>none
def AV.id?:AV->List Nat
 | .ref id=>[id]
 | .view id _ _=>[id]
 | .ptr id _ _=>[id]
 | .mapr id=>[id]
 | .inn _ id _ _=>[id]
 | .ifs _ id=>[id]
 | .clo _ id=>[id]
 | .cut id _=>[id]
 | .inp _ id _ _ _ _=>[id]
 | _=>[]
def AO.isArr:AO->Bool
 | .arr _ _=>true
 | _=>false
/-! ### Calls: arguments out, results in -/
def lend1(h:Nat->Option AO)(ep:Nat):AV->Option AV
 | .bool b=>some (.bool b)
 | .int k n=>some (.int k n)
 | .str s=>some (.str s)
 | .fn k=>some (.fn k)
 | .sl .imm sz xs=>some (.sl .imm sz xs)
 | v=>match content h ep v with
  | some (sz,xs)=>some (.sl .bor sz xs)
  | none=>none
def lendL(h:Nat->Option AO)(ep:Nat):List AV->Option (List AV)
 | []=>some []
 | c::cs=>match lend1 h ep c with
  | none=>none
  | some d=>match lendL h ep cs with
   | none=>none
   | some ds=>some (d::ds)
def lendV(h:Nat->Option AO)(ep:Nat):AV->Option AV
 | .agg cs=>match lendL h ep cs with
  | some ds=>some (.agg ds)
  | none=>none
 | v=>lend1 h ep v
def give1(h:Nat->Option AO)(n:Nat):AV->Option (AV×List Nat×List AO)
 | .bool b=>some (.bool b,[],[])
 | .int k m=>some (.int k m,[],[])
 | .str s=>some (.str s,[],[])
 | .sl .own sz []=>some (.sl .own sz [],[],[])
 | .sl .imm sz xs=>some (.sl .imm sz xs,[],[])
 | .ref id=>match h id with
  | some (.arr sz xs)=>some (.ref n,[id],[.arr sz xs])
  | _=>none
 | _=>none
def giveL(h:Nat->Option AO)(n:Nat):List AV->Option (List AV×List Nat×List AO)
 | []=>some ([],[],[])
 | c::cs=>match give1 h n c with
  | none=>none
  | some (d,is,os)=>match giveL h (n+is.length) cs with
   | none=>none
   | some (ds,js,ps)=>some (d::ds,is++js,os++ps)
def giveV(h:Nat->Option AO)(n:Nat):AV->Option (AV×List Nat×List AO)
 | .agg cs=>match giveL h n cs with
  | some (ds,is,os)=>some (.agg ds,is,os)
  | none=>none
 | .ptr id 0 0=>match h id with
  | some (.box cells)=>match giveL h (n+1) cells with
   | some (ds,is,os)=>some (.ptr n 0 0,id::is,.box ds::os)
   | none=>none
  | _=>none
 | v=>give1 h n v
def AV.ids:AV->List Nat
 | .agg cs=>cs.flatMap AV.id?
 | v=>v.id?
def AV.snaps1:AV->Bool
 | .sl m _ _=>m.isSnap
 | .inn ..=>true
 | .inp ..=>true
 | _=>false
def AV.snaps:AV->Bool
 | .agg cs=>cs.any AV.snaps1
 | v=>v.snaps1
structure Given where
 args:List AV
 ids:List Nat
 objs:List AO
 looks:List Nat
 snaps:Bool
def passArgs(h:Nat->Option AO)(ep:Nat)(n:Nat):List Bool->List AV->Option Given
 | true::ms,v::vs=>match giveV h n v with
  | none=>none
  | some (d,is,os)=>match passArgs h ep (n+is.length) ms vs with
   | none=>none
   | some g=>some ⟨d::g.args,is++g.ids,os++g.objs,g.looks,g.snaps⟩
 | false::ms,v::vs=>match lendV h ep v with
  | none=>none
  | some d=>match passArgs h ep n ms vs with
   | none=>none
   | some g=>some ⟨d::g.args,g.ids,g.objs,v.ids++g.looks,v.snaps || g.snaps⟩
 | [],[]=>some ⟨[],[],[],[],false⟩
 | _,_=>none
def open1(key:Nat):AV->AV×List (Nat×Option AO)
 | .sl .own sz xs=>(.ref key,[(key,some (.arr sz xs))])
 | v=>(v,[])
def openL(key:Nat):List AV->List AV×List (Nat×Option AO)
 | []=>([],[])
 | c::cs=>((open1 key c).1::(openL (key+(open1 key c).2.length) cs).1,(open1 key c).2++(openL (key+(open1 key c).2.length) cs).2)
def openV(key:Nat):AV->AV×List (Nat×Option AO)
 | .agg cs=>(.agg (openL key cs).1,(openL key cs).2)
 | .cellp cs=>(.ptr key 0 0,(key,some (.box (openL (key+1) cs).1))::(openL (key+1) cs).2)
 | v=>open1 key v
def openT(key:Nat):List AV->List AV×List (Nat×Option AO)
 | []=>([],[])
 | c::cs=>((openV key c).1::(openT (key+(openV key c).2.length) cs).1,(openV key c).2++(openT (key+(openV key c).2.length) cs).2)
def openR(key:Nat):AV->AV×List (Nat×Option AO)
 | .tup vs=>(.tup (openT key vs).1,(openT key vs).2)
 | v=>openV key v
def takeBack(key:Nat):List Nat->List (Option AO)->List (Nat×Option AO)×List (Nat×Option AO)
 | id::is,o::os=>match o with
  | some (.box cells)=>((id,some (.box (openL key cells).1))::(takeBack (key+(openL key cells).2.length) is os).1,(openL key cells).2++(takeBack (key+(openL key cells).2.length) is os).2)
  | o=>((id,o)::(takeBack key is os).1,(takeBack key is os).2)
 | _,_=>([],[])
abbrev Callee:=Nat->List AV->List AO->Option (AV×List (Option AO))
def semCall(cl:Callee)(k:Nat)(modes:List Bool)(vs:List AV)(key:Nat)(h:Nat->Option AO)(ep:Nat):Option Out :=
 match passArgs h ep 0 modes vs with
 | none=>none
 | some g =>
  if distinct g.ids && g.ids.all (fun i=>!g.looks.contains i) && (g.ids.isEmpty || !g.snaps) then
   match cl k g.args g.objs with
   | none=>none
   | some (r,outs) =>
    if outs.length=g.ids.length then
     let back:=takeBack (key+(openR key r).2.length) g.ids outs
     if (openR key r).2.length+back.2.length<=64 then some ⟨(openR key r).1,back.1++((openR key r).2++back.2),g.objs.any AO.isArr⟩ else none
    else none
  else none
def evL(g:Nat->AV):List Opd->List AV
 | []=>[]
 | o::os=>o.ev g::evL g os
/-! ### The operations -/
def fillParts(g:Nat->AV):List AV->List (Nat×Nat×Opd)->Option (List AV)
 | cs,[]=>some cs
 | cs,(off,n,x)::ps=>match (x.ev g).parts with
  | some vs=>if vs.length=n/\off+n<=cs.length then fillParts g (lay cs off vs) ps else none
  | none=>none
def fillRows(h:Nat->Option AO)(g:Nat->AV)(sz:Nat):List (List AV)->List (Nat×Opd)->Option (List (List AV)×List Nat)
 | rows,[]=>some (rows,[])
 | rows,(i,x)::ps=>match (x.ev g).parts with
  | none=>none
  | some vs=>match absorb h vs with
   | none=>none
   | some (row,is)=>if row.length=sz/\i<rows.length then
     match fillRows h g sz (rows.set i row) ps with
     | none=>none
     | some (rs,js)=>some (rs,is++js)
    else none
def toBytes:List (List AV)->Option (List UInt8)
 | []=>some []
 | [.int .u8 n]::r=>match toBytes r with
  | some bs=>some (UInt8.ofNat n.toNat::bs)
  | none=>none
 | _=>none
def loadFrom(cs:List AV)(off sz:Nat)(agg:Bool):Option AV :=
 if agg then (if off+sz<=cs.length then some (.agg ((cs.drop off).take sz)) else none) else cs[off]?
def lendA(m:Md):AV->AV
 | .agg cs=>.agg (cs.map (AV.lend m))
 | v=>v.lend m
def lendAO(ep:Nat):AV->AV
 | .agg cs=>.agg (cs.map (AV.lendO ep))
 | v=>v.lendO ep
def slBounds(lo hi:Option AV)(n:Nat):Option (Nat×Nat) :=
 match hi with
 | some (.int _ b)=>match lo with
  | some (.int _ a)=>if 0<=a/\a<=b/\b<=n then some (a.toNat,b.toNat) else none
  | none=>if 0<=b/\b<=n then some (0,b.toNat) else none
  | _=>none
 | none=>match lo with
  | some (.int _ a)=>if 0<=a/\a<=n then some (a.toNat,n) else none
  | none=>some (0,n)
  | _=>none
 | _=>none
def AV.plain:AV->Bool
 | .bool _=>true
 | .int _ _=>true
 | .str _=>true
 | _=>false
def rowsPlain(xs:List (List AV)):Bool:=xs.all fun row=>row.all AV.plain
def takeRows(h:Nat->Option AO)(ep:Nat)(flat:Bool)(x:AV):Option (Nat×List (List AV)×List (Nat×Option AO)) :=
 match flat,x with
 | false,.ref id=>match h id with
  | some (.arr sz xs)=>some (sz,xs,[(id,none)])
  | _=>none
 | false,.view id lo len=>match h id with
  | some (.arr sz xs)=>if lo+len<=xs.length then
    some (sz,(xs.drop lo).take len,[(id,some (.arr sz (xs.take lo++(List.replicate len (List.replicate sz .any)++xs.drop (lo+len)))))])
   else none
  | _=>none
 | false,.sl .own sz []=>some (sz,[],[])
 | false,_=>none
 | true,x=>match content h ep x with
  | some (sz,xs)=>if rowsPlain xs then some (sz,xs,[]) else none
  | none=>none
def bkey(b:Bool):ByteArray:=if b then ⟨#[1]⟩ else ⟨#[0]⟩
def keyOf:Bool->AV->Option ByteArray
 | false,.str s=>some s
 | true,.bool b=>some (bkey b)
 | _,_=>none
def noKeys:ByteArray->Option AV:=fun _=>none
def mapGet(k:ByteArray)(m:ByteArray->Option AV):Option AV:=m k
def mapPut(k:ByteArray)(v:AV)(m:ByteArray->Option AV):ByteArray->Option AV:=fun x=>if sEq x k then some v else m x
theorem Zic(k j:ByteArray)(v:AV)(m:ByteArray->Option AV):mapGet k (mapPut j v m)=if sEq k j then some v else mapGet k m:=rfl
def listGet(k:ByteArray):List (ByteArray×AV)->Option AV
 | []=>none
 | (k',v)::r=>if sEq k k' then some v else listGet k r
def listPut(k:ByteArray)(v:AV):List (ByteArray×AV)->List (ByteArray×AV)
 | []=>[(k,v)]
 | (k',v')::r=>if sEq k k' then (k,v)::r else (k',v')::listPut k v r
/-! ### Sorting by a text -/
def keyAt(c:Nat)(row:List AV):Option ByteArray:=match row[c]? with
 | some (.str s)=>some s
 | _=>none
def keysApart(c:Nat):List (List AV)->Bool
 | []=>true
 | r::rs=>(keyAt c r).isSome && (rs.all (fun r'=>!sEq ((keyAt c r).getD ByteArray.empty) ((keyAt c r').getD ByteArray.empty)) && keysApart c rs)
def rowLt(c:Nat)(r r':List AV):Bool:=sLt ((keyAt c r).getD ByteArray.empty) ((keyAt c r').getD ByteArray.empty)
def insRow(c:Nat)(r:List AV):List (List AV)->List (List AV)
 | []=>[r]
 | x::xs=>if rowLt c r x then r::x::xs else x::insRow c r xs
def sortRows(c:Nat):List (List AV)->List (List AV)
 | []=>[]
 | r::rs=>insRow c r (sortRows c rs)
def isRef(id:Nat):Option AV->Bool
 | some (.ref j)=>j == id
 | _=>false
def sortTab:List (Nat×Nat×Nat×Nat):=[(183,2,0,3),(184,0,0,5),(248,0,0,4),(247,0,0,11),(246,0,0,7)]
def sem(cl:Callee)(o:COp)(key:Nat)(g:Nat->AV)(h:Nat->Option AO)(ep:Nat):Option Out :=
 match o with
 | .mov x=>Out.val (x.ev g)
 | .nilck x=>match x.ev g with
  | .ptr id i off=>match h id with
   | some (.box _)=>Out.val (.ptr id i off)
   | some (.arr _ _)=>Out.val (.ptr id i off)
   | _=>none
  | .bptr m row off=>if m.ok ep then Out.val (.bptr m row off) else none
  | _=>none
 | .pick c a b=>match c.ev g with
  | .bool t=>Out.val (if t then a.ev g else b.ev g)
  | _=>none
 | .bin op x y=>Out.opt (binAV op (x.ev g) (y.ev g))
 | .beq neg x y=>match x.ev g,y.ev g with
  | .bool a,.bool b=>Out.val (.bool (if neg then !(a == b) else a == b))
  | _,_=>none
 | .eqs neg ks x y=>match x.ev g,y.ev g with
  | .agg cs,.agg ds=>match eqCells ks cs ds with
   | some b=>Out.val (.bool (if neg then !b else b))
   | none=>none
  | _,_=>none
 | .un op x=>match op,x.ev g with
  | .not,.bool b=>Out.val (.bool !b)
  | .neg,.int k n=>Out.val (.int k (k.wrap (0-n)))
  | _,_=>none
 | .conv k x=>match x.ev g with
  | .int _ n=>Out.val (.int k (k.wrap n))
  | _=>none
 | .toStr x=>match content h ep (x.ev g) with
  | some (_,xs)=>match toBytes xs with
   | some bs=>Out.val (.str ⟨bs.toArray⟩)
   | none=>none
  | none=>none
 | .sconv x=>match x.ev g with
  | .str s=>Out.val (.str s)
  | _=>none
 | .alloc zs=>some ⟨.ptr key 0 0,[(key,some (.box zs))],false⟩
 | .box x=>match (x.ev g).parts with
  | some vs=>some ⟨.ptr key 0 0,[(key,some (.box vs))],false⟩
  | none=>none
 | .build zs parts=>match fillParts g zs parts with
  | some cs=>Out.val (.agg cs)
  | none=>none
 | .bslice sz zs len parts=>match fillRows h g sz (List.replicate len zs) parts with
  | some (rows,is)=>if distinct is then some ⟨.ref key,(key,some (.arr sz rows))::kill is,false⟩ else none
  | none=>none
 | .mksl sz zs bytes l=>match l.ev g with
  | .int .i64 n=>if 0<=n/\n*bytes<=140737488355328 then some ⟨.ref key,[(key,some (.arr sz (List.replicate n.toNat zs)))],false⟩ else none
  | _=>none
 | .load x sz agg hint=>match x.ev g with
  | .ptr id i off=>match h id with
   | some (.box cells)=>if i=0 then Out.opt (loadFrom cells off sz agg) else none
   | some (.arr sz' xs)=>match xs[i]? with
    | none=>none
    | some row=>match hint with
     | .plain=>match loadFrom row off sz agg with
      | some v=>Out.val (lendAO ep v)
      | none=>none
     | .take=>match row[off]? with
      | some (.sl .own sz2 ys)=>some ⟨.ref key,[(id,some (.arr sz' (xs.set i (row.set off .any)))),(key,some (.arr sz2 ys))],true⟩
      | _=>none
     | .share=>match row[off]? with
      | some (.sl .own _ _)=>Out.val (.inn ep id i off)
      | _=>none
     | .freeze=>match loadFrom (row.map AV.frz) off sz agg with
      | some v=>some ⟨v,[(id,some (.arr sz' (xs.map (·.map AV.frz))))],true⟩
      | none=>none
   | _=>none
  | .bptr m row off=>if m.ok ep then (match loadFrom row off sz agg with
   | some v=>Out.val (lendA m v)
   | none=>none) else none
  | _=>none
 | .store a x sz=>match a.ev g,(x.ev g).parts with
  | .ptr id i off,some vs=>if vs.length=sz then match h id with
   | some (.box cells)=>if i=0/\off+sz<=cells.length then some ⟨.any,[(id,some (.box (lay cells off vs)))],false⟩ else none
   | some (.arr sz' xs)=>match xs[i]? with
    | none=>none
    | some row=>match absorb h vs with
     | none=>none
     | some (us,is)=>if off+sz<=row.length/\distinct (id::is) then
       some ⟨.any,(id,some (.arr sz' (xs.set i (lay row off us))))::kill is,true⟩ else none
   | _=>none
   else none
  | .inp e id i off j sz2,some vs=>if vs.length=sz/\e=ep/\vs.all AV.plain then match h id with
   | some (.arr sz' xs)=>match xs[i]? with
    | none=>none
    | some row=>match row[off]? with
     | some (.sl .own sz3 ys)=>if j<ys.length/\sz3=sz2/\sz=sz2/\rowsPlain ys=true then some ⟨.any,[(id,some (.arr sz' (xs.set i (row.set off (.sl .own sz3 (ys.set j vs))))))],true⟩ else none
     | _=>none
   | _=>none
   else none
  | _,_=>none
 | .faddr x n=>match x.ev g with
  | .ptr id i off=>match h id with
   | some (.box _)=>Out.val (.ptr id i (off+n))
   | some (.arr _ _)=>Out.val (.ptr id i (off+n))
   | _=>none
  | .bptr m row off=>if m.ok ep then Out.val (.bptr m row (off+n)) else none
  | _=>none
 | .iaddr sz x i=>match i.ev g with
  | .int _ n=>if 0<=n then match x.ev g with
   | .ref id=>match h id with
    | some (.arr sz' xs)=>if n.toNat<xs.length/\sz'=sz then Out.val (.ptr id n.toNat 0) else none
    | _=>none
   | .view id lo len=>match h id with
    | some (.arr sz' xs)=>if n.toNat<len/\lo+len<=xs.length/\sz'=sz then Out.val (.ptr id (lo+n.toNat) 0) else none
    | _=>none
   | .sl m sz' xs=>if m.ok ep/\sz'=sz then match xs[n.toNat]? with
    | some row=>Out.val (.bptr m row 0)
    | none=>none
    else none
   | .inn e id k off=>if e=ep then match h id with
    | some (.arr _ xs)=>match xs[k]? with
     | none=>none
     | some row=>match row[off]? with
      | some (.sl .own sz2 ys)=>if n.toNat<ys.length/\sz2=sz then Out.val (.inp e id k off n.toNat sz2) else none
      | _=>none
    | _=>none
    else none
   | _=>none
   else none
  | _=>none
 | .sidx x i=>match x.ev g,i.ev g with
  | .str s,.int _ n=>if 0<=n then match s.data.toList[n.toNat]? with
   | some b=>Out.val (.int .u8 b.toNat)
   | none=>none
   else none
  | _,_=>none
 | .sslice x lo hi=>match x.ev g with
  | .str s=>match slBounds (lo.map (·.ev g)) (hi.map (·.ev g)) s.size with
   | some (a,b)=>Out.val (.str (s.extract a b))
   | none=>none
  | _=>none
 | .slice sz x lo hi=>match x.ev g with
  | .ref id=>match h id with
   | some (.arr sz' xs)=>if sz'=sz then match slBounds (lo.map (·.ev g)) (hi.map (·.ev g)) xs.length with
    | some (a,b)=>Out.val (.view id a (b-a))
    | none=>none
    else none
   | _=>none
  | .view id l n=>match h id with
   | some (.arr sz' xs)=>if l+n<=xs.length/\sz'=sz then match slBounds (lo.map (·.ev g)) (hi.map (·.ev g)) n with
    | some (a,b)=>Out.val (.view id (l+a) (b-a))
    | none=>none
    else none
   | _=>none
  | .sl .own sz' []=>if sz'=sz then match slBounds (lo.map (·.ev g)) (hi.map (·.ev g)) 0 with
   | some _=>Out.val (.sl .own sz' [])
   | none=>none
   else none
  | .sl m sz' xs=>if m.ok ep/\sz'=sz then match slBounds (lo.map (·.ev g)) (hi.map (·.ev g)) xs.length with
   | some (a,b)=>Out.val (.sl m sz' ((xs.drop a).take (b-a)))
   | none=>none
   else none
  | _=>none
 | .len true x=>match x.ev g with
  | .str s=>Out.val (.int .i64 s.size)
  | _=>none
 | .len false x=>match content h ep (x.ev g) with
  | some (_,xs)=>Out.val (.int .i64 xs.length)
  | none=>none
 | .append sz bytes flat s x=>match takeRows h ep flat (x.ev g) with
  | none=>none
  | some (sz',ys,ws)=>if sz'=sz\/ys=[] then match s.ev g with
   | .sl .own _ []=>if ys.length*bytes<=140737488355328/\ys.length<=140737488355328 then some ⟨.ref key,(key,some (.arr sz ys))::ws,true⟩ else none
   | .cut id n=>match h id with
    | some (.arr sz2 xs)=>if n<=xs.length/\(n+ys.length)*bytes<=140737488355328/\n+ys.length<=140737488355328/\ws.all (fun w=>w.1 != id)/\sz2=sz then
      some ⟨.ref key,(key,some (.arr sz (xs.take n++ys)))::(id,none)::ws,true⟩ else none
    | _=>none
   | .ref id=>match h id with
    | some (.arr sz2 xs)=>if (xs.length+ys.length)*bytes<=140737488355328/\xs.length+ys.length<=140737488355328/\ws.all (fun w=>w.1 != id)/\sz2=sz then
      some ⟨.ref key,(key,some (.arr sz (xs++ys)))::(id,none)::ws,true⟩ else none
    | _=>none
   | _=>none
   else none
 | .ext x i=>match x.ev g with
  | .tup vs=>Out.opt vs[i]?
  | _=>none
 | .mx hi x y=>match x.ev g,y.ev g with
  | .int k a,.int _ b=>Out.val (.int k (if hi then (if b > a then b else a) else (if b<a then b else a)))
  | _,_=>none
 | .mkmap kb=>some ⟨.mapr key,[(key,some (.map kb noKeys))],false⟩
 | .lookup kb z m k=>match m.ev g,keyOf kb (k.ev g) with
  | .mapr id,some s=>match h id with
   | some (.map kb' kvs)=>if kb'=kb then Out.val ((mapGet s kvs).getD z) else none
   | _=>none
  | _,_=>none
 | .mapset kb m k v=>match m.ev g,keyOf kb (k.ev g) with
  | .mapr id,some s=>match h id with
   | some (.map kb' kvs)=>if kb'=kb/\(v.ev g).plain=true then some ⟨.any,[(id,some (.map kb (mapPut s (v.ev g) kvs)))],false⟩ else none
   | _=>none
  | _,_=>none
 | .call k modes args=>semCall cl k modes (evL g args) key h ep
 | .callf f modes args=>match f.ev g with
  | .fn k=>semCall cl k modes (evL g args) key h ep
  | _=>none
 | .callin k x args=>match x.ev g with
  | .inn e id i off=>if e=ep/\(evL g args).all AV.plain then match h id with
   | some (.arr sz xs)=>match xs[i]? with
    | none=>none
    | some row=>match row[off]? with
     | some (.sl .own sz2 zs)=>match cl k (.ref 0::evL g args) [.arr sz2 zs] with
      | some (r,[some (.arr sz3 zs')])=>if r.plain/\sz3=sz2 then some ⟨r,[(id,some (.arr sz (xs.set i (row.set off (.sl .own sz2 zs')))))],true⟩ else none
      | _=>none
     | _=>none
   | _=>none
   else none
  | _=>none
 | .mkifs kl x=>match x.ev g with
  | .ref id=>match h id with
   | some (.arr _ _)=>Out.val (.ifs kl id)
   | _=>none
  | _=>none
 | .mkclo kl x=>match x.ev g with
  | .ptr id 0 0=>match h id with
   | some (.box _)=>Out.val (.clo kl id)
   | _=>none
  | _=>none
 | .blank sz x=>match x.ev g with
  | .ptr id 0 off=>match h id with
   | some (.box cells)=>match loadFrom cells off sz true with
    | some (.agg cs)=>Out.val (.agg (cs.map fun _=>.any))
    | _=>none
   | _=>none
  | _=>none
 | .cut3 sz x hi mx=>match x.ev g with
  | .ref id=>match h id with
   | some (.arr sz' xs)=>match hi.ev g,mx.ev g with
    | .int _ n,.int _ n2=>if sz'=sz/\n=n2/\0<=n/\n<=xs.length then Out.val (.cut id n.toNat) else none
    | _,_=>none
   | _=>none
  | _=>none
 | .sortc kl o c sz x y=>match x.ev g,y.ev g with
  | .ifs k1 id,.clo k2 b=>match h id,h b with
   | some (.arr sz' xs),some (.box cells) =>
    if k1=kl/\k2=kl/\sortTab.contains (kl,o,c,sz)=true/\sz'=sz/\isRef id cells[o]?=true/\xs.isEmpty=false/\xs.length<=1000000000/\keysApart c xs=true then
     some ⟨.tup [],[(id,some (.arr sz (sortRows c xs)))],true⟩ else none
   | _,_=>none
  | _,_=>none
/-! ### Regions -/
def wsOn(h:Nat->Option AO):List (Nat×Option AO)->Nat->Option AO
 | []=>h
 | (i,o)::ws=>wsOn (upd h i o) ws
def putTo(g:Nat->AV)(dst:Option Nat)(v:AV):Nat->AV :=
 match dst with
 | some d=>upd g d v
 | none=>g
def guardA(g:Nat->AV):Option (Nat×Bool)->Option Bool
 | none=>some true
 | some (t,b)=>match g t with
  | .bool c=>some (c == b)
  | .tup []=>some false
  | _=>none
def keepSlots(g:Nat->AV):List Nat->Nat->AV
 | []=>fun _=>.any
 | t::ts=>upd (keepSlots g ts) t (g t)
def St.forget(s:St)(keep:List Nat)(n:Nat):St:=⟨keepSlots s.slots keep,s.heap,s.ep,n,s.base⟩
def Out.app(o:Out)(dst:Option Nat)(s:St):St:=⟨putTo s.slots dst o.v,wsOn s.heap o.ws,if o.bump then s.ep+1 else s.ep,s.next,s.base⟩
def stepIns(cl:Callee)(i:CIns)(key:Nat)(s:St):Option St :=
 match guardA s.slots i.guard with
 | some true=>match sem cl i.op key s.slots s.heap s.ep with
  | some o=>some (o.app i.dst s)
  | none=>none
 | some false=>some ⟨putTo s.slots i.dst (.tup []),s.heap,s.ep,s.next,s.base⟩
 | none=>none
def runIns(cl:Callee):List CIns->Nat->St->Option St
 | [],_,s=>some s
 | i::is,key,s=>match stepIns cl i key s with
  | some s'=>runIns cl is (key+64) s'
  | none=>none
def stepQuiet(cl:Callee)(i:CIns)(key:Nat)(s:St):Option St :=
 match guardA s.slots i.guard with
 | some true=>match sem cl i.op key s.slots s.heap s.ep with
  | some ⟨v,[],false⟩=>some ⟨putTo s.slots i.dst v,s.heap,s.ep,s.next,s.base⟩
  | _=>none
 | some false=>some ⟨putTo s.slots i.dst (.tup []),s.heap,s.ep,s.next,s.base⟩
 | none=>none
def runQuiet(cl:Callee):List CIns->Nat->St->Option St
 | [],_,s=>some s
 | i::is,key,s=>match stepQuiet cl i key s with
  | some s'=>runQuiet cl is (key+64) s'
  | none=>none
/-! ### What an operation looks at in memory -/
def inner(h:Nat->Option AO):AV->List Nat
 | .ptr id _ _=>match h id with
  | some (.box cells)=>cells.flatMap AV.id?
  | _=>[]
 | _=>[]
def COp.looks(o:COp)(g:Nat->AV)(h:Nat->Option AO):List Nat :=
 match o with
 | .mov _|.pick ..|.bin ..|.beq ..|.eqs ..|.un ..|.conv ..|.sconv _|.alloc _|.box _|.build ..|.mksl ..|.sslice ..|.sidx ..|.ext ..|.mx ..|.mkmap _=>[]
 | .toStr x|.len _ x|.nilck x|.faddr x _=>(x.ev g).id?
 | .load x _ _ _=>(x.ev g).id?
 | .store a x _=>(a.ev g).id?++(x.ev g).ids
 | .bslice _ _ _ parts=>parts.flatMap fun p=>(p.2.ev g).ids
 | .iaddr _ x _|.slice _ x _ _|.cut3 _ x _ _|.blank _ x=>(x.ev g).id?
 | .append _ _ _ s x=>(s.ev g).id?++(x.ev g).id?
 | .lookup _ _ m _|.mapset _ m _ _=>(m.ev g).id?
 | .call _ _ args=>(evL g args).flatMap fun v=>v.ids++inner h v
 | .callf _ _ args=>(evL g args).flatMap fun v=>v.ids++inner h v
 | .callin _ x _=>(x.ev g).id?
 | .mkifs _ x|.mkclo _ x=>(x.ev g).id?
 | .sortc _ _ _ _ x y=>(x.ev g).id?++(y.ev g).id?
def COp.opds:COp->List Opd
 | .mov x|.nilck x|.un _ x|.conv _ x|.toStr x|.sconv x|.box x|.mksl _ _ _ x|.load x _ _ _|.faddr x _|.len _ x|.ext x _=>[x]
 | .pick c a b=>[c,a,b]
 | .mx _ x y|.bin _ x y|.beq _ x y|.eqs _ _ x y|.store x y _|.iaddr _ x y|.sidx x y|.append _ _ _ x y|.lookup _ _ x y=>[x,y]
 | .mapset _ m k v=>[m,k,v]
 | .cut3 _ x h1 h2=>[x,h1,h2]
 | .blank _ x=>[x]
 | .alloc _|.mkmap _=>[]
 | .build _ ps=>ps.map (·.2.2)
 | .bslice _ _ _ ps=>ps.map (·.2)
 | .slice _ x lo hi|.sslice x lo hi=>x::(lo.toList++hi.toList)
 | .call _ _ args=>args
 | .callf f _ args=>f::args
 | .callin _ x args=>x::args
 | .mkifs _ x|.mkclo _ x=>[x]
 | .sortc _ _ _ _ x y=>[x,y]
structure Tr where
 rd:List Nat
 wr:List Nat
 ue:Bool
 we:Bool
 km:Option (Nat×ByteArray)
def bsnap:AV->Bool
 | .bptr m _ _=>m.isSnap
 | v=>v.snaps
def mapMark(op:COp)(g:Nat->AV)(ws:List (Nat×Option AO)):Option (Nat×ByteArray) :=
 match ws with
 | [(id,some (.map _ _))]=>match op with
  | .mapset kb _ k _=>match keyOf kb (k.ev g) with
   | some s=>some (id,s)
   | none=>none
  | _=>none
 | _=>none
def stepLoud(cl:Callee)(i:CIns)(key:Nat)(s:St):Option (St×Tr) :=
 match guardA s.slots i.guard with
 | some true=>match sem cl i.op key s.slots s.heap s.ep with
  | some o=>some (o.app i.dst s,⟨i.op.looks s.slots s.heap,o.ws.map (·.1),bsnap o.v || (evL s.slots i.op.opds).any bsnap,o.bump,mapMark i.op s.slots o.ws⟩)
  | none=>none
 | some false=>some (⟨putTo s.slots i.dst (.tup []),s.heap,s.ep,s.next,s.base⟩,⟨[],[],false,false,none⟩)
 | none=>none
def runLoud(cl:Callee):List CIns->Nat->St->Option (St×List Tr)
 | [],_,s=>some (s,[])
 | i::is,key,s=>match stepLoud cl i key s with
  | none=>none
  | some (s',t)=>match runLoud cl is (key+64) s' with
   | none=>none
   | some (s'',ts)=>some (s'',t::ts)
def meets(a b:List Nat):Bool:=a.any fun x=>b.contains x
def Tr.meet(a b:Tr):Bool:=meets a.wr b.rd || meets a.wr b.wr || meets a.rd b.wr || (a.we && (b.ue || b.we)) || (a.ue && b.we)
def Tr.clash(a b:Tr):Bool:=match a.km,b.km with
 | some (i,k),some (j,l)=>if i=j then sEq l k else a.meet b
 | _,_=>a.meet b
def clearOf(a:Tr)(i:Nat):List Tr->List Nat->Bool
 | b::bs,d::ds=>(d.testBit i || !a.clash b) && clearOf a i bs ds
 | [],[]=>true
 | _,_=>false
def allClear(i:Nat):List Tr->List Nat->Bool
 | a::as,_::ds=>clearOf a i as ds && allClear (i+1) as ds
 | [],[]=>true
 | _,_=>false
/-! ### Loops: names and arrays as at the head of every round -/
def rn1(L:List Nat):AV->AV
 | .ref id=>if L.contains id then .ref (L.idxOf id) else .any
 | .view id lo len=>if L.contains id then .view (L.idxOf id) lo len else .any
 | .ptr id i off=>if L.contains id then .ptr (L.idxOf id) i off else .any
 | .mapr id=>if L.contains id then .mapr (L.idxOf id) else .any
 | .sl (.snap _) _ _=>.any
 | .bptr (.snap _) _ _=>.any
 | .inn ..=>.any
 | .ifs ..=>.any
 | .clo ..=>.any
 | .cut ..=>.any
 | .inp ..=>.any
 | v=>v
def rnV(L:List Nat):AV->AV
 | .agg cs=>.agg (cs.map (rn1 L))
 | .tup vs=>if vs.isEmpty then .tup [] else .any
 | v=>rn1 L v
def rnO(L:List Nat):AO->AO
 | .box cells=>.box (cells.map (rn1 L))
 | o=>o
def addNew(L is:List Nat):List Nat:=is.foldl (fun L i=>if L.contains i then L else L++[i]) L
def idsOfSlots(g:Nat->AV):List Nat->List Nat->List Nat
 | [],L=>L
 | t::ts,L=>idsOfSlots g ts (addNew L (g t).ids)
def idsOfBoxes(h:Nat->Option AO):List Nat->List Nat->List Nat
 | [],L=>L
 | i::is,L=>match h i with
  | some (.box cells)=>idsOfBoxes h is (addNew L (cells.flatMap AV.id?))
  | _=>idsOfBoxes h is L
def rnHeap(h:Nat->Option AO)(L:List Nat):List Nat->Nat->Nat->Option AO
 | [],_=>fun _=>none
 | i::is,n=>upd (rnHeap h L is (n+1)) n ((h i).map (rnO L))
def rnSlots(g:Nat->AV)(L:List Nat):List Nat->Nat->AV
 | []=>fun _=>.any
 | t::ts=>upd (rnSlots g L ts) t (rnV L (g t))
def St.norm(s:St)(keep:List Nat):St :=
 let L1:=idsOfSlots s.slots keep (List.range s.base)
 let L:=idsOfBoxes s.heap L1 L1
 ⟨rnSlots s.slots L keep,rnHeap s.heap L L 0,0,L.length,s.base⟩
def rounds(f:St->Option (AExit×St))(keep:List Nat):Nat->St->Option (AExit×St)
 | 0,_=>none
 | n+1,s=>match f (s.norm keep) with
  | some (.normal,s')=>rounds f keep n s'
  | r=>r
def big:Nat:=1000000000000000
def runCode(cl:Callee):CCode->St->Option (AExit×St)
 | .skip,s=>some (.normal,s)
 | .region ops keep,s=>match runIns cl ops s.next s with
  | some s'=>some (.normal,s'.forget keep (s.next+64*ops.length))
  | none=>none
 | .quiet ops keep,s=>match runQuiet cl ops s.next s with
  | some s'=>some (.normal,s'.forget keep (s.next+64*ops.length))
  | none=>none
 | .loud ops deps keep,s=>match runLoud cl ops s.next s with
  | some (s',ts)=>if allClear 0 ts deps then some (.normal,s'.forget keep (s.next+64*ops.length)) else none
  | none=>none
 | .seq a b,s=>match runCode cl a s with
  | some (.normal,s')=>runCode cl b s'
  | r=>r
 | .cond c a b,s=>match c.ev s.slots with
  | .bool true=>runCode cl a s
  | .bool false=>runCode cl b s
  | _=>none
 | .block id b,s=>match runCode cl b s with
  | some (.exit i,s')=>if i=id then some (.normal,s') else some (.exit i,s')
  | r=>r
 | .loop keep b,s=>rounds (runCode cl b) keep big s
 | .exit id,s=>some (.exit id,s)
 | .ret,s=>some (.ret,s)
/-! ### Functions -/
def shut1(h:Nat->Option AO):AV->Option (AV×List Nat)
 | .ref id=>match h id with
  | some (.arr sz xs)=>some (.sl .own sz xs,[id])
  | _=>none
 | .bool b=>some (.bool b,[])
 | .int k n=>some (.int k n,[])
 | .str s=>some (.str s,[])
 | .sl .own sz []=>some (.sl .own sz [],[])
 | .sl .imm sz xs=>some (.sl .imm sz xs,[])
 | _=>none
def shutC(h:Nat->Option AO):AV->Option (AV×List Nat)
 | .any=>some (.any,[])
 | v=>shut1 h v
def shutL(h:Nat->Option AO):List AV->Option (List AV×List Nat)
 | []=>some ([],[])
 | c::cs=>match shutC h c with
  | none=>none
  | some (d,is)=>match shutL h cs with
   | none=>none
   | some (ds,js)=>some (d::ds,is++js)
def shutV(h:Nat->Option AO):AV->Option (AV×List Nat)
 | .agg cs=>match shutL h cs with
  | some (ds,is)=>some (.agg ds,is)
  | none=>none
 | .ptr id 0 0=>match h id with
  | some (.box cells)=>match shutL h cells with
   | some (ds,is)=>some (.cellp ds,id::is)
   | none=>none
  | _=>none
 | v=>shut1 h v
def shutT(h:Nat->Option AO):List AV->Option (List AV×List Nat)
 | []=>some ([],[])
 | c::cs=>match shutV h c with
  | none=>none
  | some (d,is)=>match shutT h cs with
   | none=>none
   | some (ds,js)=>some (d::ds,is++js)
def shutBoxes(h:Nat->Option AO):Nat->Nat->Option (List Nat)
 | _,0=>some []
 | i,n+1=>match h i with
  | some (.box cells)=>match shutL h cells with
   | some (_,is)=>match shutBoxes h (i+1) n with
    | some js=>some (is++js)
    | none=>none
   | none=>none
  | _=>shutBoxes h (i+1) n
def outOf(h:Nat->Option AO)(gone:List Nat)(i:Nat):Option AO :=
 match h i with
 | some (.box cells)=>match shutL h cells with
  | some (ds,_)=>some (.box ds)
  | none=>none
 | some (.arr sz xs)=>if gone.contains i then none else some (.arr sz xs)
 | _=>none
def outsOf(h:Nat->Option AO)(gone:List Nat):Nat->Nat->List (Option AO)
 | _,0=>[]
 | i,n+1=>outOf h gone i::outsOf h gone (i+1) n
def resVal(s:St):CRes->Option AV
 | .tmp t=>some (s.slots t)
 | .cell t sz agg=>match s.slots t with
  | .ptr id 0 0=>match s.heap id with
   | some (.box cells)=>if cells.length=sz then loadFrom cells 0 sz agg else none
   | _=>none
  | _=>none
def resVals(s:St):List CRes->Option (List AV)
 | []=>some []
 | r::rs=>match resVal s r with
  | none=>none
  | some v=>match resVals s rs with
   | none=>none
   | some vs=>some (v::vs)
def startSlots:List AV->Nat->Nat->AV
 | [],_=>fun _=>.any
 | v::vs,t=>upd (startSlots vs (t+1)) t v
def startHeap:List AO->Nat->Nat->Option AO
 | [],_=>fun _=>none
 | o::os,i=>upd (startHeap os (i+1)) i (some o)
def endFn(c:CFn)(n:Nat)(s:St):Option (AV×List (Option AO)) :=
 match resVals s c.res with
 | none=>none
 | some vs=>match shutT s.heap vs with
  | none=>none
  | some (ws,is)=>match shutBoxes s.heap 0 n with
   | none=>none
   | some js=>if distinct (is++js) && (is++js).all (fun i=>match s.heap i with|some (.box _)=>decide (n<=i)|_=>true) then
     some (match ws with|[v]=>v|ws=>.tup ws,outsOf s.heap (is++js) 0 n)
    else none
def runFn(cl:Callee)(c:CFn)(args:List AV)(objs:List AO):Option (AV×List (Option AO)) :=
 if args.length<=c.nt then
  match runCode cl c.body ⟨startSlots args 0,startHeap objs 0,0,objs.length,objs.length⟩ with
  | some (.ret,s)=>endFn c objs.length s
  | some (.normal,s)=>endFn c objs.length s
  | _=>none
 else none
structure CProg where
 fn:Nat->Option CFn
 prim:Callee
def CProg.call(p:CProg):Nat->Callee
 | 0,_,_,_=>none
 | d+1,k,args,objs=>match p.fn k with
  | some c=>runFn (p.call d) c args objs
  | none=>p.prim k args objs
end Go.Proofs.YtfemiipgkhekiaaGreatDoor
namespace Go.Proofs.YtfemiipgkhekiaaGreatDoor
open Go
def Ev{α:Type}(E:Nat->Option α)(r:α):Prop:=∃ d,∀ e,d<=e->E e=some r
theorem Ev.one{α:Type}{E:Nat->Option α}{r s:α}:Ev E r->Ev E s->r=s:=fun ⟨d,h⟩ ⟨e,k⟩=>by
 have h1:=h (max d e) (Nat.le_max_left _ _)
 rw[k (max d e) (Nat.le_max_right _ _)]at h1
 exact (Option.some.inj h1).symm
theorem Ev.const{α:Type}{x:Option α}{r:α}(h:x=some r):Ev (fun _=>x) r:=⟨0,fun _ _=>h⟩
theorem Ev.and{α β:Type}{E:Nat->Option α}{G:Nat->Option β}{r:α}{s:β}:Ev E r->Ev G s->∃ d,∀ e,d<=e->E e=some r/\G e=some s:=fun ⟨d,h⟩ ⟨e,k⟩ =>
 ⟨max d e,fun _ hm=>⟨h _ (Nat.le_trans (Nat.le_max_left _ _) hm),k _ (Nat.le_trans (Nat.le_max_right _ _) hm)⟩⟩
open Classical in
noncomputable def CProg.lim(p:CProg):Callee:=fun k args objs =>
 if h:∃ r,Ev (fun d=>p.call d k args objs) r then some h.choose else none
theorem Zk1{p:CProg}{k:Nat}{args:List AV}{objs:List AO}{r:AV×List (Option AO)}:p.lim k args objs=some r↔Ev (fun d=>p.call d k args objs) r:=by
 unfold CProg.lim
 constructor
 ·intro h
  split at h
  ·rename_i hx
   rw[<- Option.some.inj h]
   exact hx.choose_spec
  ·cases h
 ·intro h
  rw[dif_pos ⟨r,h⟩]
  have hx:∃ r,Ev (fun d=>p.call d k args objs) r:=⟨r,h⟩
  exact congrArg some (hx.choose_spec.one h)
section
variable {p:CProg}
theorem Zh3{k:Nat}{modes:List Bool}{vs:List AV}{key:Nat}{h:Nat->Option AO}{ep:Nat}{o:Out}(hs:semCall p.lim k modes vs key h ep=some o):Ev (fun d=>semCall (p.call d) k modes vs key h ep) o:=by
 unfold semCall at hs ⊢
 cases hp:passArgs h ep 0 modes vs with
 | none=>rw[hp]at hs;cases hs
 | some g =>
  rw[hp]at hs
  simp only at hs ⊢
  split at hs
  case isFalse=>cases hs
  rename_i hc
  simp only[hc,if_true]
  cases hl:p.lim k g.args g.objs with
  | none=>rw[hl]at hs;cases hs
  | some q =>
   rw[hl]at hs
   obtain⟨d,hd⟩:=Zk1.1 hl
   refine⟨d,fun e he=>?_⟩
   have:=hd e he
   dsimp only at this ⊢
   rw[this]
   exact hs
theorem Zpt{o:COp}{key:Nat}{g:Nat->AV}{h:Nat->Option AO}{ep:Nat}{out:Out}(hs:sem p.lim o key g h ep=some out):Ev (fun d=>sem (p.call d) o key g h ep) out:=by
 cases o
 case call k modes args=>exact Zh3 hs
 case callf f modes args =>
  simp only[sem]at hs ⊢
  generalize f.ev g=v at hs ⊢
  cases v<;>simp only[reduceCtorEq]at hs ⊢
  exact Zh3 hs
 case len b x=>cases b<;>exact⟨0,fun _ _=>hs⟩
 case callin k x args =>
  simp only[sem]at hs ⊢
  generalize x.ev g=v at hs ⊢
  cases v<;>simp only[reduceCtorEq]at hs ⊢
  rename_i e id i off
  split at hs
  case isFalse=>cases hs
  rename_i hc
  simp only[if_pos hc]
  generalize h id=ho at hs ⊢
  match ho with
  | none=>cases hs
  | some (.box _)=>cases hs
  | some (.map _ _)=>cases hs
  | some (.arr sz xs) =>
   simp only at hs ⊢
   generalize hrow:xs[i]?=ro at hs ⊢
   cases ro with
   | none=>cases hs
   | some row =>
    dsimp only at hs ⊢
    generalize row[off]?=ce at hs ⊢
    obtain⟨sz2,zs,rfl⟩:∃ sz2 zs,ce=some (.sl .own sz2 zs):=by
     split at hs
     ·exact⟨_,_,rfl⟩
     ·cases hs
    dsimp only at hs ⊢
    cases hl:p.lim k (.ref 0::evL g args) [.arr sz2 zs] with
    | none=>rw[hl]at hs;cases hs
    | some q =>
     rw[hl]at hs
     obtain⟨d,hd⟩:=Zk1.1 hl
     refine⟨d,fun e2 he=>?_⟩
     have:=hd e2 he
     dsimp only at this ⊢
     rw[this]
     exact hs
 all_goals exact⟨0,fun _ _=>by dsimp only;exact hs⟩
theorem Zoe{i:CIns}{key:Nat}{s s':St}(hs:stepIns p.lim i key s=some s'):Ev (fun d=>stepIns (p.call d) i key s) s':=by
 unfold stepIns at hs ⊢
 generalize guardA s.slots i.guard=q at hs ⊢
 match q with
 | none=>cases hs
 | some false=>exact .const hs
 | some true =>
  simp only at hs ⊢
  cases ho:sem p.lim i.op key s.slots s.heap s.ep with
  | none=>rw[ho]at hs;cases hs
  | some o =>
   rw[ho]at hs
   obtain⟨d,hd⟩:=Zpt ho
   exact⟨d,fun e he=>by have:=hd e he;dsimp only at this ⊢;rw[this];exact hs⟩
theorem Zj0:∀ {is:List CIns} {key:Nat} {s s':St},runIns p.lim is key s=some s'->Ev (fun d=>runIns (p.call d) is key s) s'
 | [],_,_,_,h=>.const h
 | i::is,key,s,s',h=>by
  simp only[runIns]at h ⊢
  cases h1:stepIns p.lim i key s with
  | none=>rw[h1]at h;cases h
  | some s1 =>
   rw[h1]at h
   obtain⟨d,hd⟩:=(Zoe h1).and (Zj0 h)
   exact⟨d,fun e he=>by dsimp only;rw[(hd e he).1];exact (hd e he).2⟩
theorem Zj9{i:CIns}{key:Nat}{s s':St}(hs:stepQuiet p.lim i key s=some s'):Ev (fun d=>stepQuiet (p.call d) i key s) s':=by
 unfold stepQuiet at hs ⊢
 generalize guardA s.slots i.guard=q at hs ⊢
 match q with
 | none=>cases hs
 | some false=>exact .const hs
 | some true =>
  simp only at hs ⊢
  cases ho:sem p.lim i.op key s.slots s.heap s.ep with
  | none=>rw[ho]at hs;cases hs
  | some o =>
   rw[ho]at hs
   obtain⟨d,hd⟩:=Zpt ho
   exact⟨d,fun e he=>by have:=hd e he;dsimp only at this ⊢;rw[this];exact hs⟩
theorem Zho:∀ {is:List CIns} {key:Nat} {s s':St},runQuiet p.lim is key s=some s'->Ev (fun d=>runQuiet (p.call d) is key s) s'
 | [],_,_,_,h=>.const h
 | i::is,key,s,s',h=>by
  simp only[runQuiet]at h ⊢
  cases h1:stepQuiet p.lim i key s with
  | none=>rw[h1]at h;cases h
  | some s1 =>
   rw[h1]at h
   obtain⟨d,hd⟩:=(Zj9 h1).and (Zho h)
   exact⟨d,fun e he=>by dsimp only;rw[(hd e he).1];exact (hd e he).2⟩
theorem Zlp{i:CIns}{key:Nat}{s:St}{q':St×Tr}(hs:stepLoud p.lim i key s=some q'):Ev (fun d=>stepLoud (p.call d) i key s) q':=by
 unfold stepLoud at hs ⊢
 generalize guardA s.slots i.guard=q at hs ⊢
 match q with
 | none=>cases hs
 | some false=>exact .const hs
 | some true =>
  simp only at hs ⊢
  cases ho:sem p.lim i.op key s.slots s.heap s.ep with
  | none=>rw[ho]at hs;cases hs
  | some o =>
   rw[ho]at hs
   obtain⟨d,hd⟩:=Zpt ho
   exact⟨d,fun e he=>by have:=hd e he;dsimp only at this ⊢;rw[this];exact hs⟩
theorem Zik:∀ {is:List CIns} {key:Nat} {s:St} {q:St×List Tr},runLoud p.lim is key s=some q->Ev (fun d=>runLoud (p.call d) is key s) q
 | [],_,_,_,h=>.const h
 | i::is,key,s,q,h=>by
  simp only[runLoud]at h ⊢
  cases h1:stepLoud p.lim i key s with
  | none=>rw[h1]at h;cases h
  | some q1 =>
   obtain⟨s1,t⟩:=q1
   rw[h1]at h
   simp only at h
   cases h2:runLoud p.lim is (key+64) s1 with
   | none=>rw[h2]at h;cases h
   | some q2 =>
    rw[h2]at h
    obtain⟨d,hd⟩:=(Zlp h1).and (Zik h2)
    exact⟨d,fun e he=>by dsimp only;rw[(hd e he).1];simp only;rw[(hd e he).2];exact h⟩
theorem Zk2{f:Nat->St->Option (AExit×St)}{f0:St->Option (AExit×St)}{keep:List Nat}(hf:∀ s r,f0 s=some r->Ev (fun d=>f d s) r):∀ {n:Nat} {s:St} {r:AExit×St},rounds f0 keep n s=some r->Ev (fun d=>rounds (f d) keep n s) r
 | 0,_,_,h=>by cases h
 | n+1,s,r,h=>by
  simp only[rounds]at h ⊢
  cases h1:f0 (s.norm keep) with
  | none=>rw[h1]at h;cases h
  | some q =>
   obtain⟨ex,s'⟩:=q
   rw[h1]at h
   cases ex with
   | normal =>
    obtain⟨d,hd⟩:=(hf _ _ h1).and (Zk2 hf h)
    exact⟨d,fun e he=>by dsimp only;rw[(hd e he).1];exact (hd e he).2⟩
   | exit i=>obtain⟨d,hd⟩:=hf _ _ h1;exact⟨d,fun e he=>by have:=hd e he;dsimp only at this ⊢;rw[this];exact h⟩
   | ret=>obtain⟨d,hd⟩:=hf _ _ h1;exact⟨d,fun e he=>by have:=hd e he;dsimp only at this ⊢;rw[this];exact h⟩
theorem Za2:∀ {c:CCode} {s:St} {r:AExit×St},runCode p.lim c s=some r->Ev (fun d=>runCode (p.call d) c s) r
 | .skip,_,_,h=>.const h
 | .exit _,_,_,h=>.const h
 | .ret,_,_,h=>.const h
 | .region ops keep,s,r,h=>by
  simp only[runCode]at h ⊢
  cases h1:runIns p.lim ops s.next s with
  | none=>rw[h1]at h;cases h
  | some s1=>rw[h1]at h;obtain⟨d,hd⟩:=Zj0 h1;exact⟨d,fun e he=>by have:=hd e he;dsimp only at this ⊢;rw[this];exact h⟩
 | .quiet ops keep,s,r,h=>by
  simp only[runCode]at h ⊢
  cases h1:runQuiet p.lim ops s.next s with
  | none=>rw[h1]at h;cases h
  | some s1=>rw[h1]at h;obtain⟨d,hd⟩:=Zho h1;exact⟨d,fun e he=>by have:=hd e he;dsimp only at this ⊢;rw[this];exact h⟩
 | .loud ops deps keep,s,r,h=>by
  simp only[runCode]at h ⊢
  cases h1:runLoud p.lim ops s.next s with
  | none=>rw[h1]at h;cases h
  | some s1=>rw[h1]at h;obtain⟨d,hd⟩:=Zik h1;exact⟨d,fun e he=>by have:=hd e he;dsimp only at this ⊢;rw[this];exact h⟩
 | .seq a b,s,r,h=>by
  simp only[runCode]at h ⊢
  cases h1:runCode p.lim a s with
  | none=>rw[h1]at h;cases h
  | some q =>
   obtain⟨ex,s'⟩:=q
   rw[h1]at h
   cases ex with
   | normal =>
    obtain⟨d,hd⟩:=(Za2 h1).and (Za2 h)
    exact⟨d,fun e he=>by dsimp only;rw[(hd e he).1];exact (hd e he).2⟩
   | exit i=>obtain⟨d,hd⟩:=Za2 h1;exact⟨d,fun e he=>by have:=hd e he;dsimp only at this ⊢;rw[this];exact h⟩
   | ret=>obtain⟨d,hd⟩:=Za2 h1;exact⟨d,fun e he=>by have:=hd e he;dsimp only at this ⊢;rw[this];exact h⟩
 | .cond c a b,s,r,h=>by
  simp only[runCode]at h ⊢
  generalize c.ev s.slots=v at h ⊢
  match v with
  | .bool true=>exact Za2 h
  | .bool false=>exact Za2 h
  | .any|.int _ _|.str _|.sl _ _ _|.ref _|.view _ _ _|.ptr _ _ _|.bptr _ _ _|.agg _|.tup _|.cellp _|.mapr _|.fn _=>cases h
 | .block id b,s,r,h=>by
  simp only[runCode]at h ⊢
  cases h1:runCode p.lim b s with
  | none=>rw[h1]at h;cases h
  | some q =>
   obtain⟨ex,s'⟩:=q
   rw[h1]at h
   obtain⟨d,hd⟩:=Za2 h1
   exact⟨d,fun e he=>by have:=hd e he;dsimp only at this ⊢;rw[this];exact h⟩
 | .loop keep b,s,r,h=>by
  simp only[runCode]at h ⊢
  exact Zk2 (fun s r hr=>Za2 hr) h
theorem Zry{c:CFn}{args:List AV}{objs:List AO}{r:AV×List (Option AO)}(h:runFn p.lim c args objs=some r):Ev (fun d=>runFn (p.call d) c args objs) r:=by
 unfold runFn at h ⊢
 split at h
 case isFalse=>cases h
 rename_i hl
 simp only[hl,if_true]
 cases h1:runCode p.lim c.body ⟨startSlots args 0,startHeap objs 0,0,objs.length,objs.length⟩ with
 | none=>rw[h1]at h;cases h
 | some q =>
  rw[h1]at h
  obtain⟨d,hd⟩:=Za2 h1
  exact⟨d,fun e he=>by have:=hd e he;dsimp only at this ⊢;rw[this];exact h⟩
theorem Zva{k:Nat}{c:CFn}{args:List AV}{objs:List AO}{r:AV×List (Option AO)}(hc:p.fn k=some c)(h:runFn p.lim c args objs=some r):p.lim k args objs=some r:=by
 obtain⟨d,hd⟩:=Zry h
 refine Zk1.2 ⟨d+1,fun e he=>?_⟩
 obtain⟨e',rfl⟩:∃ e',e=e'+1:=⟨e-1,by omega⟩
 simp only[CProg.call,hc]
 exact hd e' (by omega)
theorem Zed{k:Nat}{args:List AV}{objs:List AO}{r:AV×List (Option AO)}(hc:p.fn k=none)(h:p.prim k args objs=some r):p.lim k args objs=some r :=
 Zk1.2 ⟨1,fun e he=>by
  obtain⟨e',rfl⟩:∃ e',e=e'+1:=⟨e-1,by omega⟩
  simp only[CProg.call,hc]
  exact h⟩
end
end Go.Proofs.YtfemiipgkhekiaaGreatDoor
namespace Go.Proofs.YtfemiipgkhekiaaGreatDoor
open Go
inductive Fr where
 | code (c:CCode)
 | blk (id:Nat)
 | back (y:St->Option (AExit×St))
def X(cl:Callee):List Fr->AExit×St->Option (AExit×St)
 | [],r=>some r
 | .code c::fs,(.normal,s)=>match runCode cl c s with
  | some r=>X cl fs r
  | none=>none
 | .code _::fs,(.exit i,s)=>X cl fs (.exit i,s)
 | .code _::fs,(.ret,s)=>X cl fs (.ret,s)
 | .blk id::fs,(.exit i,s)=>if i=id then X cl fs (.normal,s) else X cl fs (.exit i,s)
 | .blk _::fs,(.normal,s)=>X cl fs (.normal,s)
 | .blk _::fs,(.ret,s)=>X cl fs (.ret,s)
 | .back y::_,(.normal,s)=>y s
 | .back _::fs,(.exit i,s)=>X cl fs (.exit i,s)
 | .back _::fs,(.ret,s)=>X cl fs (.ret,s)
def XR(cl:Callee)(is:List CIns)(key:Nat)(s:St)(keep:List Nat)(nx:Nat)(fs:List Fr):Option (AExit×St) :=
 match runIns cl is key s with
 | some s'=>X cl fs (.normal,s'.forget keep nx)
 | none=>none
def XQ(cl:Callee)(is:List CIns)(key:Nat)(s:St)(keep:List Nat)(nx:Nat)(fs:List Fr):Option (AExit×St) :=
 match runQuiet cl is key s with
 | some s'=>X cl fs (.normal,s'.forget keep nx)
 | none=>none
def XO(cl:Callee)(o:Option Out)(dst:Option Nat)(is:List CIns)(key:Nat)(s:St)(keep:List Nat)(nx:Nat)(fs:List Fr):Option (AExit×St) :=
 match o with
 | some o=>XR cl is key (o.app dst s) keep nx fs
 | none=>none
def XOQ(cl:Callee)(o:Option Out)(dst:Option Nat)(is:List CIns)(key:Nat)(s:St)(keep:List Nat)(nx:Nat)(fs:List Fr):Option (AExit×St) :=
 match o with
 | some ⟨v,[],false⟩=>XQ cl is key ⟨putTo s.slots dst v,s.heap,s.ep,s.next,s.base⟩ keep nx fs
 | _=>none
def XG(cl:Callee)(v:AV)(t:Nat)(b:Bool)(op:COp)(dst:Option Nat)(is:List CIns)(key:Nat)(s:St)(keep:List Nat)(nx:Nat)(fs:List Fr):Option (AExit×St) :=
 match v with
 | .bool c=>if c=b then XR cl (⟨dst,op,none⟩::is) key ⟨upd s.slots t (.bool b),s.heap,s.ep,s.next,s.base⟩ keep nx fs
  else XR cl is (key+64) ⟨putTo (upd s.slots t (.bool !b)) dst (.tup []),s.heap,s.ep,s.next,s.base⟩ keep nx fs
 | .tup []=>XR cl is (key+64) ⟨putTo s.slots dst (.tup []),s.heap,s.ep,s.next,s.base⟩ keep nx fs
 | _=>none
def XGQ(cl:Callee)(v:AV)(t:Nat)(b:Bool)(op:COp)(dst:Option Nat)(is:List CIns)(key:Nat)(s:St)(keep:List Nat)(nx:Nat)(fs:List Fr):Option (AExit×St) :=
 match v with
 | .bool c=>if c=b then XQ cl (⟨dst,op,none⟩::is) key ⟨upd s.slots t (.bool b),s.heap,s.ep,s.next,s.base⟩ keep nx fs
  else XQ cl is (key+64) ⟨putTo (upd s.slots t (.bool !b)) dst (.tup []),s.heap,s.ep,s.next,s.base⟩ keep nx fs
 | .tup []=>XQ cl is (key+64) ⟨putTo s.slots dst (.tup []),s.heap,s.ep,s.next,s.base⟩ keep nx fs
 | _=>none
def XD(cl:Callee)(is:List CIns)(key:Nat)(s:St)(acc:List Tr)(deps keep:List Nat)(nx:Nat)(fs:List Fr):Option (AExit×St) :=
 match runLoud cl is key s with
 | some (s',ts)=>if allClear 0 (acc++ts) deps then X cl fs (.normal,s'.forget keep nx) else none
 | none=>none
def XOD(cl:Callee)(o:Option Out)(dst:Option Nat)(op:COp)(is:List CIns)(key:Nat)(s:St)(acc:List Tr)(deps keep:List Nat)(nx:Nat)(fs:List Fr):Option (AExit×St) :=
 match o with
 | some o=>XD cl is key (o.app dst s) (acc++[⟨op.looks s.slots s.heap,o.ws.map (·.1),bsnap o.v || (evL s.slots op.opds).any bsnap,o.bump,mapMark op s.slots o.ws⟩]) deps keep nx fs
 | none=>none
def XGD(cl:Callee)(v:AV)(t:Nat)(b:Bool)(op:COp)(dst:Option Nat)(is:List CIns)(key:Nat)(s:St)(acc:List Tr)(deps keep:List Nat)(nx:Nat)(fs:List Fr):Option (AExit×St) :=
 match v with
 | .bool c=>if c=b then XD cl (⟨dst,op,none⟩::is) key ⟨upd s.slots t (.bool b),s.heap,s.ep,s.next,s.base⟩ acc deps keep nx fs
  else XD cl is (key+64) ⟨putTo (upd s.slots t (.bool !b)) dst (.tup []),s.heap,s.ep,s.next,s.base⟩ (acc++[⟨[],[],false,false,none⟩]) deps keep nx fs
 | .tup []=>XD cl is (key+64) ⟨putTo s.slots dst (.tup []),s.heap,s.ep,s.next,s.base⟩ (acc++[⟨[],[],false,false,none⟩]) deps keep nx fs
 | _=>none
def cset(c:Opd)(w:Bool)(s:St):St :=
 match c with
 | .tmp t=>⟨upd s.slots t (.bool w),s.heap,s.ep,s.next,s.base⟩
 | .const _=>s
def XC(cl:Callee)(v:AV)(c:Opd)(a b:CCode)(s:St)(fs:List Fr):Option (AExit×St) :=
 match v with
 | .bool w=>if w=true then X cl (.code a::fs) (.normal,cset c true s) else X cl (.code b::fs) (.normal,cset c false s)
 | _=>none
def XL(cl:Callee)(r:Option (AExit×St))(fs:List Fr):Option (AExit×St) :=
 match r with
 | some r=>X cl fs r
 | none=>none
section
variable {cl:Callee}
theorem Zcq{α:Type}{f:Nat->α}{t:Nat}{v:α}(h:f t=v):upd f t v=f:=by
 funext j
 unfold upd
 split
 ·rename_i hj;rw[hj,h]
 ·rfl
theorem Zvr(r:AExit×St):X cl [] r=some r:=by rw[X]
theorem Zmn:∀ (fs:List Fr) (s:St),X cl fs (.ret,s)=some (.ret,s)
 | [],_=>by rw[X]
 | .code _::fs,s=>by rw[X];exact Zmn fs s
 | .blk _::fs,s=>by rw[X];exact Zmn fs s
 | .back _::fs,s=>by rw[X];exact Zmn fs s
theorem Zu7(c:CCode)(fs:List Fr)(i:Nat)(s:St):X cl (.code c::fs) (.exit i,s)=X cl fs (.exit i,s):=by rw[X]
theorem Zj2(i:Nat)(fs:List Fr)(s:St):X cl (.blk i::fs) (.normal,s)=X cl fs (.normal,s):=by rw[X]
theorem Zov(i j:Nat)(fs:List Fr)(s:St):X cl (.blk i::fs) (.exit j,s)=if j=i then X cl fs (.normal,s) else X cl fs (.exit j,s):=by rw[X]
theorem Zjt(y:St->Option (AExit×St))(fs:List Fr)(s:St):X cl (.back y::fs) (.normal,s)=y s:=by rw[X]
theorem Zlc(y:St->Option (AExit×St))(fs:List Fr)(i:Nat)(s:St):X cl (.back y::fs) (.exit i,s)=X cl fs (.exit i,s):=by rw[X]
theorem Zvn(fs:List Fr)(s:St):X cl (.code .skip::fs) (.normal,s)=X cl fs (.normal,s):=by rw[X];rfl
theorem Zuw(i:Nat)(fs:List Fr)(s:St):X cl (.code (.exit i)::fs) (.normal,s)=X cl fs (.exit i,s):=by rw[X];rfl
theorem Zu1(fs:List Fr)(s:St):X cl (.code .ret::fs) (.normal,s)=X cl fs (.ret,s):=by rw[X];rfl
theorem Zvu(a b:CCode)(fs:List Fr)(s:St):X cl (.code (.seq a b)::fs) (.normal,s)=X cl (.code a::.code b::fs) (.normal,s):=by
 rw[X,X,runCode]
 cases h:runCode cl a s with
 | none=>rfl
 | some r =>
  obtain⟨ex,s'⟩:=r
  cases ex<;>simp only[X]
theorem Zul(i:Nat)(b:CCode)(fs:List Fr)(s:St):X cl (.code (.block i b)::fs) (.normal,s)=X cl (.code b::.blk i::fs) (.normal,s):=by
 rw[X,X,runCode]
 cases h:runCode cl b s with
 | none=>rfl
 | some r =>
  obtain⟨ex,s'⟩:=r
  cases ex with
  | exit j=>by_cases hj:j=i<;>simp[X,hj]
  | _=>simp only[X]
theorem Zu6(c:Opd)(a b:CCode)(fs:List Fr)(s:St):X cl (.code (.cond c a b)::fs) (.normal,s)=XC cl (c.ev s.slots) c a b s fs:=by
 rw[X,runCode]
 unfold XC
 cases h:c.ev s.slots with
 | bool w =>
  have hs:cset c w s=s:=by
   cases c with
   | tmp t=>simp only[Opd.ev]at h;simp only[cset,Zcq h]
   | const v=>rfl
  cases w
  ·simp only[Bool.false_eq_true,if_false];rw[X,hs]
  ·simp only[if_true];rw[X,hs]
 | _=>rfl
theorem Zvl(keep:List Nat)(b:CCode)(fs:List Fr)(s:St):X cl (.code (.loop keep b)::fs) (.normal,s)=XL cl (rounds (runCode cl b) keep big s) fs:=by rw[X,runCode];rfl
theorem Zr9(ops:List CIns)(keep:List Nat)(fs:List Fr)(s:St):X cl (.code (.region ops keep)::fs) (.normal,s)=XR cl ops s.next s keep (s.next+64*ops.length) fs:=by
 rw[X,runCode,XR];cases runIns cl ops s.next s<;>rfl
theorem Zux(ops:List CIns)(keep:List Nat)(fs:List Fr)(s:St):X cl (.code (.quiet ops keep)::fs) (.normal,s)=XQ cl ops s.next s keep (s.next+64*ops.length) fs:=by
 rw[X,runCode,XQ];cases runQuiet cl ops s.next s<;>rfl
theorem Zu3(ops:List CIns)(deps keep:List Nat)(fs:List Fr)(s:St):X cl (.code (.loud ops deps keep)::fs) (.normal,s)=XD cl ops s.next s [] deps keep (s.next+64*ops.length) fs:=by
 rw[X,runCode,XD]
 cases runLoud cl ops s.next s with
 | none=>rfl
 | some q =>
  obtain⟨s',ts⟩:=q
  simp only[List.nil_append]
  by_cases h:allClear 0 ts deps=true<;>simp[h]
theorem Zvm(key:Nat)(s:St)(acc:List Tr)(deps keep:List Nat)(nx:Nat)(fs:List Fr):XD cl [] key s acc deps keep nx fs=if allClear 0 acc deps then X cl fs (.normal,s.forget keep nx) else none:=by simp only[XD,runLoud,List.append_nil]
theorem Zlh(i:CIns)(is:List CIns)(key:Nat)(s:St)(acc:List Tr)(deps keep:List Nat)(nx:Nat)(fs:List Fr) :
  XD cl (i::is) key s acc deps keep nx fs=match stepLoud cl i key s with
   | some (s',t)=>XD cl is (key+64) s' (acc++[t]) deps keep nx fs
   | none=>none:=by
 simp only[XD,runLoud]
 cases stepLoud cl i key s with
 | none=>rfl
 | some q =>
  obtain⟨s',t⟩:=q
  simp only
  cases runLoud cl is (key+64) s' with
  | none=>rfl
  | some q=>obtain⟨s'',ts⟩:=q;simp
theorem Zvw(dst:Option Nat)(op:COp)(is:List CIns)(key:Nat)(s:St)(acc:List Tr)(deps keep:List Nat)(nx:Nat)(fs:List Fr) :
  XD cl (⟨dst,op,none⟩::is) key s acc deps keep nx fs=XOD cl (sem cl op key s.slots s.heap s.ep) dst op is (key+64) s acc deps keep nx fs:=by
 rw[Zlh]
 simp only[stepLoud,guardA]
 cases h:sem cl op key s.slots s.heap s.ep<;>rfl
theorem Zsf(o:Out)(dst:Option Nat)(op:COp)(is:List CIns)(key:Nat)(s:St)(acc:List Tr)(deps keep:List Nat)(nx:Nat)(fs:List Fr) :
  XOD cl (some o) dst op is key s acc deps keep nx fs=XD cl is key (o.app dst s) (acc++[⟨op.looks s.slots s.heap,o.ws.map (·.1),bsnap o.v || (evL s.slots op.opds).any bsnap,o.bump,mapMark op s.slots o.ws⟩]) deps keep nx fs:=rfl
theorem Zs6(dst:Option Nat)(op:COp)(t:Nat)(b:Bool)(is:List CIns)(key:Nat)(s:St)(acc:List Tr)(deps keep:List Nat)(nx:Nat)(fs:List Fr) :
  XD cl (⟨dst,op,some (t,b)⟩::is) key s acc deps keep nx fs=XGD cl (s.slots t) t b op dst is key s acc deps keep nx fs:=by
 rw[Zlh]
 simp only[stepLoud,guardA]
 cases h:s.slots t with
 | bool c =>
  simp only[XGD]
  by_cases hc:c=b
  ·subst hc
   simp only[beq_self_eq_true,if_true,Zcq h]
   rw[Zlh]
   simp only[stepLoud,guardA]
  ·have:(c == b)=false:=by simpa using hc
   rw[if_neg hc,this]
   have hb:c=!b:=by cases c<;>cases b<;>simp_all
   rw[hb]at h
   simp only[Zcq h]
 | tup vs =>
  cases vs with
  | nil=>rfl
  | cons _ _=>rfl
 | _=>rfl
theorem Zr7(c:Bool)(t:Nat)(b:Bool)(op:COp)(dst:Option Nat)(is:List CIns)(key:Nat)(s:St)(acc:List Tr)(deps keep:List Nat)(nx:Nat)(fs:List Fr) :
  XGD cl (.bool c) t b op dst is key s acc deps keep nx fs=if c=b then XD cl (⟨dst,op,none⟩::is) key ⟨upd s.slots t (.bool b),s.heap,s.ep,s.next,s.base⟩ acc deps keep nx fs
  else XD cl is (key+64) ⟨putTo (upd s.slots t (.bool !b)) dst (.tup []),s.heap,s.ep,s.next,s.base⟩ (acc++[⟨[],[],false,false,none⟩]) deps keep nx fs:=rfl
theorem Zue(t:Nat)(b:Bool)(op:COp)(dst:Option Nat)(is:List CIns)(key:Nat)(s:St)(acc:List Tr)(deps keep:List Nat)(nx:Nat)(fs:List Fr) :
  XGD cl (.tup []) t b op dst is key s acc deps keep nx fs=XD cl is (key+64) ⟨putTo s.slots dst (.tup []),s.heap,s.ep,s.next,s.base⟩ (acc++[⟨[],[],false,false,none⟩]) deps keep nx fs:=rfl
theorem Zvj(key:Nat)(s:St)(keep:List Nat)(nx:Nat)(fs:List Fr):XR cl [] key s keep nx fs=X cl fs (.normal,s.forget keep nx):=by rw[XR,runIns]
theorem Zvk(key:Nat)(s:St)(keep:List Nat)(nx:Nat)(fs:List Fr):XQ cl [] key s keep nx fs=X cl fs (.normal,s.forget keep nx):=by rw[XQ,runQuiet]
theorem Zvx(dst:Option Nat)(op:COp)(is:List CIns)(key:Nat)(s:St)(keep:List Nat)(nx:Nat)(fs:List Fr) :
  XR cl (⟨dst,op,none⟩::is) key s keep nx fs=XO cl (sem cl op key s.slots s.heap s.ep) dst is (key+64) s keep nx fs:=by
 simp only[XR,runIns,stepIns,guardA]
 cases h:sem cl op key s.slots s.heap s.ep<;>rfl
theorem Zvt(dst:Option Nat)(op:COp)(is:List CIns)(key:Nat)(s:St)(keep:List Nat)(nx:Nat)(fs:List Fr) :
  XQ cl (⟨dst,op,none⟩::is) key s keep nx fs=XOQ cl (sem cl op key s.slots s.heap s.ep) dst is (key+64) s keep nx fs:=by
 simp only[XQ,runQuiet,stepQuiet,guardA]
 rcases h:sem cl op key s.slots s.heap s.ep with _|⟨v,ws,bu⟩
 ·rfl
 ·cases ws<;>cases bu<;>rfl
theorem Zt8(o:Out)(dst:Option Nat)(is:List CIns)(key:Nat)(s:St)(keep:List Nat)(nx:Nat)(fs:List Fr):XO cl (some o) dst is key s keep nx fs=XR cl is key (o.app dst s) keep nx fs:=by rw[XO]
theorem Zs7(v:AV)(dst:Option Nat)(is:List CIns)(key:Nat)(s:St)(keep:List Nat)(nx:Nat)(fs:List Fr) :
  XOQ cl (some ⟨v,[],false⟩) dst is key s keep nx fs=XQ cl is key ⟨putTo s.slots dst v,s.heap,s.ep,s.next,s.base⟩ keep nx fs:=by rw[XOQ]
theorem Zsv(dst:Option Nat)(op:COp)(t:Nat)(b:Bool)(is:List CIns)(key:Nat)(s:St)(keep:List Nat)(nx:Nat)(fs:List Fr) :
  XR cl (⟨dst,op,some (t,b)⟩::is) key s keep nx fs=XG cl (s.slots t) t b op dst is key s keep nx fs:=by
 rw[XR,runIns,stepIns,guardA,XG.eq_def]
 cases h:s.slots t with
 | bool c =>
  simp only
  by_cases hc:c=b
  ·subst hc
   simp only[beq_self_eq_true,if_true,Zcq h]
   rw[XR,runIns,stepIns,guardA]
  ·have:(c == b)=false:=by simpa using hc
   rw[if_neg hc,this]
   have hb:c=!b:=by cases c<;>cases b<;>simp_all
   rw[hb]at h
   simp only[Zcq h]
   rw[XR]
 | tup vs =>
  cases vs with
  | nil=>rfl
  | cons _ _=>rfl
 | _=>rfl
theorem Zsb(dst:Option Nat)(op:COp)(t:Nat)(b:Bool)(is:List CIns)(key:Nat)(s:St)(keep:List Nat)(nx:Nat)(fs:List Fr) :
  XQ cl (⟨dst,op,some (t,b)⟩::is) key s keep nx fs=XGQ cl (s.slots t) t b op dst is key s keep nx fs:=by
 rw[XQ,runQuiet,stepQuiet,guardA,XGQ.eq_def]
 cases h:s.slots t with
 | bool c =>
  simp only
  by_cases hc:c=b
  ·subst hc
   simp only[beq_self_eq_true,if_true,Zcq h]
   rw[XQ,runQuiet,stepQuiet,guardA]
  ·have:(c == b)=false:=by simpa using hc
   rw[if_neg hc,this]
   have hb:c=!b:=by cases c<;>cases b<;>simp_all
   rw[hb]at h
   simp only[Zcq h]
   rw[XQ]
 | tup vs =>
  cases vs with
  | nil=>rfl
  | cons _ _=>rfl
 | _=>rfl
theorem Zum(c:Bool)(t:Nat)(b:Bool)(op:COp)(dst:Option Nat)(is:List CIns)(key:Nat)(s:St)(keep:List Nat)(nx:Nat)(fs:List Fr) :
  XG cl (.bool c) t b op dst is key s keep nx fs=if c=b then XR cl (⟨dst,op,none⟩::is) key ⟨upd s.slots t (.bool b),s.heap,s.ep,s.next,s.base⟩ keep nx fs
  else XR cl is (key+64) ⟨putTo (upd s.slots t (.bool !b)) dst (.tup []),s.heap,s.ep,s.next,s.base⟩ keep nx fs:=by rw[XG]
theorem Zvg(t:Nat)(b:Bool)(op:COp)(dst:Option Nat)(is:List CIns)(key:Nat)(s:St)(keep:List Nat)(nx:Nat)(fs:List Fr) :
  XG cl (.tup []) t b op dst is key s keep nx fs=XR cl is (key+64) ⟨putTo s.slots dst (.tup []),s.heap,s.ep,s.next,s.base⟩ keep nx fs:=by rw[XG]
theorem Zsy(c:Bool)(t:Nat)(b:Bool)(op:COp)(dst:Option Nat)(is:List CIns)(key:Nat)(s:St)(keep:List Nat)(nx:Nat)(fs:List Fr) :
  XGQ cl (.bool c) t b op dst is key s keep nx fs=if c=b then XQ cl (⟨dst,op,none⟩::is) key ⟨upd s.slots t (.bool b),s.heap,s.ep,s.next,s.base⟩ keep nx fs
  else XQ cl is (key+64) ⟨putTo (upd s.slots t (.bool !b)) dst (.tup []),s.heap,s.ep,s.next,s.base⟩ keep nx fs:=by rw[XGQ]
theorem Zts(t:Nat)(b:Bool)(op:COp)(dst:Option Nat)(is:List CIns)(key:Nat)(s:St)(keep:List Nat)(nx:Nat)(fs:List Fr) :
  XGQ cl (.tup []) t b op dst is key s keep nx fs=XQ cl is (key+64) ⟨putTo s.slots dst (.tup []),s.heap,s.ep,s.next,s.base⟩ keep nx fs:=by rw[XGQ]
theorem Zuz(w:Bool)(t:Nat)(a b:CCode)(s:St)(fs:List Fr):XC cl (.bool w) (.tmp t) a b s fs =
  if w=true then X cl (.code a::fs) (.normal,⟨upd s.slots t (.bool true),s.heap,s.ep,s.next,s.base⟩) else X cl (.code b::fs) (.normal,⟨upd s.slots t (.bool false),s.heap,s.ep,s.next,s.base⟩):=rfl
theorem Zs8(w:Bool)(v:AV)(a b:CCode)(s:St)(fs:List Fr):XC cl (.bool w) (.const v) a b s fs =
  if w=true then X cl (.code a::fs) (.normal,s) else X cl (.code b::fs) (.normal,s):=rfl
theorem Zud(r:AExit×St)(fs:List Fr):XL cl (some r) fs=X cl fs r:=rfl
theorem Zrv(c:CCode)(s:St):runCode cl c s=X cl [.code c] (.normal,s):=by
 rw[X]
 cases runCode cl c s with
 | none=>rfl
 | some r=>simp only[X]
end
def fin(rs:List CRes)(n:Nat):Option (AExit×St)->Option (AV×List (Option AO))
 | some (.ret,s)=>endFn ⟨0,rs,.skip⟩ n s
 | some (.normal,s)=>endFn ⟨0,rs,.skip⟩ n s
 | _=>none
theorem Ztz(rs:List CRes)(n:Nat)(s:St):fin rs n (some (.ret,s))=endFn ⟨0,rs,.skip⟩ n s:=rfl
theorem Znl(rs:List CRes)(n:Nat)(s:St):fin rs n (some (.normal,s))=endFn ⟨0,rs,.skip⟩ n s:=rfl
theorem Zt4(rs:List CRes)(n:Nat)(p:Prop)[Decidable p](a b:Option (AExit×St)):fin rs n (if p then a else b)=if p then fin rs n a else fin rs n b:=by split<;>rfl
theorem Zun{p:CProg}{k:Nat}{c:CFn}{args:List AV}{objs:List AO}{r:AV×List (Option AO)}(hc:p.fn k=some c)(hl:args.length<=c.nt)
  (h:fin c.res objs.length (X p.lim [.code c.body] (.normal,⟨startSlots args 0,startHeap objs 0,0,objs.length,objs.length⟩))=some r):p.lim k args objs=some r:=by
 refine Zva hc ?_
 rw[<- Zrv]at h
 rw[runFn,if_pos hl]
 generalize runCode p.lim c.body ⟨startSlots args 0,startHeap objs 0,0,objs.length,objs.length⟩=q at h
 match q with
 | some (.ret,s)=>exact h
 | some (.normal,s)=>exact h
 | some (.exit i,s)=>cases h
 | none=>cases h
def sl:List (Nat×AV)->Nat->AV
 | []=>fun _=>.any
 | (t,v)::r=>upd (sl r) t v
def hp:List AO->Nat->Nat->Option AO
 | [],_=>fun _=>none
 | o::os,n=>upd (hp os (n+1)) n (some o)
def hd(vs:List (Nat×AV))(os:List AO)(base:Nat):St:=⟨sl vs,hp os 0,0,os.length,base⟩
theorem Ztm{cl:Callee}(keep:List Nat)(b:CCode)(n:Nat)(fs:List Fr)(s:St) :
  XL cl (rounds (runCode cl b) keep (n+1) s) fs=X cl (.code b::.back (fun s'=>XL cl (rounds (runCode cl b) keep n s') fs)::fs) (.normal,s.norm keep):=by
 rw[rounds,X]
 cases h:runCode cl b (s.norm keep) with
 | none=>rfl
 | some r =>
  obtain⟨ex,s'⟩:=r
  cases ex<;>simp only[X,XL]
theorem Zay{cl:Callee}{ρ σ:Type}{K:Option (AExit×St)->Option ρ}{keep:List Nat}{b:CCode}{fs:List Fr}(H:σ->St)(Inv:σ->Prop)(μ:σ->Nat)(G:σ->ρ)
  (step:∀ x Y,Inv x->(∀ y s',Inv y->μ y<μ x->s'.norm keep=H y->K (Y s')=some (G y))->K (X cl (.code b::.back Y::fs) (.normal,H x))=some (G x))
  (x:σ) {s:St} (hs:s.norm keep=H x) (hi:Inv x) (hm:μ x<big):K (X cl (.code (.loop keep b)::fs) (.normal,s))=some (G x):=by
 have h:∀ (n:Nat) (x:σ) (s:St),Inv x->μ x<n->s.norm keep=H x->K (XL cl (rounds (runCode cl b) keep n s) fs)=some (G x):=by
  intro n
  induction n with
  | zero=>intro x s _ hm;exact absurd hm (Nat.not_lt_zero _)
  | succ n ih =>
   intro x s hi hm hs
   rw[Ztm,hs]
   exact step x _ hi (fun y s' h1 h2 h3=>ih y s' h1 (by omega) h3)
 rw[Zvl]
 exact h big x s hi hm hs
theorem Zab{cl:Callee}{ρ α σ:Type}{K:Option (AExit×St)->Option ρ}{keep:List Nat}{b:CCode}{fs:List Fr}(xs:List α)(H:Nat->σ->St)(Inv:Nat->σ->Prop)(G:Nat->List α->σ->ρ)
  (stop:∀ acc Y,Inv xs.length acc->K (X cl (.code b::.back Y::fs) (.normal,H xs.length acc))=some (G xs.length [] acc))
  (step:∀ i a r acc Y,xs[i]?=some a->i<xs.length->r=xs.drop (i+1)->Inv i acc->(∀ acc' s',Inv (i+1) acc'->s'.norm keep=H (i+1) acc'->K (Y s')=some (G (i+1) r acc'))->K (X cl (.code b::.back Y::fs) (.normal,H i acc))=some (G i (a::r) acc))
  (acc:σ) {s:St} (hs:s.norm keep=H 0 acc) (hi:Inv 0 acc) (hl:xs.length<big):K (X cl (.code (.loop keep b)::fs) (.normal,s))=some (G 0 xs acc):=by
 have h:=Zay (cl:=cl) (K:=K) (keep:=keep) (b:=b) (fs:=fs) (σ:=Nat×σ) (fun x=>H x.1 x.2) (fun x=>x.1<=xs.length/\Inv x.1 x.2) (fun x=>xs.length-x.1) (fun x=>G x.1 (xs.drop x.1) x.2) (fun ⟨i,acc⟩ Y ⟨h1,h2⟩ hY=>by
  simp only at h1 h2 hY ⊢
  rcases Nat.lt_or_ge i xs.length with h3|h3
  ·have h5:xs.drop i=xs[i]'h3::xs.drop (i+1):=List.drop_eq_getElem_cons h3
   rw[h5]
   exact step i _ _ acc Y (List.getElem?_eq_getElem _) h3 rfl h2 (fun acc' s' h6 h7=>hY (i+1,acc') s' ⟨h3,h6⟩ (by simp only;omega) h7)
  ·obtain rfl:i=xs.length:=Nat.le_antisymm h1 h3
   rw[List.drop_length]
   exact stop acc Y h2) (0,acc) hs ⟨Nat.zero_le _,hi⟩ (by simp only[Nat.sub_zero];exact hl)
 simpa using h
theorem i64w{n:Int}(h1 : -9223372036854775808<=n)(h2:n<=9223372036854775807):IntKind.i64.wrap n=n:=by rw[IntKind.wrap_i64];omega
attribute [simp] Zvr Zmn Zu7 Zj2 Zov Zjt Zlc Zvn Zuw Zu1 Zvu Zul Zu6 Zr9 Zux Zvj Zvk Zvx Zvt Zt8 Zs7 Zsv Zsb Zum Zvg Zsy Zts Zuz Zs8 Zu3 Zvm Zvw Zsf Zs6 Zr7 Zue Zud Ztz Znl Zt4
attribute [simp] keyOf sem Opd.ev Out.val Out.opt Out.app putTo upd wsOn St.forget keepSlots startSlots startHeap AV.parts loadFrom binAV binInt binStr endFn resVals resVal shutT shutV shut1 shutC shutL shutBoxes distinct outsOf outOf lendA lendAO AV.lend AV.lendO semCall passArgs lendV lendL lend1 giveV giveL give1 content openR openV openT open1 openL takeBack evL lay AV.snaps AV.ids AV.id? AV.snaps1 AV.plain Md.ok Md.isSnap kill fillParts fillRows absorb absorb1
attribute [simp] allClear clearOf Tr.clash Tr.meet mapMark meets COp.looks COp.opds bsnap inner Nat.testBit
attribute [simp] List.idxOf_cons
attribute [simp] sl hp hd St.norm rnSlots rnHeap rnV rn1 rnO addNew idsOfSlots idsOfBoxes
end Go.Proofs.YtfemiipgkhekiaaGreatDoor
namespace Go.Proofs.YtfemiipgkhekiaaGreatDoor
open Go
set_option linter.unusedSimpArgs false
/-! ### Texts -/
theorem Zac(x y:ByteArray):sEq x y=true↔x=y:=by
 unfold sEq
 rw[ByteArray.toList_eq,ByteArray.toList_eq,beq_iff_eq]
 constructor
 ·intro h
  cases x;cases y
  congr
  exact Array.ext' h
 ·rintro rfl;rfl
theorem Zfl:∀ (x y:List UInt8),Op.bytesLess x y=decide (x<y)
 | [],[]=>by simp[Op.bytesLess]
 | _::_,[]=>by simp[Op.bytesLess]
 | [],_::_=>by simp[Op.bytesLess]
 | a::x,b::y=>by
  rw[Op.bytesLess,Zfl x y]
  simp only[List.cons_lt_cons_iff]
  by_cases h1:a<b<;>by_cases h2:a=b<;>by_cases h3:x<y<;>simp[h1,h2,h3]
theorem Zjh(x y:ByteArray):sLt x y=true↔x.data.toList<y.data.toList:=by
 unfold sLt
 rw[ByteArray.toList_eq,ByteArray.toList_eq,Zfl,decide_eq_true_eq]
theorem Zak(x:ByteArray):sLt x x=false:=by
 rw[<- Bool.not_eq_true,Zjh]
 exact List.lt_irrefl _
theorem Zch{x y z:ByteArray}(h:sLt x y=true)(k:sLt y z=true):sLt x z=true:=by
 rw[Zjh]at *
 exact List.lt_trans h k
theorem Zhh{x y:ByteArray}(h:sLt x y=false)(k:sLt y x=false):x=y:=by
 rw[<- Bool.not_eq_true,Zjh]at h k
 have:=List.le_antisymm (List.not_lt.1 h) (List.not_lt.1 k)
 cases x;cases y
 congr
 exact (Array.ext' this).symm
theorem Zpe{x y:ByteArray}(h:sLt x y=true):sLt y x=false:=by
 cases k:sLt y x with
 | false=>rfl
 | true=>have:=Zch h k;rw[Zak]at this;cases this
theorem Zkd{x y:ByteArray}(h:sLt x y=true):x≠y:=by
 rintro rfl
 rw[Zak]at h
 cases h
@[simp] theorem sEq_self(x:ByteArray):sEq x x=true:=(Zac x x).2 rfl
theorem Zad{x y:ByteArray}(h:x≠y):sEq x y=false:=by
 rw[<- Bool.not_eq_true,Zac];exact h
theorem Zei(x y:ByteArray):sEq x y=sEq y x:=by
 by_cases h:x=y
 ·subst h;rfl
 ·rw[Zad h,Zad (Ne.symm h)]
/-! ### Sorting -/
theorem Zdw(c:Nat)(r:List AV):∀ xs:List (List AV),(insRow c r xs).Perm (r::xs)
 | []=>.refl _
 | x::xs=>by
  unfold insRow
  split
  ·exact .refl _
  ·exact ((Zdw c r xs).cons x).trans (.swap _ _ _)
theorem Zbl(c:Nat):∀ xs:List (List AV),(sortRows c xs).Perm xs
 | []=>.refl _
 | r::rs=>by
  unfold sortRows
  exact (Zdw c r _).trans ((Zbl c rs).cons r)
theorem Zmk{c:Nat}{x y z:List AV}(h:rowLt c x y=true)(k:rowLt c y z=true):rowLt c x z=true:=Zch h k
theorem Zlr{c:Nat}{x y:List AV}(h:rowLt c x y=true):rowLt c y x=false:=Zpe h
def Diff(c:Nat)(xs:List (List AV)):Prop:=xs.Pairwise fun a b=>(keyAt c a).getD ByteArray.empty≠(keyAt c b).getD ByteArray.empty
theorem Zb8(c:Nat):∀ {xs:List (List AV)},keysApart c xs=true->Diff c xs/\∀ r∈xs,∃ s,keyAt c r=some s
 | [],_=>⟨.nil,fun _ h=>by simp at h⟩
 | r::rs,h=>by
  simp only[keysApart,Bool.and_eq_true,List.all_eq_true,Bool.not_eq_true']at h
  obtain⟨h1,h2,h3⟩:=h
  obtain⟨k1,k2⟩:=Zb8 c h3
  refine⟨.cons (fun x hx e=>?_) k1,fun x hx=>?_⟩
  ·have:=h2 x hx
   rw[e,sEq_self]at this
   cases this
  ·rcases List.mem_cons.1 hx with rfl|hx
   ·exact Option.isSome_iff_exists.1 h1
   ·exact k2 x hx
theorem Zl4{c:Nat}{x y:List AV}(h:(keyAt c x).getD ByteArray.empty≠(keyAt c y).getD ByteArray.empty)(k:rowLt c x y=false):rowLt c y x=true:=by
 cases e:rowLt c y x with
 | true=>rfl
 | false=>exact absurd (Zhh k e) h
theorem Zen{c:Nat}{r:List AV}:∀ {xs:List (List AV)},xs.Pairwise (fun a b=>rowLt c a b=true)->(∀ x∈xs,(keyAt c r).getD ByteArray.empty≠(keyAt c x).getD ByteArray.empty)->(insRow c r xs).Pairwise (fun a b=>rowLt c a b=true)
 | [],_,_=>List.pairwise_singleton _ _
 | x::xs,h,hd=>by
  unfold insRow
  have h1:=List.pairwise_cons.1 h
  split
  ·rename_i hlt
   refine .cons (fun y hy=>?_) h
   rcases List.mem_cons.1 hy with rfl|hy
   ·exact hlt
   ·exact Zmk hlt (h1.1 y hy)
  ·rename_i hlt
   have hlt':=Zl4 (hd x List.mem_cons_self) (by simpa using hlt)
   refine .cons (fun y hy=>?_) (Zen h1.2 fun y hy=>hd y (List.mem_cons_of_mem _ hy))
   rcases List.mem_cons.1 ((Zdw c r xs).mem_iff.1 hy) with rfl|hy
   ·exact hlt'
   ·exact h1.1 y hy
theorem Zbu{c:Nat}:∀ {xs:List (List AV)},Diff c xs->(sortRows c xs).Pairwise (fun a b=>rowLt c a b=true)
 | [],_=>.nil
 | r::rs,h=>by
  have h1:=List.pairwise_cons.1 h
  exact Zen (Zbu h1.2) fun x hx=>h1.1 x ((Zbl c rs).mem_iff.1 hx)
theorem Ze5{c:Nat}:∀ {xs ys:List (List AV)},xs.Perm ys->xs.Pairwise (fun a b=>rowLt c a b=true)->ys.Pairwise (fun a b=>rowLt c a b=true)->xs=ys
 | [],ys,h,_,_=>(List.nil_perm.1 h).symm
 | x::xs,[],h,_,_=>by cases List.perm_nil.1 h
 | x::xs,y::ys,h,h1,h2=>by
  have k1:=List.pairwise_cons.1 h1
  have k2:=List.pairwise_cons.1 h2
  have e:x=y:=by
   rcases List.mem_cons.1 (h.mem_iff.1 List.mem_cons_self) with e|hx
   ·exact e
   ·rcases List.mem_cons.1 (h.symm.mem_iff.1 List.mem_cons_self) with e|hy
    ·exact e.symm
    ·have:=Zlr (k2.1 x hx)
     rw[k1.1 y hy]at this
     cases this
  subst e
  rw[Ze5 (List.Perm.cons_inv h) k1.2 k2.2]
theorem Zui{c:Nat}{xs:List (List AV)}{p:List Nat}{ks:Nat->ByteArray}(hk:keysApart c xs=true)(hp:p.Perm (List.range xs.length))(hks:∀ i r,xs[i]?=some r->keyAt c r=some (ks i))
  (hs:p.Pairwise fun a b=>sLt (ks b) (ks a)=false):sortRows c xs=p.map fun a=>xs.getD a []:=by
 obtain⟨hd,_⟩:=Zb8 c hk
 have e0:(List.range xs.length).map (fun a=>xs.getD a [])=xs:=by
  apply List.ext_getElem
  ·simp
  ·intro i h1 h2
   simp[List.getD,List.getElem?_eq_getElem h2]
 have hperm:(p.map fun a=>xs.getD a []).Perm xs:=by
  have:=hp.map (fun a=>xs.getD a [])
  rwa [e0]at this
 refine Ze5 ((Zbl c xs).trans hperm.symm) (Zbu hd) ?_
 have hnd:p.Nodup:=hp.nodup_iff.2 List.nodup_range
 have hkey:∀ a∈p,∃ r,xs[a]?=some r/\xs.getD a []=r/\keyAt c r=some (ks a):=fun a ha=>by
  have hlt:a<xs.length:=List.mem_range.1 (hp.mem_iff.1 ha)
  exact⟨xs[a],List.getElem?_eq_getElem hlt,by simp[List.getD,List.getElem?_eq_getElem hlt],hks a _ (List.getElem?_eq_getElem hlt)⟩
 rw[List.pairwise_map]
 have hboth:=List.Pairwise.and hs hnd
 refine hboth.imp_of_mem fun {a b} ha hb ⟨h1,h2⟩=>?_
 obtain⟨ra,ea,ga,ka⟩:=hkey a ha
 obtain⟨rb,eb,gb,kb⟩:=hkey b hb
 simp only[ga,gb]
 have hne:ks a≠ks b:=by
  intro e
  obtain⟨la,xa⟩:=List.getElem?_eq_some_iff.1 ea
  obtain⟨lb,xb⟩:=List.getElem?_eq_some_iff.1 eb
  have hpw:=List.pairwise_iff_getElem.1 hd
  rcases Nat.lt_trichotomy a b with h|h|h
  ·have:=hpw a b la lb h
   rw[xa,xb,ka,kb]at this
   exact this (by simp[e])
  ·exact h2 h
  ·have:=hpw b a lb la h
   rw[xa,xb,ka,kb]at this
   exact this (by simp[e])
 cases e:rowLt c ra rb with
 | true=>rfl
 | false =>
  unfold rowLt at e
  rw[ka,kb]at e
  exact absurd (Zhh e h1) hne
def textsOf:List (List AV)->Option (List ByteArray)
 | []=>some []
 | [.str s]::r=>match textsOf r with
  | some xs=>some (s::xs)
  | none=>none
 | _=>none
def joinT(xs:List ByteArray)(sep:ByteArray):ByteArray:=⟨(Lib.join (xs.map (·.data.toList)) sep.data.toList).toArray⟩
def splitT(s sep:ByteArray):List ByteArray:=Lib.splitB sep 0 (Lib.countB s sep) s
def itoaT(n:Int):ByteArray:=⟨(Lib.itoa n).toArray⟩
def numT(s:ByteArray):Int:=match Lib.atoiAll s.data.toList with
 | .ok v=>v
 | _=>-1
def primGo(k:Nat)(args:List AV):Option (AV×List (Option AO)) :=
 if k=222 then match args with
  | [.str s,.str p]=>if s.size<=9223372036854775807 then some (.bool (Lib.hasSuffix s.data.toList p.data.toList),[]) else none
  | _=>none
 else if k=220 then match args with
  | [.str s,.str sep]=>if s.size<4294967281/\1<=sep.size then some (.sl .own 1 ((splitT s sep).map fun x=>[.str x]),[]) else none
  | _=>none
 else if k=230 then match args with
  | [.sl .bor 1 rows,.str sep]=>match textsOf rows with
   | some xs=>if xs.length<=140737488355328/\(joinT xs sep).size<=140737488355328 then some (.str (joinT xs sep),[]) else none
   | none=>none
  | _=>none
 else if k=231 then match args with
  | [.int .i64 n]=>if -9223372036854775808<=n/\n<=9223372036854775807 then some (.str (itoaT n),[]) else none
  | _=>none
 else if k=221 then match args with
  | [.str s]=>if s.size<=281474976710656 then some (.int .i64 (numT s),[]) else none
  | _=>none
 else none
def prim:Callee:=fun k args objs=>match objs with
 | []=>primGo k args
 | _=>none
end Go.Proofs.YtfemiipgkhekiaaGreatDoor
