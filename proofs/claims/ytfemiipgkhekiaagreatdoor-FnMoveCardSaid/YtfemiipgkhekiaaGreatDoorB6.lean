/- The book: what a berth wants, who holds what (spec.l6Grant, spec.l6Wants, impl.wantOf). · The book takes an ask (spec.l6Asked, spec.MateLandTake). · Layer 4: what a mate takes. · Asks put in their place (spec.l4Set, impl.putAsk). · A mate's runs have their tick (spec.l4Lives). · A mate asks for what has to be asked for (spec.l4Asks). · A mate's tick (spec.MateTick). · The library's functions in the abstract machine; sizes of texts. · Layer 7: what is sent, as a text. · Layer 7: a parcel's text: the plain function; the program's. · A mate stays valid: its ticks and what it takes (plain). · Draws: a valid mate. · Draws: a mate that is spoilt. · Draws: any mate, and one that falls. · A mate's tick and take: sizes (plain). · The small world is a world: its mates (plain). · A text cut at a byte (spec.l7Cut), a word of a row (spec.l7At), a short number (spec.l7Number): what they answer. · spec.MateRead: a text read loosely, written again, compared. · impl.MateRead: its law. · A parcel's text, read: the reference's way and the program's come to the same. · The laws' own equalities, at one thing and itself. · Draws: parcels, their texts, wants and runs. -/
import Derived.Test.YtfemiipgkhekiaaGreatDoorB5
import Derived.Test.YtfemiipgkhekiaaGreatDoorB2
import Derived.Test.YtfemiipgkhekiaaGreatDoorB1
import Derived.IntWalk
namespace Go.Proofs.YtfemiipgkhekiaaGreatDoor
open Go
set_option linter.unusedSimpArgs false
set_option maxRecDepth 100000
def head182(ws:List Want)(n:T)(i:Nat):St:=hd [(1,.str n),(4,.ptr 0 0 0),(8,.sl .bor 7 (ws.map Want.c)),(9,.int .i64 ws.length),(10,.int .i64 i)] [.box Want.zero.c] 0
theorem law182(ws:List Want)(n:T)(hl:ws.length<big):F 182 [.sl .bor 7 (ws.map Want.c),.str n] []=some (.tup [.agg ((findW ws n).getD .zero).c,.bool (findW ws n).isSome],[]):=by
 refine Zah fn182 rfl ?_
 have hm:ws.length<=9223372036854775807:=by unfold big at hl;omega
 simp[c182]
 refine (Zab ws (fun i (_:Unit)=>head182 ws n i) (fun _ _=>True) (fun _ r l=>(AV.tup [.agg ((findW r n).getD .zero).c,.bool (findW r n).isSome],([]:List (Option AO)))) (fun acc Y _=>?_) (fun i a r acc Y ha hi hr _ hY=>?_) () ?_ trivial ?_).trans rfl
 ·simp[head182,c182b0,findW,Want.zero]
 ·have hw:IntKind.i64.wrap ((i:Int)+1)=(i:Int)+1:=i64w (by omega) (by omega)
  obtain⟨_,hg⟩:=List.getElem?_eq_some_iff.1 ha
  have hiI:(i:Int)<ws.length:=by omega
  cases q:sEq a.copy n
  ·simp[head182,c182b0,hi,hiI,hg,findW,Want.zero,q]
   refine hY () _ trivial ?_
   simp[head182,hw,Want.zero]
  ·simp[head182,c182b0,hi,hiI,hg,findW,Want.zero,q]
 ·simp[head182,Want.zero]
 ·exact hl
def findG(h:T):Nat->List Grant->Int
 | _,[]=>-1
 | i,g::r=>if sEq g.hold h then i else findG h (i+1) r
def wantsHold(b c h:T)(p:Place):Bool:=p.wants.any fun w=>sEq p.berth b && (sEq w.copy c && sEq w.hold h)
def Grant.k(g:Grant):T:=g.hold
def newGrant(t:Int)(p:Parcel):Grant:=⟨p.hold,p.berth,p.copy,p.at_,t+32⟩
def grantOf(h:T)(gs:List Grant):Option Grant:=gs.find? fun g=>sEq g.hold h
def blocks(t:Int)(p:Parcel)(g:Grant):Bool:=decide (t<g.til) && !(sEq g.berth p.berth && (sEq g.copy p.copy && decide (g.at_<=p.at_)))
def lives40(t:Int)(gs:List Grant):List Grant:=if 40<=gs.length then gs.filter fun g=>decide (t<g.til) else gs
def landGive(l:Land)(p:Parcel):Option Land :=
 if l.places.any (wantsHold p.berth p.copy p.hold) then
  match grantOf p.hold l.grants with
  | some g=>if blocks l.time p g then none else some { l with grants:=putBy Grant.k (newGrant l.time p) l.grants }
  | none=>if 40<=(lives40 l.time l.grants).length then none else some { l with grants:=putBy Grant.k (newGrant l.time p) (lives40 l.time l.grants) }
 else none
theorem Zdz(h:T):∀ (gs:List Grant) (i:Nat),(findG h i gs = -1/\grantOf h gs=none/\Lacks Grant.k h gs)\/∃ j g,gs[j]?=some g/\g.hold=h/\findG h i gs=((i+j:Nat):Int)/\grantOf h gs=some g
 | [],i=>.inl ⟨rfl,rfl,fun y hy=>by simp at hy⟩
 | g::r,i=>by
  unfold findG grantOf
  rw[List.find?_cons]
  by_cases q:sEq g.hold h=true
  ·rw[if_pos q,q]
   exact .inr ⟨0,g,rfl,(Zac _ _).1 q,by simp,rfl⟩
  ·rw[if_neg q]
   simp only[q]
   rcases Zdz h r (i+1) with ⟨h1,h2,h3⟩|⟨j,g',h1,h2,h3,h4⟩
   ·refine .inl ⟨h1,h2,fun y hy=>?_⟩
    rcases List.mem_cons.1 hy with rfl|hy
    ·exact fun e=>q ((Zac _ _).2 e)
    ·exact h3 y hy
   ·exact .inr ⟨j+1,g',by simpa using h1,h2,by rw[h3];congr 1;omega,h4⟩
theorem Zh1{k:Nat}{xs:List (List AV)}(h:rowsPlain xs=true):rowsPlain (xs.take k)=true:=by
 unfold rowsPlain at *
 rw[List.all_eq_true]at *
 exact fun x hx=>h x (List.mem_of_mem_take hx)
theorem Zhy{k:Nat}{xs:List (List AV)}(h:rowsPlain xs=true):rowsPlain (xs.drop k)=true:=by
 unfold rowsPlain at *
 rw[List.all_eq_true]at *
 exact fun x hx=>h x (List.mem_of_mem_drop hx)
theorem Zvs:rowsPlain []=true:=rfl
theorem Zm6(a b c:T)(m n:Int):rowsPlain [[.str a,.str b,.str c,.int .i64 m,.int .i64 n]]=true:=by simp[rowsPlain]
theorem Zfs(h:T):∀ (l:List Ask) (i:Nat),(askAtGo h l i = -1/\∀ a∈l,sEq a.hold h=false)\/∃ k,∃ hk:k<l.length,askAtGo h l i=((i+k:Nat):Int)/\sEq (l[k]'hk).hold h=true/\∀ j (hj:j<k),sEq (l[j]'(by omega)).hold h=false
 | [],i=>.inl ⟨rfl,by simp⟩
 | a::l,i=>by
  simp only[askAtGo]
  by_cases q:sEq a.hold h=true
  ·right
   refine⟨0,by simp,by rw[if_pos q];rfl,by simpa using q,fun j hj=>absurd hj (Nat.not_lt_zero _)⟩
  ·rw[if_neg q]
   rcases Zfs h l (i+1) with ⟨h1,h2⟩|⟨k,hk,h1,h2,h3⟩
   ·left
    refine⟨h1,fun b hb=>?_⟩
    rcases List.mem_cons.1 hb with rfl|hb
    ·simpa using q
    ·exact h2 b hb
   ·right
    refine⟨k+1,by simpa using hk,by rw[h1];congr 1;omega,by simpa using h2,fun j hj=>?_⟩
    rcases j with _|j
    ·simpa using q
    ·simpa using h3 j (by omega)
theorem Zca(l:List Ask)(h:T):(askAt l h = -1/\∀ a∈l,sEq a.hold h=false)\/∃ k,∃ hk:k<l.length,askAt l h=(k:Int)/\sEq (l[k]'hk).hold h=true/\∀ j (hj:j<k),sEq (l[j]'(by omega)).hold h=false:=by
 have:=Zfs h l 0
 simpa [askAt] using this
def dropAt(l:List Ask)(i:Nat):List Ask:=l.take i++l.drop (i+1)
def dropHold(l:List Ask)(h:T):List Ask:=l.filter fun a=>!sEq a.hold h
theorem law137(l:List Ask)(i:Nat)(hi:i<l.length)(hl:l.length<=1048576):F 137 [.sl .bor 4 (l.map Ask.c),.int .i64 i] []=some (.sl .own 4 ((dropAt l i).map Ask.c),[]):=by
 refine Zah fn137 rfl ?_
 have hw:IntKind.i64.wrap ((i:Int)+1)=((i+1:Nat):Int):=i64w (by omega) (by omega)
 have h1:(i:Int)<=l.length:=by omega
 have h2:((i+1:Nat):Int)<=l.length:=by omega
 have h3:i<=l.length:=by omega
 have h4:i+1<=l.length:=by omega
 have e1:min i l.length=i:=by omega
 have p1:rowsPlain ((List.map Ask.c l).take i)=true:=by rw[<- List.map_take];exact plain_ask _
 have p2:rowsPlain ((List.map Ask.c l).drop (i+1))=true:=by rw[<- List.map_drop];exact plain_ask _
 have b1:i*48<=140737488355328:=by omega
 have b2:i<=140737488355328:=by omega
 have b3:(i+(l.length-(i+1)))*48<=140737488355328:=by omega
 have b4:i+(l.length-(i+1))<=140737488355328:=by omega
 have t2:List.take (l.length-(i+1)) (List.drop (i+1) (List.map Ask.c l))=List.drop (i+1) (List.map Ask.c l):=List.take_of_length_le (by simp)
 simp only[show ((i+1:Nat):Int)=(i:Int)+1 from rfl]at *
 have t3:((i:Int)+1).toNat=i+1:=by omega
 have t4:(0:Int)<=(i:Int)+1:=by omega
 simp[c137,slBounds,hw,h1,h2,h3,h4,t2,t3,t4,takeRows,p1,p2,e1,b1,b2,b3,b4,dropAt]
 done
theorem Zgq{c:Int}:∀ (r pre:List Ask),asksGo c pre r=true->(∀ p,pre.getLast?=some p->∀ q∈pre,q=p\/sLt q.hold p.hold=true)->∀ a∈r,∀ q∈pre,sLt q.hold a.hold=true
 | [],_,_,_,a,ha=>by simp at ha
 | b::r,pre,h,hp,a,ha=>by
  simp only[asksGo,Bool.and_eq_true]at h
  obtain⟨_,h2,h3⟩:=h
  have hb:∀ q∈pre,sLt q.hold b.hold=true:=by
   intro q hq
   unfold ascA at h2
   cases hl:pre.getLast? with
   | none=>rw[List.getLast?_eq_none_iff]at hl;rw[hl]at hq;simp at hq
   | some p =>
    rw[hl]at h2
    rcases hp p hl q hq with rfl|h4
    ·exact h2
    ·exact Zch h4 h2
  rcases List.mem_cons.1 ha with rfl|ha
  ·exact hb
  ·intro q hq
   refine Zgq r (pre++[b]) h3 ?_ a ha q (List.mem_append.2 (.inl hq))
   intro p hpl q hq
   rw[List.getLast?_concat]at hpl
   obtain rfl:=Option.some.inj hpl
   rcases List.mem_append.1 hq with hq|hq
   ·exact .inr (hb q hq)
   ·simp at hq;exact .inl hq
theorem Zmg{c:Int}{l:List Ask}(h:asksOk l c=true):l.Pairwise fun a b=>sLt a.hold b.hold=true:=by
 unfold asksOk at h
 rw[Bool.and_eq_true]at h
 have go:∀ (r pre:List Ask),asksGo c pre r=true->(∀ p,pre.getLast?=some p->∀ q∈pre,q=p\/sLt q.hold p.hold=true)->r.Pairwise fun a b=>sLt a.hold b.hold=true:=by
  intro r
  induction r with
  | nil=>intro _ _ _;exact .nil
  | cons b r ih =>
   intro pre hg hp
   have hg0:=hg
   simp only[asksGo,Bool.and_eq_true]at hg
   obtain⟨_,h2,h3⟩:=hg
   have hlast:∀ p,(pre++[b]).getLast?=some p->∀ q∈pre++[b],q=p\/sLt q.hold p.hold=true:=by
    intro p hpl q hq
    rw[List.getLast?_concat]at hpl
    obtain rfl:=Option.some.inj hpl
    rcases List.mem_append.1 hq with hq|hq
    ·exact .inr (Zgq (b::r) pre hg0 hp b List.mem_cons_self q hq)
    ·simp at hq;exact .inl hq
   refine List.pairwise_cons.2 ⟨fun a ha=>?_,ih _ h3 hlast⟩
   exact Zgq r (pre++[b]) h3 hlast a ha b (by simp)
 exact go l [] h.2 (by simp)
theorem Zqc{c:Int}{l:List Ask}(h:asksOk l c=true){k:Nat}(hk:k<l.length):dropHold l l[k].hold=dropAt l k:=by
 have hs:=Zmg h
 have e:l=l.take k++l[k]::l.drop (k+1):=by rw[<- List.drop_eq_getElem_cons hk,List.take_append_drop]
 generalize hx:l[k]=x at e
 rw[e]at hs
 obtain⟨_,h2,h3⟩:=List.pairwise_append.1 hs
 rw[List.pairwise_cons]at h2
 unfold dropHold dropAt
 have f1:(l.take k).filter (fun a=>!sEq a.hold x.hold)=l.take k:=by
  rw[List.filter_eq_self]
  intro a ha
  rw[Zad (Zkd (h3 a ha x List.mem_cons_self))];rfl
 have f2:(l.drop (k+1)).filter (fun a=>!sEq a.hold x.hold)=l.drop (k+1):=by
  rw[List.filter_eq_self]
  intro a ha
  rw[Zad (Ne.symm (Zkd (h2.1 a ha)))];rfl
 calc l.filter (fun a=>!sEq a.hold x.hold)=(l.take k++x::l.drop (k+1)).filter (fun a=>!sEq a.hold x.hold):=by rw[<- e]
  _=_:=by rw[List.filter_append,List.filter_cons,f1,f2];simp
def giveRun(p:Parcel)(r:Run):Run:=if sEq r.want.hold p.hold && (sEq r.want.copy p.copy && decide (r.til<IntKind.i64.wrap (p.at_+16))) then { r with til:=IntKind.i64.wrap (p.at_+16) } else r
def askFits(a:Ask)(p:Parcel):Bool:=sEq a.copy p.copy && (decide (a.first<=p.at_) && decide (p.at_<=a.at_))
def takeGiven(m:Mate)(p:Parcel):Mate:=match m.asks.find? (fun a=>sEq a.hold p.hold) with
 | some a=>if askFits a p then { m with runs:=m.runs.map (giveRun p) } else m
 | none=>m
def takeBack'(m:Mate)(p:Parcel):Mate:=match m.gives.find? (fun a=>sEq a.hold p.hold) with
 | some a=>if a.at_ == p.at_ then { m with gives:=dropHold m.gives p.hold } else m
 | none=>m
def takeTold(m:Mate)(p:Parcel):Mate:=if (!m.known || decide (m.seen<p.seen)) && (wantsOk p.wants && inR p.seen 1 1000000) then { m with known:=true,seen:=p.seen,wants:=p.wants } else m
def takeKind(m:Mate)(p:Parcel):Mate:=if p.kind=1 then takeTold m p else if p.kind=3 then takeGiven m p else if p.kind=5 then takeBack' m p else m
def mateTake(m:Mate)(p:Parcel):Mate:=if mateValid m then (if m.up && sEq p.berth m.name then takeKind m p else m) else .zero
theorem Zra{l:List Ask}{h:T}{k:Nat}(hk:k<l.length)(h1:sEq l[k].hold h=true)(h2:∀ j (hj:j<k),sEq (l[j]'(by omega)).hold h=false):l.find? (fun a=>sEq a.hold h)=some l[k]:=by
 rw[List.find?_eq_some_iff_getElem]
 refine⟨h1,k,hk,rfl,fun j hj=>?_⟩
 rw[h2 j hj];rfl
def head61(m:Mate)(p:Parcel)(i:Nat):St:=hd [(2,.ptr 0 0 0),(3,.ptr 1 0 0),(4,.ptr 2 0 0),(101,.ref 3),(102,.int .i64 m.runs.length),(103,.int .i64 i)]
 [.box [.str m.name,.bool m.up,.int .i64 m.clock,.bool m.known,.int .i64 m.seen,.ref 4,.ref 3,.ref 5,.ref 6],.box (p.c .bor),.box zeroCells,.arr 11 (mixU Run.c m.runs (m.runs.map (giveRun p)) i),.arr 7 (m.wants.map Want.c),.arr 4 (m.asks.map Ask.c),.arr 4 (m.gives.map Ask.c)] 0
theorem Zoc{m:Mate}(h:mateValid m=true):asksOk m.asks m.clock=true/\asksOk m.gives m.clock=true:=by
 unfold mateValid mateParts at h
 simp only[Bool.and_eq_true]at h
 exact⟨h.1.2.2.2.2.2.2.1,h.1.2.2.2.2.2.2.2⟩
theorem law61(m:Mate)(p:Parcel)(hm:m.small)(hp:p.wants.length<=1048576):F 61 [.agg (m.c .bor),.agg (p.c .bor)] []=some (.agg ((mateTake m p).c .own),[]):=by
 refine Zah fn61 rfl ?_
 have w1:=law28 m hm
 have w2:=law117 m hm
 simp only[Mate.c]at w1 w2
 have hr:=hm.runs
 simp[c61,w1,mateTake]
 cases hv:mateValid m<;>simp
 ·simp[Mate.zero]
 simp[w2]
 cases q1:m.up<;>simp[q1]
 cases q2:sEq p.berth m.name<;>simp[q1]
 unfold takeKind
 by_cases k1:p.kind=1
 ·have w6:=law6 p.wants (by unfold big;omega)
  have e1:p.wants.length*72<=140737488355328:=by omega
  have e2:p.wants.length<=140737488355328:=by omega
  simp[k1,w6,takeTold,takeRows,e1,e2]
  cases q3:m.known<;>simp[q1,q3]
  ·cases q5:wantsOk p.wants<;>simp[q1,q3]
   cases q6:inR p.seen 1 1000000<;>simp[q1,q3]
  ·by_cases q4:m.seen<p.seen<;>simp[q4,q1,q3]
   cases q5:wantsOk p.wants<;>simp[q1,q3]
   cases q6:inR p.seen 1 1000000<;>simp[q1,q3]
 ·by_cases k3:p.kind=3
  ·have w113:=law113 m.asks p.hold hm.asks
   rcases Zca m.asks p.hold with ⟨e,hno⟩|⟨k,hk,e,hk1,hk2⟩
   ·have hf:m.asks.find? (fun a=>sEq a.hold p.hold)=none:=by
     rw[List.find?_eq_none];intro a ha;rw[hno a ha];simp
    simp[k1,k3,w113,takeGiven,e,hf,q1]
   ·have hf:=Zra hk hk1 hk2
    simp only[takeGiven,hf,askFits]
    simp[k1,k3,w113,e,hk]
    cases q3:sEq m.asks[k].copy p.copy<;>simp[q1]
    by_cases q4:p.at_<m.asks[k].first
    ·have q4':¬ (m.asks[k].first<=p.at_):=by omega
     simp[q4,q4',q1]
    have q4':m.asks[k].first<=p.at_:=by omega
    simp[q4,q4']
    by_cases q5:m.asks[k].at_<p.at_
    ·have q5':¬ (p.at_<=m.asks[k].at_):=by omega
     simp[q5,q5',q1]
    have q5':p.at_<=m.asks[k].at_:=by omega
    simp[q5,q5']
    refine (Zab m.runs (fun i (_:Unit)=>head61 m p i) (fun _ _=>True) (fun _ _ _=>(.agg (({ m with runs:=m.runs.map (giveRun p) }:Mate).c .own),[])) (fun acc Y _=>?_) (fun i a r acc Y ha hi hr _ hY=>?_) () ?_ trivial ?_).trans (by simp[q1])
    ·simp[head61,c61b0,zeroCells,Zsg,q1]
    ·have hw:IntKind.i64.wrap ((i:Int)+1)=(i:Int)+1:=i64w (by omega) (by omega)
     obtain⟨_,hga⟩:=List.getElem?_eq_some_iff.1 ha
     have hms:(m.runs.map (giveRun p))[i]?=some (giveRun p a):=by simp[ha]
     have hln:=Znb Run.c (ws:=m.runs) (ms:=m.runs.map (giveRun p)) (i:=i) (by simp) (by omega)
     have hg:=Zqv Run.c (ms:=m.runs.map (giveRun p)) ha (by simp) (by rw[hln];exact hi)
     have hs:=Zmw Run.c (ws:=m.runs) hms (by simp)
     simp only[Run.c]at hg
     have hY':∀ s',s'.norm [2,3,4,101,102,103]=head61 m p (i+1)->fin [CRes.cell 4 9 true] 0 (Y s')=some (.agg (({ m with runs:=m.runs.map (giveRun p) }:Mate).c .own),[]):=fun s' h=>hY () s' trivial h
     simp[head61,c61b0,zeroCells,hi,hln,hg]
     have hsame:giveRun p a=a->mixU Run.c m.runs (m.runs.map (giveRun p)) i=mixU Run.c m.runs (m.runs.map (giveRun p)) (i+1):=fun h=>Zrj Run.c ha (by simp[ha,h]) (by simp)
     cases r1:sEq a.want.hold p.hold<;>simp
     ·have hs2:=hsame (by simp[giveRun,r1])
      exact (hY' _ (by simp[head61,hw,zeroCells,hs2,q1,k3])).trans (by simp[q1])
     cases r2:sEq a.want.copy p.copy<;>simp
     ·have hs2:=hsame (by simp[giveRun,r1,r2])
      exact (hY' _ (by simp[head61,hw,zeroCells,hs2,q1,k3])).trans (by simp[q1])
     by_cases r3:a.til<IntKind.i64.wrap (p.at_+16)<;>simp[r3]
     ·have hga2:giveRun p a={ a with til:=IntKind.i64.wrap (p.at_+16) }:=by simp[giveRun,r1,r2,r3]
      rw[hga2]at hs
      simp only[Run.c]at hs
      exact (hY' _ (by simp[head61,hw,zeroCells,hs,q1,k3])).trans (by simp[q1])
     ·have hs2:=hsame (by simp[giveRun,r1,r2,r3])
      exact (hY' _ (by simp[head61,hw,zeroCells,hs2,q1,k3])).trans (by simp[q1])
    ·simp[head61,zeroCells,Zqm,q1,k3]
    ·unfold big;omega
  ·by_cases k5:p.kind=5
   ·have w113:=law113 m.gives p.hold hm.gives
    rcases Zca m.gives p.hold with ⟨e,hno⟩|⟨k,hk,e,hk1,hk2⟩
    ·have hf:m.gives.find? (fun a=>sEq a.hold p.hold)=none:=by
      rw[List.find?_eq_none];intro a ha;rw[hno a ha];simp
     simp[k1,k3,k5,w113,takeBack',e,hf,q1]
    ·have hf:=Zra hk hk1 hk2
     have w137:=law137 m.gives k hk hm.gives
     have hd:=Zqc (Zoc hv).2 hk
     rw[(Zac _ _).1 hk1]at hd
     simp only[takeBack',hf]
     simp[k1,k3,k5,w113,e,hk]
     by_cases q3:m.gives[k].at_=p.at_
     ·simp[q3,w137,hd,q1]
     ·simp[q3,q1]
   ·simp[k1,k3,k5,q1]
def Ask.k(a:Ask):T:=a.hold
theorem law219(l:List Ask)(a:Ask)(hl:l.length<=1000)(ha:Asc Ask.k l)(hk:Lacks Ask.k a.hold l):F 219 [.ref 0,.agg a.c] [.arr 4 (l.map Ask.c)]=some (.sl .own 4 ((putBy Ask.k a l).map Ask.c),[none]):=by
 refine Zah fn219 rfl ?_
 obtain⟨s1,s2⟩:=Zbr Ask.c Ask.k 0 (fun _=>rfl) (Zbf Ask.k (x:=a) (l:=l) hk) (Zap Ask.k ha)
 simp only[List.map_append,List.map_cons,List.map_nil,Ask.c]at s1 s2
 have e1:(l.length+1)*48<=140737488355328:=by omega
 have e2:l.length+1<=140737488355328:=by omega
 have e3:l.length+1<=1000000000:=by omega
 have e4:rowsPlain [[AV.str a.hold,.str a.copy,.int .i64 a.first,.int .i64 a.at_]]=true:=by simp[rowsPlain]
 simp[c219,takeRows,e1,e2,e3,e4,isRef,sortTab,s1,s2]
def Run.k(r:Run):T:=r.want.copy
structure Sane(r:Run):Prop where
 left:0<=r.left/\r.left<=100
 falls:0<=r.falls/\r.falls<=1000
structure LV where
 runs:List Run
 asks:List Ask
 gives:List Ask
def liveOf(c:Int)(ws:List Want)(r:Run):Option Run:=mateLive r ((findW ws r.want.copy).getD .zero) (findW ws r.want.copy).isSome c
def askOf(h:T)(l:List Ask):Option Ask:=l.find? fun a=>sEq a.hold h
def giveUp(h:T)(s:LV):LV:=if sEq h ⟨#[]⟩ then s else match askOf h s.asks with
 | none=>s
 | some a=>⟨s.runs,dropHold s.asks h,if s.gives.length<40 then putBy Ask.k a s.gives else s.gives⟩
def liveStep(c:Int)(ws:List Want)(s:LV)(r:Run):LV:=match liveOf c ws r with
 | some n=>⟨s.runs++[n],s.asks,s.gives⟩
 | none=>giveUp r.want.hold s
def newRun(w:Want):Run:=⟨w,1,w.pull,0,0⟩
def addRun(rs:List Run)(w:Want):List Run:=if 20<=rs.length || rs.any (fun r=>sEq r.want.copy w.copy) then rs else putBy Run.k (newRun w) rs
def livesOf(m:Mate):LV:=m.runs.foldl (liveStep m.clock m.wants) ⟨[],m.asks,m.gives⟩
def mLives(m:Mate):Mate:={ m with runs:=m.wants.foldl addRun (livesOf m).runs,asks:=(livesOf m).asks,gives:=(livesOf m).gives }
theorem Zjl(l:List Ask)(h:T):(askAt l h = -1/\askOf h l=none)\/∃ k,∃ hk:k<l.length,askAt l h=(k:Int)/\askOf h l=some (l[k]'hk)/\(l[k]'hk).hold=h:=by
 unfold askAt askOf
 have key:∀ (l:List Ask) (i:Nat),(askAtGo h l i = -1/\l.find? (fun a=>sEq a.hold h)=none)\/∃ k,∃ hk:k<l.length,askAtGo h l i=((i+k:Nat):Int)/\l.find? (fun a=>sEq a.hold h)=some (l[k]'hk)/\(l[k]'hk).hold=h:=by
  intro l
  induction l with
  | nil=>intro i;exact .inl ⟨rfl,rfl⟩
  | cons a r ih =>
   intro i
   unfold askAtGo
   rw[List.find?_cons]
   cases q:sEq a.hold h
   ·rcases ih (i+1) with ⟨h1,h2⟩|⟨k,hk,h1,h2,h3⟩
    ·exact .inl ⟨by simpa using h1,by simpa using h2⟩
    ·refine .inr ⟨k+1,by simpa using hk,?_,by simpa using h2,by simpa using h3⟩
     simp only[Bool.false_eq_true,if_false,h1]
     congr 1
     omega
   ·exact .inr ⟨0,by simp,by simp,by simp,by simpa using (Zac _ _).1 q⟩
 simpa using key l 0
theorem Zid{rs:List Run}{w:Want}(h:rs.length<=20):(addRun rs w).length<=20:=by
 unfold addRun
 by_cases h1:(20<=rs.length || rs.any fun r=>sEq r.want.copy w.copy)=true
 ·simp[h1,h]
 ·simp only[h1,Bool.false_eq_true,if_false]
  simp only[Bool.or_eq_true,decide_eq_true_eq,not_or]at h1
  have:=Zax Run.k (newRun w) rs
  omega
theorem Zib{rs:List Run}{w:Want}(h:Asc Run.k rs):Asc Run.k (addRun rs w):=by
 unfold addRun
 split
 ·exact h
 ·exact Zap Run.k h
def zeroM:List AV:=[.str ⟨#[]⟩,.bool false,.int .i64 0,.bool false,.int .i64 0,.sl .own 7 [],.sl .own 11 [],.sl .own 4 [],.sl .own 4 []]
theorem Zdu(c:Int)(ws:List Want):∀ (rs:List Run) (s:LV),(rs.foldl (liveStep c ws) s).runs.length<=s.runs.length+rs.length
 | [],s=>by simp
 | r::rs,s=>by
  have h1:(liveStep c ws s r).runs.length<=s.runs.length+1:=by
   unfold liveStep
   split
   ·simp
   ·unfold giveUp
    split
    ·omega
    ·split<;>simp
  have:=Zdu c ws rs (liveStep c ws s r)
  simp only[List.foldl_cons,List.length_cons]
  omega
theorem Zjs{r n:Run}{w:Want}{b:Bool}{c:Int}(h:mateLive r w b c=some n):n.want=r.want:=by
 unfold mateLive at h
 split at h
 ·split at h
  ·obtain rfl:=Option.some.inj h;rfl
  ·cases h
 split at h
 ·obtain rfl:=Option.some.inj h;rfl
 split at h
 ·obtain rfl:=Option.some.inj h;rfl
 split at h
 ·split at h
  ·obtain rfl:=Option.some.inj h;rfl
  ·obtain rfl:=Option.some.inj h;rfl
 split at h
 ·cases h
 split at h
 ·obtain rfl:=Option.some.inj h
  unfold beginR
  split<;>rfl
 ·obtain rfl:=Option.some.inj h;rfl
theorem Zel(c:Int)(ws:List Want):∀ (rs:List Run) (s:LV),∃ l:List Run,(rs.foldl (liveStep c ws) s).runs=s.runs++l/\(l.map Run.k).Sublist (rs.map Run.k)
 | [],s=>⟨[],by simp,List.Sublist.refl _⟩
 | r::rs,s=>by
  obtain⟨l,h1,h2⟩:=Zel c ws rs (liveStep c ws s r)
  simp only[List.foldl_cons,List.map_cons]
  cases ho:liveOf c ws r with
  | some n =>
   have e:(liveStep c ws s r).runs=s.runs++[n]:=by unfold liveStep;rw[ho]
   rw[e]at h1
   refine⟨n::l,by rw[h1];simp,?_⟩
   have hk:Run.k n=Run.k r:=by unfold Run.k;rw[Zjs ho]
   rw[List.map_cons,hk]
   exact h2.cons_cons _
  | none =>
   have e:(liveStep c ws s r).runs=s.runs:=by
    unfold liveStep
    rw[ho]
    simp only
    unfold giveUp
    split
    ·rfl
    ·split<;>rfl
   rw[e]at h1
   exact⟨l,h1,h2.cons _⟩
theorem Zgh{α:Type}{key:α->T}{l:List α}:Asc key l↔(l.map key).Pairwise (fun a b=>sLt a b=true):=by
 unfold Asc
 rw[List.pairwise_map]
theorem Zdt{m:Mate}(h:Asc Run.k m.runs):Asc Run.k (livesOf m).runs:=by
 obtain⟨l,h1,h2⟩:=Zel m.clock m.wants m.runs ⟨[],m.asks,m.gives⟩
 unfold livesOf
 rw[h1,List.nil_append]
 exact Zgh.2 ((Zgh.1 h).sublist h2)
def asksHold(ws:List Want)(gives:List Ask)(r:Run):Bool:=(match findW ws r.want.copy with
 | some w=>eqWant w r.want
 | none=>false) && (!sEq r.want.hold ⟨#[]⟩ && (askOf r.want.hold gives).isNone)
def freshAsk(c:Int)(r:Run)(as:List Ask):Option Ask:=match askOf r.want.hold as with
 | some a=>if sEq a.copy r.want.copy then (if c<IntKind.i64.wrap (a.at_+6) then none else some ⟨r.want.hold,r.want.copy,a.first,c⟩) else some ⟨r.want.hold,r.want.copy,c,c⟩
 | none=>some ⟨r.want.hold,r.want.copy,c,c⟩
def asked(name:T)(c:Int)(r:Run):Parcel:=⟨2,name,0,[],r.want.hold,r.want.copy,c⟩
def askStep(m:Mate)(s:List Ask×List Parcel)(r:Run):List Ask×List Parcel:=if asksHold m.wants m.gives r then match freshAsk m.clock r s.1 with
  | some a=>(putBy Ask.k a s.1,s.2++[asked m.name m.clock r])
  | none=>s
 else s
def asksOf(m:Mate):List Ask×List Parcel:=m.runs.foldl (askStep m) (m.asks,[])
def mAsks(m:Mate):Mate:={ m with asks:=(asksOf m).1 }
def backP(n:T)(a:Ask):Parcel:=⟨4,n,0,[],a.hold,a.copy,a.at_⟩
def hereP(m:Mate):Parcel:=⟨6,m.name,m.seen,[],⟨#[]⟩,⟨#[]⟩,0⟩
def tickOn(m:Mate)(rate:Int):Mate:={ m with clock:=m.clock+rate,runs:=m.runs.map (wd (m.clock+rate)) }
def tickRuns(m:Mate):Mate:=if m.known then mLives m else m
def tickOut(m:Mate):List Parcel:=(asksOf m).2++m.gives.map (backP m.name)++[hereP m]
def mateTick(m:Mate)(rate:Int):Mate×List Parcel :=
 if mateValid m then
  if inR rate 1 4 then
   if 1000000<m.clock+rate then ({ mateFall m true with clock:=1000000 },[])
   else if m.up then (mAsks (tickRuns (tickOn m rate)),tickOut (tickRuns (tickOn m rate))) else (tickOn m rate,[])
  else (m,[])
 else (.zero,[])
structure ValidIs(m:Mate):Prop where
 clock:0<=m.clock/\m.clock<=1000000
 wants:m.wants.length<=10
 runs:m.runs.length<=20
 runsAsc:Asc Run.k m.runs
 sane:∀ r∈m.runs,Sane r
 asks:Asc Ask.k m.asks
 gives:Asc Ask.k m.gives
 apart:∀ a∈m.asks,∀ b∈m.gives,a.hold≠b.hold
theorem Zrd{m:Mate}(h:mateValid m=true):ValidIs m:=by
 obtain⟨h1,h2,_⟩:=(Za1 m).1 h
 obtain⟨_,p2,_,p4,_,p6,p7,p8⟩:=(Zbk m).1 h1
 obtain⟨r1,r2,r3⟩:=(Zdb _ _).1 p6
 have w1:=(Zas _).1 p4
 have a1:=(Zes _ _).1 p7
 have a2:=(Zes _ _).1 p8
 simp only[inR,Bool.and_eq_true,decide_eq_true_eq]at p2
 refine⟨p2,w1.1,r1,r3,fun r hr=>?_,a1.2.2,a2.2.2,fun a ha b hb e=>?_⟩
 ·have:=r2 r hr
  simp only[runOk,inR,Bool.and_eq_true,decide_eq_true_eq]at this
  exact⟨this.2.2.1,this.2.2.2.2.1⟩
 ·unfold apartGo at h2
  have:=List.all_eq_true.1 h2 a ha
  simp only[decide_eq_true_eq]at this
  rcases Zca m.gives a.hold with ⟨_,hno⟩|⟨k,hk,e1,_⟩
  ·have:=hno b hb
   rw[(Zac _ _).2 e.symm]at this
   cases this
  ·omega
theorem Zt1{c:Int}{r:Run}(h:Sane r):Sane (wd c r):=by
 unfold wd
 split
 ·exact⟨⟨by simp,by simp⟩,h.falls⟩
 ·exact h
theorem Zl9(c:Int)(r:Run):(wd c r).want=r.want:=by unfold wd;split<;>rfl
theorem wd_k(c:Int)(r:Run):Run.k (wd c r)=Run.k r:=by unfold Run.k;rw[Zl9]
theorem Zqk{c:Int}{l:List Run}(h:Asc Run.k l):Asc Run.k (l.map (wd c)):=by
 rw[Zgh]at h ⊢
 rw[List.map_map]
 have e:Run.k ∘ wd c=Run.k:=funext fun r=>wd_k c r
 rw[e];exact h
theorem Zn0(h:T)(s:LV):(giveUp h s).asks.length<=s.asks.length/\(giveUp h s).gives.length<=s.gives.length+1:=by
 unfold giveUp
 split
 ·exact⟨Nat.le_refl _,Nat.le_succ _⟩
 ·split
  ·exact⟨Nat.le_refl _,Nat.le_succ _⟩
  ·refine⟨List.length_filter_le _ _,?_⟩
   simp only
   split
   ·exact Zax Ask.k _ _
   ·exact Nat.le_succ _
theorem Zdv(c:Int)(ws:List Want):∀ (rs:List Run) (s:LV),(rs.foldl (liveStep c ws) s).asks.length<=s.asks.length/\(rs.foldl (liveStep c ws) s).gives.length<=s.gives.length+rs.length
 | [],s=>⟨Nat.le_refl _,Nat.le_refl _⟩
 | r::rs,s=>by
  have h1:(liveStep c ws s r).asks.length<=s.asks.length/\(liveStep c ws s r).gives.length<=s.gives.length+1:=by
   unfold liveStep
   split
   ·exact⟨Nat.le_refl _,Nat.le_succ _⟩
   ·exact Zn0 _ _
  obtain⟨h2,h3⟩:=Zdv c ws rs (liveStep c ws s r)
  simp only[List.foldl_cons,List.length_cons]
  omega
theorem Ze9:∀ (ws:List Want) (rs:List Run),rs.length<=20->Asc Run.k rs->(ws.foldl addRun rs).length<=20/\Asc Run.k (ws.foldl addRun rs)
 | [],_,h,k=>⟨h,k⟩
 | w::ws,rs,h,k=>Ze9 ws (addRun rs w) (Zid h) (Zib k)
structure Fit(m:Mate)(n:Nat):Prop where
 wants:m.wants.length<=10
 runs:m.runs.length<=20
 asc:Asc Run.k m.runs
 asks:m.asks.length<=20
 gives:m.gives.length<=20+n
theorem Fit.small{m:Mate}{n:Nat}(h:Fit m n)(hn:n<=1000):m.small:=⟨by have:=h.wants;omega,by have:=h.runs;omega,by have:=h.asks;omega,by have:=h.gives;omega⟩
theorem Zn8{m:Mate}(h:Fit m 0):Fit (mLives m) 20:=by
 have h1:=Zdu m.clock m.wants m.runs ⟨[],m.asks,m.gives⟩
 obtain⟨h2,h3⟩:=Zdv m.clock m.wants m.runs ⟨[],m.asks,m.gives⟩
 have h4:=Zdt h.asc
 have r:=h.runs
 obtain⟨a1,a2⟩:=Ze9 m.wants (livesOf m).runs (by unfold livesOf;simp only[List.length_nil]at h1;omega) h4
 exact⟨h.wants,a1,a2,Nat.le_trans h2 h.asks,by have:=h.gives;have e:(mLives m).gives=(m.runs.foldl (liveStep m.clock m.wants) ⟨[],m.asks,m.gives⟩).gives:=rfl;rw[e];simp only at h3;omega⟩
theorem Zev(m:Mate):∀ (rs:List Run) (s:List Ask×List Parcel),(rs.foldl (askStep m) s).1.length<=s.1.length+rs.length/\(rs.foldl (askStep m) s).2.length<=s.2.length+rs.length/\((∀ p∈s.2,p.wants=[])->∀ p∈(rs.foldl (askStep m) s).2,p.wants=[])
 | [],s=>⟨Nat.le_refl _,Nat.le_refl _,fun h=>h⟩
 | r::rs,s=>by
  have h1:(askStep m s r).1.length<=s.1.length+1/\(askStep m s r).2.length<=s.2.length+1/\((∀ p∈s.2,p.wants=[])->∀ p∈(askStep m s r).2,p.wants=[]):=by
   unfold askStep
   split
   ·split
    ·refine⟨Zax Ask.k _ _,by simp,fun h p hp=>?_⟩
     rcases List.mem_append.1 hp with hp|hp
     ·exact h p hp
     ·rw[List.mem_singleton.1 hp];rfl
    ·exact⟨Nat.le_succ _,Nat.le_succ _,fun h=>h⟩
   ·exact⟨Nat.le_succ _,Nat.le_succ _,fun h=>h⟩
  obtain⟨h2,h3,h4⟩:=Zev m rs (askStep m s r)
  simp only[List.foldl_cons,List.length_cons]
  exact⟨by omega,by omega,fun h=>h4 (h1.2.2 h)⟩
theorem law222(s p:T)(h:s.size<=9223372036854775807):F 222 [.str s,.str p] []=some (.bool (Lib.hasSuffix s.data.toList p.data.toList),[]) :=
 Zed rfl (by rw[show P.prim=prim from rfl];simp[prim,primGo,h])
theorem law220(s sep:T)(h:s.size<4294967281)(h2:1<=sep.size):F 220 [.str s,.str sep] []=some (.sl .own 1 ((splitT s sep).map fun x=>[.str x]),[]) :=
 Zed rfl (by rw[show P.prim=prim from rfl];simp[prim,primGo,h,h2])
theorem Zhc:∀ xs:List T,textsOf (xs.map fun x=>[.str x])=some xs
 | []=>rfl
 | x::xs=>by simp[textsOf,Zhc xs]
theorem law230(xs:List T)(sep:T)(h:xs.length<=140737488355328)(h2:(joinT xs sep).size<=140737488355328):F 230 [.sl .bor 1 (xs.map fun x=>[.str x]),.str sep] []=some (.str (joinT xs sep),[]) :=
 Zed rfl (by rw[show P.prim=prim from rfl];simp[prim,primGo,Zhc,h,h2])
theorem law231(n:Int)(h : -9223372036854775808<=n)(h2:n<=9223372036854775807):F 231 [.int .i64 n] []=some (.str (itoaT n),[]) :=
 Zed rfl (by rw[show P.prim=prim from rfl];simp[prim,primGo,h,h2])
theorem law221(s:T)(h:s.size<=281474976710656):F 221 [.str s] []=some (.int .i64 (numT s),[]) :=
 Zed rfl (by rw[show P.prim=prim from rfl];simp[prim,primGo,h])
/-! ### Sizes -/
theorem Zb6{a b:T}(h:a.data.toList=b.data.toList):a=b:=by
 cases a;cases b;congr;exact Array.ext' h
theorem Zaw(a b:T):(a++b).data.toList=a.data.toList++b.data.toList:=by
 simp
def starOr(h:T):T:=if sEq h ⟨#[]⟩ then ⟨#[42]⟩ else h
def formWant(w:Want):T:=(⟨#[119,97,110,116,32]⟩:T)++w.copy++(⟨#[32]⟩:T)++dec w.version.toNat++(⟨#[32]⟩:T)++starOr w.hold++(⟨#[32]⟩:T)++dec w.pull.toNat++(⟨#[32]⟩:T)++dec w.start.toNat++(⟨#[32]⟩:T)++dec w.dies.toNat++(⟨#[32]⟩:T)++dec w.grace.toNat++(⟨#[10]⟩:T)
theorem law140'(n:Int)(h0:0<=n)(hn:n<=1000000):F 140 [.int .i64 n] []=some (.str (dec n.toNat),[])/\(dec n.toNat).size<=7:=by
 have h:=law140 n.toNat (by omega)
 rw[Int.toNat_of_nonneg h0]at h
 exact⟨h,Zgc 6 n.toNat (by omega)⟩
theorem Zly{h:T}(k:h.size<=20):(starOr h).size<=20:=by
 unfold starOr
 split
 ·show (1:Nat)<=20;omega
 ·exact k
structure Want.fits(w:Want):Prop where
 copy:w.copy.size<=20
 hold:w.hold.size<=20
 version:0<=w.version/\w.version<=1000000
 pull:0<=w.pull/\w.pull<=1000000
 start:0<=w.start/\w.start<=1000000
 dies:0<=w.dies/\w.dies<=1000000
 grace:0<=w.grace/\w.grace<=1000000
theorem Zam{s:T}(h:isName s=true):s.size<=20:=by
 simp only[isName,Bool.and_eq_true,decide_eq_true_eq]at h
 exact h.1.2
theorem Zk8{s:T}(h:(sEq s ⟨#[]⟩ || isHold s)=true):s.size<=20:=by
 rcases Bool.or_eq_true_iff.1 h with h|h
 ·rw[(Zac _ _).1 h];decide
 ·simp only[isHold,Bool.and_eq_true]at h
  exact Zam h.1
theorem Zds{w:Want}(h:wantOk w=true):w.fits:=by
 simp only[wantOk,Bool.and_eq_true,inR,decide_eq_true_eq]at h
 obtain⟨⟨⟨⟨⟨⟨h1,h2⟩,h3⟩,h4⟩,h5⟩,h6⟩,h7⟩:=h
 exact⟨Zam h1,Zk8 h3,⟨by omega,by omega⟩,⟨by omega,by omega⟩,⟨by omega,by omega⟩,⟨by omega,by omega⟩,⟨by omega,by omega⟩⟩
theorem Zgx{w:Want}(h:wantOk w=true):sEq w.hold ⟨#[42]⟩=false:=by
 simp only[wantOk,Bool.and_eq_true]at h
 have h3:=h.1.1.1.1.2
 rcases Bool.or_eq_true_iff.1 h3 with h|h
 ·rw[(Zac _ _).1 h];exact Zad (by intro e;cases e)
 ·simp only[isHold,Bool.and_eq_true,Bool.not_eq_true']at h
  exact h.2
theorem Zef{w:Want}(h:w.fits):(formWant w).size<=90:=by
 obtain⟨h1,h2,n1,n2,n3,n4,n5⟩:=h
 have b1:=(law140' _ n1.1 n1.2).2
 have b2:=(law140' _ n2.1 n2.2).2
 have b3:=(law140' _ n3.1 n3.2).2
 have b4:=(law140' _ n4.1 n4.2).2
 have b5:=(law140' _ n5.1 n5.2).2
 have hh:=Zly h2
 have z1:(⟨#[119,97,110,116,32]⟩:T).size=5:=rfl
 have z2:(⟨#[32]⟩:T).size=1:=rfl
 have z3:(⟨#[10]⟩:T).size=1:=rfl
 unfold formWant
 simp only[Zal]
 omega
theorem Zmm{d:Nat}:digit d=⟨#[UInt8.ofNat (48+d)]⟩:=by
 unfold digit
 congr 2
 simp[UInt8.ofNat_add]
theorem Zbi:∀ n:Nat,(dec n).data.toList=Lib.decDigits n:=by
 intro n
 induction n using Nat.strongRecOn with
 | ind n ih =>
  rw[dec,Lib.decDigits]
  split
  ·rw[Zmm]
  ·rw[Zaw,ih (n / 10) (by omega),Zmm]
theorem Zbo{n:Int}(h:0<=n):itoaT n=dec n.toNat:=by
 apply Zb6
 rw[Zbi]
 simp[itoaT,Lib.itoa,show ¬ n<0 by omega]
def noHold(p:Parcel):Bool:=sEq p.hold ⟨#[]⟩ && (sEq p.copy ⟨#[]⟩ && p.at_ == 0)
def toldHead(p:Parcel):T:=(⟨#[116,111,108,100,32]⟩:T)++p.berth++(⟨#[32]⟩:T)++dec p.seen.toNat++(⟨#[10]⟩:T)
def formWants(acc:T):List Want->T
 | []=>acc
 | w::ws=>formWants (acc++formWant w) ws
def word(k:Int):T:=if k=2 then (⟨#[97,115,107,101,100,32]⟩:T) else if k=3 then (⟨#[103,105,118,101,110,32]⟩:T) else (⟨#[98,97,99,107,32]⟩:T)
def formSw(p:Parcel)(h nh:Bool):T :=
 if p.kind=1 then (if inR p.seen 1 1000000 && (wantsOk p.wants && nh) then formWants (toldHead p) p.wants else ⟨#[]⟩)
 else if p.kind=2\/p.kind=3\/p.kind=4 then (if h && (isName p.copy && (inR p.at_ 0 1000000 && (p.seen == 0 && p.wants.isEmpty))) then word p.kind++p.berth++(⟨#[32]⟩:T)++p.hold++(⟨#[32]⟩:T)++p.copy++(⟨#[32]⟩:T)++dec p.at_.toNat++(⟨#[10]⟩:T) else ⟨#[]⟩)
 else if p.kind=5 then (if h && (sEq p.copy ⟨#[]⟩ && (inR p.at_ 0 1000000 && (p.seen == 0 && p.wants.isEmpty))) then (⟨#[103,111,116,98,97,99,107,32]⟩:T)++p.berth++(⟨#[32]⟩:T)++p.hold++(⟨#[32]⟩:T)++dec p.at_.toNat++(⟨#[10]⟩:T) else ⟨#[]⟩)
 else if p.kind=6 then (if inR p.seen 0 1000000 && (p.wants.isEmpty && nh) then (⟨#[104,101,114,101,32]⟩:T)++p.berth++(⟨#[32]⟩:T)++dec p.seen.toNat++(⟨#[10]⟩:T) else ⟨#[]⟩)
 else ⟨#[]⟩
def parcelForm(p:Parcel):T:=if isName p.berth then formSw p (isHold p.hold) (noHold p) else ⟨#[]⟩
theorem Zb3{n a b:Int}(h:inR n a b=true):a<=n/\n<=b:=by simpa [inR] using h
def sw218:CCode:=(.seq (.seq (.region [
  ⟨some 40,.faddr (.tmp 1) 0,none⟩,
  ⟨some 41,.load (.tmp 40) 1 false .plain,none⟩] [1,3,4,5,6,41])
 (.block 0
  (.seq (.region [
   ⟨some 43,.bin .eql (.tmp 41) (.const (.int .i64 1)),none⟩,
   ⟨some 42,.mov (.tmp 43),none⟩] [1,3,4,5,6,41,42])
  (.cond (.tmp 42)
   (.seq (.seq (.region [
    ⟨some 44,.faddr (.tmp 1) 2,none⟩,
    ⟨some 45,.load (.tmp 44) 1 false .plain,none⟩,
    ⟨some 46,.call 85 [false,false,false] [.tmp 45,.const (.int .i64 1),.const (.int .i64 1000000)],none⟩,
    ⟨some 47,.un .not (.tmp 46),none⟩,
    ⟨some 48,.mov (.tmp 47),none⟩,
    ⟨some 49,.faddr (.tmp 1) 3,some (48,false)⟩,
    ⟨some 50,.load (.tmp 49) 1 false .plain,some (48,false)⟩,
    ⟨some 51,.call 6 [false] [.tmp 50],some (48,false)⟩,
    ⟨some 52,.un .not (.tmp 51),some (48,false)⟩,
    ⟨some 53,.pick (.tmp 48) (.const (.bool true)) (.tmp 52),none⟩,
    ⟨some 54,.mov (.tmp 53),none⟩,
    ⟨some 55,.mov (.tmp 6),some (54,false)⟩,
    ⟨some 56,.un .not (.tmp 55),some (54,false)⟩,
    ⟨some 57,.pick (.tmp 54) (.const (.bool true)) (.tmp 56),none⟩] [1,3,57])
   (.cond (.tmp 57)
    (.seq (.region [
     ⟨some 2,.mov (.const (.str ⟨#[]⟩)),none⟩] [2])
    .ret)
    .skip))
   (.seq (.quiet [
    ⟨some 58,.faddr (.tmp 1) 1,none⟩,
    ⟨some 59,.load (.tmp 58) 1 false .plain,none⟩,
    ⟨some 60,.bin .add (.const (.str ⟨#[116,111,108,100,32]⟩)) (.tmp 59),none⟩,
    ⟨some 61,.bin .add (.tmp 60) (.const (.str ⟨#[32]⟩)),none⟩,
    ⟨some 62,.mov (.tmp 3),none⟩,
    ⟨some 63,.faddr (.tmp 1) 2,none⟩,
    ⟨some 64,.load (.tmp 63) 1 false .plain,none⟩,
    ⟨some 65,.callf (.tmp 62) [false] [.tmp 64],none⟩,
    ⟨some 66,.bin .add (.tmp 61) (.tmp 65),none⟩,
    ⟨some 67,.bin .add (.tmp 66) (.const (.str ⟨#[10]⟩)),none⟩,
    ⟨some 7,.mov (.tmp 67),none⟩] [1,3,7])
   (.seq (.seq (.region [
    ⟨some 68,.faddr (.tmp 1) 3,none⟩,
    ⟨some 69,.load (.tmp 68) 1 false .plain,none⟩,
    ⟨some 70,.len false (.tmp 69),none⟩,
    ⟨some 71,.mov (.const (.int .i64 0)),none⟩] [3,7,69,70,71])
   (.block 1
    (.loop [3,7,69,70,71] c218b0)))
   (.seq (.region [
    ⟨some 110,.mov (.tmp 7),none⟩,
    ⟨some 2,.mov (.tmp 110),none⟩] [2])
   .ret))))
   (.seq (.seq (.region [
    ⟨some 112,.bin .eql (.tmp 41) (.const (.int .i64 2)),none⟩,
    ⟨some 111,.mov (.tmp 112),none⟩] [1,3,4,5,6,41,111])
   (.cond (.tmp 111)
    .skip
    (.seq (.region [
     ⟨some 113,.bin .eql (.tmp 41) (.const (.int .i64 3)),none⟩,
     ⟨some 111,.mov (.tmp 113),none⟩] [1,3,4,5,6,41,111])
    (.cond (.tmp 111)
     .skip
     (.region [
      ⟨some 114,.bin .eql (.tmp 41) (.const (.int .i64 4)),none⟩,
      ⟨some 111,.mov (.tmp 114),none⟩] [1,3,4,5,6,41,111])))))
   (.cond (.tmp 111)
    (.seq (.seq (.region [
     ⟨some 115,.mov (.tmp 4),none⟩,
     ⟨some 116,.un .not (.tmp 115),none⟩,
     ⟨some 117,.mov (.tmp 116),none⟩,
     ⟨some 118,.faddr (.tmp 1) 5,some (117,false)⟩,
     ⟨some 119,.load (.tmp 118) 1 false .plain,some (117,false)⟩,
     ⟨some 120,.call 105 [false] [.tmp 119],some (117,false)⟩,
     ⟨some 121,.un .not (.tmp 120),some (117,false)⟩,
     ⟨some 122,.pick (.tmp 117) (.const (.bool true)) (.tmp 121),none⟩,
     ⟨some 123,.mov (.tmp 122),none⟩,
     ⟨some 124,.faddr (.tmp 1) 6,some (123,false)⟩,
     ⟨some 125,.load (.tmp 124) 1 false .plain,some (123,false)⟩,
     ⟨some 126,.call 85 [false,false,false] [.tmp 125,.const (.int .i64 0),.const (.int .i64 1000000)],some (123,false)⟩,
     ⟨some 127,.un .not (.tmp 126),some (123,false)⟩,
     ⟨some 128,.pick (.tmp 123) (.const (.bool true)) (.tmp 127),none⟩,
     ⟨some 129,.mov (.tmp 128),none⟩,
     ⟨some 130,.faddr (.tmp 1) 2,some (129,false)⟩,
     ⟨some 131,.load (.tmp 130) 1 false .plain,some (129,false)⟩,
     ⟨some 132,.bin .neq (.tmp 131) (.const (.int .i64 0)),some (129,false)⟩,
     ⟨some 133,.pick (.tmp 129) (.const (.bool true)) (.tmp 132),none⟩,
     ⟨some 134,.mov (.tmp 133),none⟩,
     ⟨some 135,.mov (.tmp 5),some (134,false)⟩,
     ⟨some 136,.un .not (.tmp 135),some (134,false)⟩,
     ⟨some 137,.pick (.tmp 134) (.const (.bool true)) (.tmp 136),none⟩] [1,3,137])
    (.cond (.tmp 137)
     (.seq (.region [
      ⟨some 2,.mov (.const (.str ⟨#[]⟩)),none⟩] [2])
     .ret)
     .skip))
    (.seq (.loud [
     ⟨some 138,.bslice 1 [.str ⟨#[]⟩] 3 [(0,.const (.str ⟨#[97,115,107,101,100]⟩)),(1,.const (.str ⟨#[103,105,118,101,110]⟩)),(2,.const (.str ⟨#[98,97,99,107]⟩))],none⟩,
     ⟨some 139,.faddr (.tmp 1) 0,none⟩,
     ⟨some 140,.load (.tmp 139) 1 false .plain,none⟩,
     ⟨some 141,.bin .sub (.tmp 140) (.const (.int .i64 2)),none⟩,
     ⟨some 142,.iaddr 1 (.tmp 138) (.tmp 141),none⟩,
     ⟨some 143,.load (.tmp 142) 1 false .plain,none⟩,
     ⟨some 144,.faddr (.tmp 1) 1,none⟩,
     ⟨some 145,.load (.tmp 144) 1 false .plain,none⟩,
     ⟨some 146,.faddr (.tmp 1) 4,none⟩,
     ⟨some 147,.load (.tmp 146) 1 false .plain,none⟩,
     ⟨some 148,.faddr (.tmp 1) 5,none⟩,
     ⟨some 149,.load (.tmp 148) 1 false .plain,none⟩,
     ⟨some 150,.mov (.tmp 3),none⟩,
     ⟨some 151,.faddr (.tmp 1) 6,none⟩,
     ⟨some 152,.load (.tmp 151) 1 false .plain,none⟩,
     ⟨some 153,.callf (.tmp 150) [false] [.tmp 152],none⟩,
     ⟨some 154,.bslice 1 [.str ⟨#[]⟩] 5 [(0,.tmp 143),(1,.tmp 145),(2,.tmp 147),(3,.tmp 149),(4,.tmp 153)],none⟩,
     ⟨some 155,.call 230 [false,false] [.tmp 154,.const (.str ⟨#[32]⟩)],none⟩,
     ⟨some 156,.bin .add (.tmp 155) (.const (.str ⟨#[10]⟩)),none⟩,
     ⟨some 2,.mov (.tmp 156),none⟩] [0,0,2,6,15,31,0,64,0,256,0,1024,0,0,8192,28672,65535,131071,262143,524287] [2])
    .ret))
    (.seq (.region [
     ⟨some 158,.bin .eql (.tmp 41) (.const (.int .i64 5)),none⟩,
     ⟨some 157,.mov (.tmp 158),none⟩] [1,3,4,5,6,41,157])
    (.cond (.tmp 157)
     (.seq (.seq (.region [
      ⟨some 159,.mov (.tmp 4),none⟩,
      ⟨some 160,.un .not (.tmp 159),none⟩,
      ⟨some 161,.mov (.tmp 160),none⟩,
      ⟨some 162,.faddr (.tmp 1) 5,some (161,false)⟩,
      ⟨some 163,.load (.tmp 162) 1 false .plain,some (161,false)⟩,
      ⟨some 164,.bin .neq (.tmp 163) (.const (.str ⟨#[]⟩)),some (161,false)⟩,
      ⟨some 165,.pick (.tmp 161) (.const (.bool true)) (.tmp 164),none⟩,
      ⟨some 166,.mov (.tmp 165),none⟩,
      ⟨some 167,.faddr (.tmp 1) 6,some (166,false)⟩,
      ⟨some 168,.load (.tmp 167) 1 false .plain,some (166,false)⟩,
      ⟨some 169,.call 85 [false,false,false] [.tmp 168,.const (.int .i64 0),.const (.int .i64 1000000)],some (166,false)⟩,
      ⟨some 170,.un .not (.tmp 169),some (166,false)⟩,
      ⟨some 171,.pick (.tmp 166) (.const (.bool true)) (.tmp 170),none⟩,
      ⟨some 172,.mov (.tmp 171),none⟩,
      ⟨some 173,.faddr (.tmp 1) 2,some (172,false)⟩,
      ⟨some 174,.load (.tmp 173) 1 false .plain,some (172,false)⟩,
      ⟨some 175,.bin .neq (.tmp 174) (.const (.int .i64 0)),some (172,false)⟩,
      ⟨some 176,.pick (.tmp 172) (.const (.bool true)) (.tmp 175),none⟩,
      ⟨some 177,.mov (.tmp 176),none⟩,
      ⟨some 178,.mov (.tmp 5),some (177,false)⟩,
      ⟨some 179,.un .not (.tmp 178),some (177,false)⟩,
      ⟨some 180,.pick (.tmp 177) (.const (.bool true)) (.tmp 179),none⟩] [1,3,180])
     (.cond (.tmp 180)
      (.seq (.region [
       ⟨some 2,.mov (.const (.str ⟨#[]⟩)),none⟩] [2])
      .ret)
      .skip))
     (.seq (.quiet [
      ⟨some 181,.faddr (.tmp 1) 1,none⟩,
      ⟨some 182,.load (.tmp 181) 1 false .plain,none⟩,
      ⟨some 183,.bin .add (.const (.str ⟨#[103,111,116,98,97,99,107,32]⟩)) (.tmp 182),none⟩,
      ⟨some 184,.bin .add (.tmp 183) (.const (.str ⟨#[32]⟩)),none⟩,
      ⟨some 185,.faddr (.tmp 1) 4,none⟩,
      ⟨some 186,.load (.tmp 185) 1 false .plain,none⟩,
      ⟨some 187,.bin .add (.tmp 184) (.tmp 186),none⟩,
      ⟨some 188,.bin .add (.tmp 187) (.const (.str ⟨#[32]⟩)),none⟩,
      ⟨some 189,.mov (.tmp 3),none⟩,
      ⟨some 190,.faddr (.tmp 1) 6,none⟩,
      ⟨some 191,.load (.tmp 190) 1 false .plain,none⟩,
      ⟨some 192,.callf (.tmp 189) [false] [.tmp 191],none⟩,
      ⟨some 193,.bin .add (.tmp 188) (.tmp 192),none⟩,
      ⟨some 194,.bin .add (.tmp 193) (.const (.str ⟨#[10]⟩)),none⟩,
      ⟨some 2,.mov (.tmp 194),none⟩] [2])
     .ret))
     (.seq (.region [
      ⟨some 196,.bin .eql (.tmp 41) (.const (.int .i64 6)),none⟩,
      ⟨some 195,.mov (.tmp 196),none⟩] [1,3,5,6,195])
     (.cond (.tmp 195)
      (.seq (.seq (.region [
       ⟨some 197,.faddr (.tmp 1) 2,none⟩,
       ⟨some 198,.load (.tmp 197) 1 false .plain,none⟩,
       ⟨some 199,.call 85 [false,false,false] [.tmp 198,.const (.int .i64 0),.const (.int .i64 1000000)],none⟩,
       ⟨some 200,.un .not (.tmp 199),none⟩,
       ⟨some 201,.mov (.tmp 200),none⟩,
       ⟨some 202,.mov (.tmp 5),some (201,false)⟩,
       ⟨some 203,.un .not (.tmp 202),some (201,false)⟩,
       ⟨some 204,.pick (.tmp 201) (.const (.bool true)) (.tmp 203),none⟩,
       ⟨some 205,.mov (.tmp 204),none⟩,
       ⟨some 206,.mov (.tmp 6),some (205,false)⟩,
       ⟨some 207,.un .not (.tmp 206),some (205,false)⟩,
       ⟨some 208,.pick (.tmp 205) (.const (.bool true)) (.tmp 207),none⟩] [1,3,208])
      (.cond (.tmp 208)
       (.seq (.region [
        ⟨some 2,.mov (.const (.str ⟨#[]⟩)),none⟩] [2])
       .ret)
       .skip))
      (.seq (.quiet [
       ⟨some 209,.faddr (.tmp 1) 1,none⟩,
       ⟨some 210,.load (.tmp 209) 1 false .plain,none⟩,
       ⟨some 211,.bin .add (.const (.str ⟨#[104,101,114,101,32]⟩)) (.tmp 210),none⟩,
       ⟨some 212,.bin .add (.tmp 211) (.const (.str ⟨#[32]⟩)),none⟩,
       ⟨some 213,.mov (.tmp 3),none⟩,
       ⟨some 214,.faddr (.tmp 1) 2,none⟩,
       ⟨some 215,.load (.tmp 214) 1 false .plain,none⟩,
       ⟨some 216,.callf (.tmp 213) [false] [.tmp 215],none⟩,
       ⟨some 217,.bin .add (.tmp 212) (.tmp 216),none⟩,
       ⟨some 218,.bin .add (.tmp 217) (.const (.str ⟨#[10]⟩)),none⟩,
       ⟨some 2,.mov (.tmp 218),none⟩] [2])
      .ret))
      .skip))))))))))
 (.seq (.region [
  ⟨some 2,.mov (.const (.str ⟨#[]⟩)),none⟩] [2])
 .ret))
theorem c218_cut:c218=⟨219,[.tmp 2],
 (.seq (.region [
  ⟨some 1,.box (.tmp 0),none⟩,
  ⟨some 2,.mov (.const (.str ⟨#[]⟩)),none⟩] [1])
 (.seq (.region [
  ⟨some 3,.mov (.const (.fn 231)),none⟩] [1,3])
 (.seq (.region [
  ⟨some 11,.faddr (.tmp 1) 4,none⟩,
  ⟨some 12,.load (.tmp 11) 1 false .plain,none⟩,
  ⟨some 13,.call 105 [false] [.tmp 12],none⟩,
  ⟨some 14,.mov (.tmp 13),none⟩,
  ⟨some 15,.faddr (.tmp 1) 4,some (14,true)⟩,
  ⟨some 16,.load (.tmp 15) 1 false .plain,some (14,true)⟩,
  ⟨some 17,.bin .neq (.tmp 16) (.const (.str ⟨#[42]⟩)),some (14,true)⟩,
  ⟨some 18,.pick (.tmp 14) (.tmp 17) (.const (.bool false)),none⟩,
  ⟨some 4,.mov (.tmp 18),none⟩] [1,3,4])
 (.seq (.seq (.region [
  ⟨some 19,.faddr (.tmp 1) 1,none⟩,
  ⟨some 20,.load (.tmp 19) 1 false .plain,none⟩,
  ⟨some 21,.call 105 [false] [.tmp 20],none⟩,
  ⟨some 22,.un .not (.tmp 21),none⟩] [1,3,4,22])
 (.cond (.tmp 22)
  (.seq (.region [
   ⟨some 2,.mov (.const (.str ⟨#[]⟩)),none⟩] [2])
  .ret)
  .skip))
 (.seq (.region [
  ⟨some 23,.faddr (.tmp 1) 3,none⟩,
  ⟨some 24,.load (.tmp 23) 1 false .plain,none⟩,
  ⟨some 25,.len false (.tmp 24),none⟩,
  ⟨some 26,.bin .eql (.tmp 25) (.const (.int .i64 0)),none⟩,
  ⟨some 5,.mov (.tmp 26),none⟩] [1,3,4,5])
 (.seq (.region [
  ⟨some 27,.faddr (.tmp 1) 4,none⟩,
  ⟨some 28,.load (.tmp 27) 1 false .plain,none⟩,
  ⟨some 29,.bin .eql (.tmp 28) (.const (.str ⟨#[]⟩)),none⟩,
  ⟨some 30,.mov (.tmp 29),none⟩,
  ⟨some 31,.faddr (.tmp 1) 5,some (30,true)⟩,
  ⟨some 32,.load (.tmp 31) 1 false .plain,some (30,true)⟩,
  ⟨some 33,.bin .eql (.tmp 32) (.const (.str ⟨#[]⟩)),some (30,true)⟩,
  ⟨some 34,.pick (.tmp 30) (.tmp 33) (.const (.bool false)),none⟩,
  ⟨some 35,.mov (.tmp 34),none⟩,
  ⟨some 36,.faddr (.tmp 1) 6,some (35,true)⟩,
  ⟨some 37,.load (.tmp 36) 1 false .plain,some (35,true)⟩,
  ⟨some 38,.bin .eql (.tmp 37) (.const (.int .i64 0)),some (35,true)⟩,
  ⟨some 39,.pick (.tmp 35) (.tmp 38) (.const (.bool false)),none⟩,
  ⟨some 6,.mov (.tmp 39),none⟩] [1,3,4,5,6])
 sw218))))))⟩:=rfl
def headF(ws:List Want)(i:Nat)(acc:T):St:=hd [(3,.fn 231),(7,.str acc),(69,.sl .bor 7 (ws.map Want.c)),(70,.int .i64 ws.length),(71,.int .i64 i)] [] 0
theorem Zsh(w:Want)(hw:w.fits):joinT [⟨#[119,97,110,116]⟩,w.copy,itoaT w.version,starOr w.hold,itoaT w.pull,itoaT w.start,itoaT w.dies,itoaT w.grace] ⟨#[32]⟩++⟨#[10]⟩=formWant w:=by
 rw[Zbo hw.version.1,Zbo hw.pull.1,Zbo hw.start.1,Zbo hw.dies.1,Zbo hw.grace.1]
 apply Zb6
 simp[joinT,formWant,Lib.join_cons,Lib.joinTail]
theorem Zi0(wd b h c:T)(n:Int)(h1:wd.size<=20)(h2:b.size<=20)(h3:h.size<=20)(h4:c.size<=20)(n0:0<=n)(n1:n<=1000000) :
  joinT [wd,b,h,c,itoaT n] ⟨#[32]⟩++⟨#[10]⟩=wd++⟨#[32]⟩++b++⟨#[32]⟩++h++⟨#[32]⟩++c++⟨#[32]⟩++dec n.toNat++⟨#[10]⟩/\(joinT [wd,b,h,c,itoaT n] ⟨#[32]⟩).size<=200:=by
 have hd:=(law140' n n0 n1).2
 have e:joinT [wd,b,h,c,itoaT n] ⟨#[32]⟩++⟨#[10]⟩=wd++⟨#[32]⟩++b++⟨#[32]⟩++h++⟨#[32]⟩++c++⟨#[32]⟩++dec n.toNat++⟨#[10]⟩:=by
  rw[Zbo n0]
  apply Zb6
  simp[joinT,Lib.join_cons,Lib.joinTail]
 refine⟨e,?_⟩
 have hs:=congrArg ByteArray.size e
 simp only[Zal]at hs
 have z1:(⟨#[32]⟩:T).size=1:=rfl
 have z2:(⟨#[10]⟩:T).size=1:=rfl
 omega
theorem Zqi{fs:List Fr}(ws:List Want)(acc:T)(hl:ws.length<=1048576)(hok:∀ w∈ws,wantOk w=true)(ha:acc.size<=1000)(s:St)(hs:s.norm [3,7,69,70,71]=headF ws 0 acc)(hf:∀ (r:T) (s':St),s'.slots 7=.str r->s'.heap=(fun _=>none)->s'.base=0->fin [.tmp 2] 0 (X F fs (.exit 1,s'))=some (.str r,[])) :
  fin [.tmp 2] 0 (X F (.code (.loop [3,7,69,70,71] c218b0)::fs) (.normal,s))=some (.str (formWants acc ws),[]):=by
 refine (Zab ws (fun i (acc:T)=>headF ws i acc) (fun i acc=>acc.size<=1000+90*i) (fun _ r acc=>(.str (formWants acc r),[])) (fun acc Y hinv=>?_) (fun i w r acc Y hw hi hr hinv hY=>?_) acc hs (by simpa using ha) ?_).trans rfl
 ·simp[headF,c218b0,formWants]
  exact hf acc _ (by simp) rfl rfl
 ·have hw1:IntKind.i64.wrap ((i:Int)+1)=(i:Int)+1:=i64w (by omega) (by omega)
  obtain⟨_,hg⟩:=List.getElem?_eq_some_iff.1 hw
  have hiI:(i:Int)<ws.length:=by omega
  have hwk:=hok w (List.mem_of_getElem? hw)
  have hfit:=Zds hwk
  have hstar:=Zgx hwk
  have hj:=Zsh w hfit
  have hfs:=Zef hfit
  have hjs:(joinT [⟨#[119,97,110,116]⟩,w.copy,itoaT w.version,starOr w.hold,itoaT w.pull,itoaT w.start,itoaT w.dies,itoaT w.grace] ⟨#[32]⟩).size+(⟨#[10]⟩:T).size<=90:=by
   rw[<- Zal,hj];exact hfs
  have a1:=law231 w.version (by have:=hfit.version;omega) (by have:=hfit.version;omega)
  have a2:=law231 w.pull (by have:=hfit.pull;omega) (by have:=hfit.pull;omega)
  have a3:=law231 w.start (by have:=hfit.start;omega) (by have:=hfit.start;omega)
  have a4:=law231 w.dies (by have:=hfit.dies;omega) (by have:=hfit.dies;omega)
  have a5:=law231 w.grace (by have:=hfit.grace;omega) (by have:=hfit.grace;omega)
  have hjl:=law230 [⟨#[119,97,110,116]⟩,w.copy,itoaT w.version,starOr w.hold,itoaT w.pull,itoaT w.start,itoaT w.dies,itoaT w.grace] ⟨#[32]⟩ (by simp) (by omega)
  simp only[List.map_cons,List.map_nil]at hjl
  have e1:(joinT [⟨#[119,97,110,116]⟩,w.copy,itoaT w.version,starOr w.hold,itoaT w.pull,itoaT w.start,itoaT w.dies,itoaT w.grace] ⟨#[32]⟩).size+(⟨#[10]⟩:T).size<=9223372036854775807:=by omega
  have e2:acc.size+(formWant w).size<=9223372036854775807:=by omega
  have hY':=fun s' h=>hY (acc++formWant w) s' (by rw[Zal];omega) h
  simp only[formWants]
  have hst:starOr w.hold=if sEq w.hold ⟨#[]⟩ then ⟨#[42]⟩ else w.hold:=rfl
  cases q:sEq w.hold ⟨#[]⟩
  ·rw[q]at hst
   simp only[Bool.false_eq_true,if_false]at hst
   rw[hst]at hj hjl e1
   simp[headF,c218b0,hiI,hi,hg,hstar,q,a1,a2,a3,a4,a5,hjl,e1,hj,e2]
   exact hY' _ (by simp[headF,hw1])
  ·rw[q]at hst
   simp only[if_true]at hst
   rw[hst]at hj hjl e1
   simp[headF,c218b0,hiI,hi,hg,hstar,q,a1,a2,a3,a4,a5,hjl,e1,hj,e2]
   exact hY' _ (by simp[headF,hw1])
 ·unfold big;omega
theorem Zuq(p:Parcel)(h nh:Bool)(hs:p.small)(hb:isName p.berth=true)(hh:h=true->isName p.hold=true)(s:St)(n:Nat)(s1:s.slots 1=.ptr 0 0 0)(s3:s.slots 3=.fn 231)(s4:s.slots 4=.bool h)(s5:s.slots 5=.bool p.wants.isEmpty)(s6:s.slots 6=.bool nh)
  (h0:s.heap 0=some (.box (p.c .bor))) (hn:s.next=n+1) (hba:s.base=0):fin [.tmp 2] 0 (X F [.code sw218] (.normal,s))=some (.str (formSw p h nh),[]):=by
 have hbs:=Zam hb
 by_cases k1:p.kind=1
 ·cases q1:inR p.seen 1 1000000
  ·simp[sw218,formSw,s1,s3,s4,s5,s6,h0,hn,hba,k1,q1]
  have w2:=law6 p.wants (by have:=hs.wants;unfold big;omega)
  cases q2:wantsOk p.wants
  ·simp[sw218,formSw,s1,s3,s4,s5,s6,h0,hn,hba,k1,q1,q2,w2]
  cases nh
  ·simp[sw218,formSw,s1,s3,s4,s5,s6,h0,hn,hba,k1,q1,q2,w2]
  obtain⟨r1,r2⟩:=Zb3 q1
  have a1:=law231 p.seen (by omega) (by omega)
  rw[Zbo (by omega)]at a1
  have b1:=(law140' p.seen (by omega) (by omega)).2
  have z1:(⟨#[116,111,108,100,32]⟩:T).size=5:=rfl
  have z2:(⟨#[32]⟩:T).size=1:=rfl
  have z3:(⟨#[10]⟩:T).size=1:=rfl
  have y2:(⟨#[116,111,108,100,32]⟩:T).size+(p.berth).size<=9223372036854775807:=by omega
  have y3:(⟨#[116,111,108,100,32]⟩:T).size+(p.berth).size+(⟨#[32]⟩:T).size<=9223372036854775807:=by omega
  have y4:(⟨#[116,111,108,100,32]⟩:T).size+(p.berth).size+(⟨#[32]⟩:T).size+(dec p.seen.toNat).size<=9223372036854775807:=by omega
  have y5:(⟨#[116,111,108,100,32]⟩:T).size+(p.berth).size+(⟨#[32]⟩:T).size+(dec p.seen.toNat).size+(⟨#[10]⟩:T).size<=9223372036854775807:=by omega
  simp[sw218,formSw,s1,s3,s4,s5,s6,h0,hn,hba,k1,q1,q2,w2,a1,y2,y3,y4,y5]
  refine Zqi p.wants (toldHead p) hs.wants (fun w hw=>((Zas _).1 q2).2.1 w hw) ?_ _ ?_ (fun r s' h7 hh hb=>?_)
  ·unfold toldHead
   simp only[Zal]
   omega
  ·simp[headF,toldHead]
  ·simp[h7,hh,hb]
 by_cases k2:p.kind=2
 ·cases h
  ·simp[sw218,formSw,s1,s3,s4,s5,s6,h0,hn,hba,k1,k2]
  have hhs:=Zam (hh rfl)
  cases q1:isName p.copy
  ·simp[sw218,formSw,s1,s3,s4,s5,s6,h0,hn,hba,k1,k2,q1]
  have hcs:=Zam q1
  cases q2:inR p.at_ 0 1000000
  ·simp[sw218,formSw,s1,s3,s4,s5,s6,h0,hn,hba,k1,k2,q1,q2]
  by_cases q3:p.seen=0
  case neg=>simp[sw218,formSw,s1,s3,s4,s5,s6,h0,hn,hba,k1,k2,q1,q2,q3]
  cases q4:p.wants.isEmpty
  ·simp[sw218,formSw,s1,s3,s4,s5,s6,h0,hn,hba,k1,k2,q1,q2,q3,q4]
  obtain⟨r1,r2⟩:=Zb3 q2
  have a1:=law231 p.at_ (by omega) (by omega)
  have b1:=(law140' p.at_ (by omega) (by omega)).2
  obtain⟨hj,hz⟩:=Zi0 (⟨#[97,115,107,101,100]⟩) p.berth p.hold p.copy p.at_ (by decide) hbs hhs hcs r1 r2
  have hjl:=law230 [⟨#[97,115,107,101,100]⟩,p.berth,p.hold,p.copy,itoaT p.at_] ⟨#[32]⟩ (by simp) (by omega)
  simp only[List.map_cons,List.map_nil]at hjl
  have e1:(joinT [⟨#[97,115,107,101,100]⟩,p.berth,p.hold,p.copy,itoaT p.at_] ⟨#[32]⟩).size+(⟨#[10]⟩:T).size<=9223372036854775807:=by
   have:(⟨#[10]⟩:T).size=1:=rfl
   omega
  have u0:IntKind.i64.wrap 0=0:=by decide
  have u1:IntKind.i64.wrap 1=1:=by decide
  have u2:IntKind.i64.wrap 2=2:=by decide
  simp[sw218,formSw,s1,s3,s4,s5,s6,h0,hn,hba,k1,k2,q1,q2,q3,q4,a1,hjl,e1,hj,word,u0,u1,u2]
  exact Zb6 (by simp)
 by_cases k3:p.kind=3
 ·cases h
  ·simp[sw218,formSw,s1,s3,s4,s5,s6,h0,hn,hba,k1,k2,k3]
  have hhs:=Zam (hh rfl)
  cases q1:isName p.copy
  ·simp[sw218,formSw,s1,s3,s4,s5,s6,h0,hn,hba,k1,k2,k3,q1]
  have hcs:=Zam q1
  cases q2:inR p.at_ 0 1000000
  ·simp[sw218,formSw,s1,s3,s4,s5,s6,h0,hn,hba,k1,k2,k3,q1,q2]
  by_cases q3:p.seen=0
  case neg=>simp[sw218,formSw,s1,s3,s4,s5,s6,h0,hn,hba,k1,k2,k3,q1,q2,q3]
  cases q4:p.wants.isEmpty
  ·simp[sw218,formSw,s1,s3,s4,s5,s6,h0,hn,hba,k1,k2,k3,q1,q2,q3,q4]
  obtain⟨r1,r2⟩:=Zb3 q2
  have a1:=law231 p.at_ (by omega) (by omega)
  have b1:=(law140' p.at_ (by omega) (by omega)).2
  obtain⟨hj,hz⟩:=Zi0 (⟨#[103,105,118,101,110]⟩) p.berth p.hold p.copy p.at_ (by decide) hbs hhs hcs r1 r2
  have hjl:=law230 [⟨#[103,105,118,101,110]⟩,p.berth,p.hold,p.copy,itoaT p.at_] ⟨#[32]⟩ (by simp) (by omega)
  simp only[List.map_cons,List.map_nil]at hjl
  have e1:(joinT [⟨#[103,105,118,101,110]⟩,p.berth,p.hold,p.copy,itoaT p.at_] ⟨#[32]⟩).size+(⟨#[10]⟩:T).size<=9223372036854775807:=by
   have:(⟨#[10]⟩:T).size=1:=rfl
   omega
  have u0:IntKind.i64.wrap 0=0:=by decide
  have u1:IntKind.i64.wrap 1=1:=by decide
  have u2:IntKind.i64.wrap 2=2:=by decide
  simp[sw218,formSw,s1,s3,s4,s5,s6,h0,hn,hba,k1,k2,k3,q1,q2,q3,q4,a1,hjl,e1,hj,word,u0,u1,u2]
  exact Zb6 (by simp)
 by_cases k4:p.kind=4
 ·cases h
  ·simp[sw218,formSw,s1,s3,s4,s5,s6,h0,hn,hba,k1,k2,k3,k4]
  have hhs:=Zam (hh rfl)
  cases q1:isName p.copy
  ·simp[sw218,formSw,s1,s3,s4,s5,s6,h0,hn,hba,k1,k2,k3,k4,q1]
  have hcs:=Zam q1
  cases q2:inR p.at_ 0 1000000
  ·simp[sw218,formSw,s1,s3,s4,s5,s6,h0,hn,hba,k1,k2,k3,k4,q1,q2]
  by_cases q3:p.seen=0
  case neg=>simp[sw218,formSw,s1,s3,s4,s5,s6,h0,hn,hba,k1,k2,k3,k4,q1,q2,q3]
  cases q4:p.wants.isEmpty
  ·simp[sw218,formSw,s1,s3,s4,s5,s6,h0,hn,hba,k1,k2,k3,k4,q1,q2,q3,q4]
  obtain⟨r1,r2⟩:=Zb3 q2
  have a1:=law231 p.at_ (by omega) (by omega)
  have b1:=(law140' p.at_ (by omega) (by omega)).2
  obtain⟨hj,hz⟩:=Zi0 (⟨#[98,97,99,107]⟩) p.berth p.hold p.copy p.at_ (by decide) hbs hhs hcs r1 r2
  have hjl:=law230 [⟨#[98,97,99,107]⟩,p.berth,p.hold,p.copy,itoaT p.at_] ⟨#[32]⟩ (by simp) (by omega)
  simp only[List.map_cons,List.map_nil]at hjl
  have e1:(joinT [⟨#[98,97,99,107]⟩,p.berth,p.hold,p.copy,itoaT p.at_] ⟨#[32]⟩).size+(⟨#[10]⟩:T).size<=9223372036854775807:=by
   have:(⟨#[10]⟩:T).size=1:=rfl
   omega
  have u0:IntKind.i64.wrap 0=0:=by decide
  have u1:IntKind.i64.wrap 1=1:=by decide
  have u2:IntKind.i64.wrap 2=2:=by decide
  simp[sw218,formSw,s1,s3,s4,s5,s6,h0,hn,hba,k1,k2,k3,k4,q1,q2,q3,q4,a1,hjl,e1,hj,word,u0,u1,u2]
  exact Zb6 (by simp)
 by_cases k5:p.kind=5
 ·cases h
  ·simp[sw218,formSw,s1,s3,s4,s5,s6,h0,hn,hba,k1,k2,k3,k4,k5]
  have hhs:=Zam (hh rfl)
  cases q1:sEq p.copy ⟨#[]⟩
  ·simp[sw218,formSw,s1,s3,s4,s5,s6,h0,hn,hba,k1,k2,k3,k4,k5,q1]
  cases q2:inR p.at_ 0 1000000
  ·simp[sw218,formSw,s1,s3,s4,s5,s6,h0,hn,hba,k1,k2,k3,k4,k5,q1,q2]
  by_cases q3:p.seen=0
  case neg=>simp[sw218,formSw,s1,s3,s4,s5,s6,h0,hn,hba,k1,k2,k3,k4,k5,q1,q2,q3]
  cases q4:p.wants.isEmpty
  ·simp[sw218,formSw,s1,s3,s4,s5,s6,h0,hn,hba,k1,k2,k3,k4,k5,q1,q2,q3,q4]
  obtain⟨r1,r2⟩:=Zb3 q2
  have a1:=law231 p.at_ (by omega) (by omega)
  rw[Zbo r1]at a1
  have b1:=(law140' p.at_ (by omega) (by omega)).2
  have z1:(⟨#[103,111,116,98,97,99,107,32]⟩:T).size=8:=rfl
  have z2:(⟨#[32]⟩:T).size=1:=rfl
  have z3:(⟨#[10]⟩:T).size=1:=rfl
  have y2:(⟨#[103,111,116,98,97,99,107,32]⟩:T).size+(p.berth).size<=9223372036854775807:=by omega
  have y3:(⟨#[103,111,116,98,97,99,107,32]⟩:T).size+(p.berth).size+(⟨#[32]⟩:T).size<=9223372036854775807:=by omega
  have y4:(⟨#[103,111,116,98,97,99,107,32]⟩:T).size+(p.berth).size+(⟨#[32]⟩:T).size+(p.hold).size<=9223372036854775807:=by omega
  have y5:(⟨#[103,111,116,98,97,99,107,32]⟩:T).size+(p.berth).size+(⟨#[32]⟩:T).size+(p.hold).size+(⟨#[32]⟩:T).size<=9223372036854775807:=by omega
  have y6:(⟨#[103,111,116,98,97,99,107,32]⟩:T).size+(p.berth).size+(⟨#[32]⟩:T).size+(p.hold).size+(⟨#[32]⟩:T).size+(dec p.at_.toNat).size<=9223372036854775807:=by omega
  have y7:(⟨#[103,111,116,98,97,99,107,32]⟩:T).size+(p.berth).size+(⟨#[32]⟩:T).size+(p.hold).size+(⟨#[32]⟩:T).size+(dec p.at_.toNat).size+(⟨#[10]⟩:T).size<=9223372036854775807:=by omega
  simp[sw218,formSw,s1,s3,s4,s5,s6,h0,hn,hba,k1,k2,k3,k4,k5,q1,q2,q3,q4,a1,y2,y3,y4,y5,y6,y7]
 by_cases k6:p.kind=6
 ·cases q1:inR p.seen 0 1000000
  ·simp[sw218,formSw,s1,s3,s4,s5,s6,h0,hn,hba,k1,k2,k3,k4,k5,k6,q1]
  cases q4:p.wants.isEmpty
  ·simp[sw218,formSw,s1,s3,s4,s5,s6,h0,hn,hba,k1,k2,k3,k4,k5,k6,q1,q4]
  cases nh
  ·simp[sw218,formSw,s1,s3,s4,s5,s6,h0,hn,hba,k1,k2,k3,k4,k5,k6,q1,q4]
  obtain⟨r1,r2⟩:=Zb3 q1
  have a1:=law231 p.seen (by omega) (by omega)
  rw[Zbo r1]at a1
  have b1:=(law140' p.seen (by omega) (by omega)).2
  have z1:(⟨#[104,101,114,101,32]⟩:T).size=5:=rfl
  have z2:(⟨#[32]⟩:T).size=1:=rfl
  have z3:(⟨#[10]⟩:T).size=1:=rfl
  have y2:(⟨#[104,101,114,101,32]⟩:T).size+(p.berth).size<=9223372036854775807:=by omega
  have y3:(⟨#[104,101,114,101,32]⟩:T).size+(p.berth).size+(⟨#[32]⟩:T).size<=9223372036854775807:=by omega
  have y4:(⟨#[104,101,114,101,32]⟩:T).size+(p.berth).size+(⟨#[32]⟩:T).size+(dec p.seen.toNat).size<=9223372036854775807:=by omega
  have y5:(⟨#[104,101,114,101,32]⟩:T).size+(p.berth).size+(⟨#[32]⟩:T).size+(dec p.seen.toNat).size+(⟨#[10]⟩:T).size<=9223372036854775807:=by omega
  simp[sw218,formSw,s1,s3,s4,s5,s6,h0,hn,hba,k1,k2,k3,k4,k5,k6,q1,q4,a1,y2,y3,y4,y5]
 ·simp[sw218,formSw,s1,s3,s4,s5,s6,h0,hn,hba,k1,k2,k3,k4,k5,k6]
theorem law218(p:Parcel)(hs:p.small):F 218 [.agg (p.c .bor)] []=some (.str (parcelForm p),[]):=by
 refine Zah fn218 rfl ?_
 unfold parcelForm
 rw[c218_cut]
 have hz:((p.wants.length:Int) == 0)=p.wants.isEmpty:=by
  cases p.wants with
  | nil=>rfl
  | cons x xs =>
   have:¬ (((x::xs).length:Int)=0):=by simp;omega
   simpa using this
 cases qb:isName p.berth
 ·cases qh:isName p.hold
  ·simp[qb,qh]
  ·simp[qb,qh]
 have key:∀ (h nh:Bool) (s:St) (n:Nat),h=isHold p.hold->nh=noHold p->s.slots 1=.ptr 0 0 0->s.slots 3=.fn 231->s.slots 4=.bool h->s.slots 5=.bool p.wants.isEmpty->s.slots 6=.bool nh->s.heap 0=some (.box (p.c .bor))->s.next=n+1->s.base=0 ->
   fin [.tmp 2] 0 (X F [.code sw218] (.normal,s))=some (.str (formSw p (isHold p.hold) (noHold p)),[]):=fun h nh s n e1 e2 s1 s3 s4 s5 s6 h0 hn hba=>by
  subst e1;subst e2
  exact Zuq p _ _ hs qb (fun e=>by simp only[isHold,Bool.and_eq_true]at e;exact e.1) s n s1 s3 s4 s5 s6 h0 hn hba
 cases qh:isName p.hold
 ·have eh:isHold p.hold=false:=by simp[isHold,qh]
  cases e1:sEq p.hold ⟨#[]⟩
  ·have en:noHold p=false:=by simp[noHold,e1]
   simp[qb,qh,e1,hz]
   exact key false false _ _ eh.symm en.symm (by simp) (by simp) (by simp) (by simp) (by simp) (by simp) rfl rfl
  cases e2:sEq p.copy ⟨#[]⟩
  ·have en:noHold p=false:=by simp[noHold,e1,e2]
   simp[qb,qh,e1,e2,hz]
   exact key false false _ _ eh.symm en.symm (by simp) (by simp) (by simp) (by simp) (by simp) (by simp) rfl rfl
  by_cases e3:p.at_=0
  ·have en:noHold p=true:=by simp[noHold,e1,e2,e3]
   simp[qb,qh,e1,e2,e3,hz]
   exact key false true _ _ eh.symm en.symm (by simp) (by simp) (by simp) (by simp) (by simp) (by simp[e3]) rfl rfl
  ·have en:noHold p=false:=by simp[noHold,e1,e2,e3]
   simp[qb,qh,e1,e2,e3,hz]
   exact key false false _ _ eh.symm en.symm (by simp) (by simp) (by simp) (by simp) (by simp[e3]) (by simp) rfl rfl
 cases qs:sEq p.hold ⟨#[42]⟩
 ·have eh:isHold p.hold=true:=by simp[isHold,qh,qs]
  cases e1:sEq p.hold ⟨#[]⟩
  ·have en:noHold p=false:=by simp[noHold,e1]
   simp[qb,qh,qs,e1,hz]
   exact key true false _ _ eh.symm en.symm (by simp) (by simp) (by simp) (by simp) (by simp) (by simp) rfl rfl
  cases e2:sEq p.copy ⟨#[]⟩
  ·have en:noHold p=false:=by simp[noHold,e1,e2]
   simp[qb,qh,qs,e1,e2,hz]
   exact key true false _ _ eh.symm en.symm (by simp) (by simp) (by simp) (by simp) (by simp) (by simp) rfl rfl
  by_cases e3:p.at_=0
  ·have en:noHold p=true:=by simp[noHold,e1,e2,e3]
   simp[qb,qh,qs,e1,e2,e3,hz]
   exact key true true _ _ eh.symm en.symm (by simp) (by simp) (by simp) (by simp) (by simp) (by simp[e3]) rfl rfl
  ·have en:noHold p=false:=by simp[noHold,e1,e2,e3]
   simp[qb,qh,qs,e1,e2,e3,hz]
   exact key true false _ _ eh.symm en.symm (by simp) (by simp) (by simp) (by simp) (by simp[e3]) (by simp) rfl rfl
 ·have eh:isHold p.hold=false:=by simp[isHold,qh,qs]
  cases e1:sEq p.hold ⟨#[]⟩
  ·have en:noHold p=false:=by simp[noHold,e1]
   simp[qb,qh,qs,e1,hz]
   exact key false false _ _ eh.symm en.symm (by simp) (by simp) (by simp) (by simp) (by simp) (by simp) rfl rfl
  cases e2:sEq p.copy ⟨#[]⟩
  ·have en:noHold p=false:=by simp[noHold,e1,e2]
   simp[qb,qh,qs,e1,e2,hz]
   exact key false false _ _ eh.symm en.symm (by simp) (by simp) (by simp) (by simp) (by simp) (by simp) rfl rfl
  by_cases e3:p.at_=0
  ·have en:noHold p=true:=by simp[noHold,e1,e2,e3]
   simp[qb,qh,qs,e1,e2,e3,hz]
   exact key false true _ _ eh.symm en.symm (by simp) (by simp) (by simp) (by simp) (by simp) (by simp[e3]) rfl rfl
  ·have en:noHold p=false:=by simp[noHold,e1,e2,e3]
   simp[qb,qh,qs,e1,e2,e3,hz]
   exact key false false _ _ eh.symm en.symm (by simp) (by simp) (by simp) (by simp) (by simp[e3]) (by simp) rfl rfl
structure RunIs(r:Run)(c:Int):Prop where
 want:wantOk r.want=true
 state:1<=r.state/\r.state<=6
 left:0<=r.left/\r.left<=100
 rest:r.state=2->r.left=0
 falls:0<=r.falls/\r.falls<=1000
 til:0<=r.til/\r.til<=1000016
 free:r.want.hold=⟨#[]⟩->r.til=0
 lease:alive r=true->r.want.hold≠⟨#[]⟩->c+4<=r.til
theorem Zdf{r:Run}{c:Int}(hc:0<=c/\c<=1000000):leased r c=true↔(r.want.hold≠⟨#[]⟩->c+4<=r.til):=by
 have w:IntKind.i64.wrap (c+4)=c+4:=i64w (by omega) (by omega)
 simp only[leased,leasedB,w,Bool.or_eq_true,decide_eq_true_eq,Zac]
 constructor
 ·intro h hn
  rcases h with h|h
  ·exact absurd h hn
  ·exact h
 ·intro h
  by_cases q:r.want.hold=⟨#[]⟩
  ·exact .inl q
  ·exact .inr (h q)
theorem Zg2{r:Run}{c:Int}(hc:0<=c/\c<=1000000):runOk r c=true↔RunIs r c:=by
 have hl:=Zdf (r:=r) hc
 constructor
 ·intro h
  simp only[runOk,Bool.and_eq_true,inR,decide_eq_true_eq]at h
  obtain⟨h1,h2,h3,h4,h5,h6,h7,h8⟩:=h
  refine⟨h1,h2,h3,fun e=>?_,h5,h6,fun e=>?_,fun e hn=>?_⟩
  ·simpa [e] using h4
  ·simpa [(Zac _ _).2 e] using h7
  ·simp only[e,Bool.not_true,Bool.false_or]at h8
   exact hl.1 h8 hn
 ·intro h
  simp only[runOk,Bool.and_eq_true,inR,decide_eq_true_eq]
  refine⟨h.want,h.state,h.left,?_,h.falls,h.til,?_,?_⟩
  ·by_cases e:r.state=2
   ·simp[e,h.rest e]
   ·simp[e]
  ·by_cases e:r.want.hold=⟨#[]⟩
   ·simp[h.free e]
   ·simp[Zad e]
  ·cases e:alive r
   ·rfl
   ·simp only[Bool.not_true,Bool.false_or]
    exact hl.2 (h.lease e)
theorem RunIs.wd{r:Run}{c c':Int}(h:RunIs r c)(hc:0<=c'/\c'<=1000000):RunIs (wd c' r) c':=by
 unfold YtfemiipgkhekiaaGreatDoor.wd
 split
 ·exact⟨h.want,by simp,by simp,fun _=>rfl,h.falls,h.til,h.free,fun e=>by simp[alive]at e⟩
 ·rename_i q
  refine⟨h.want,h.state,h.left,h.rest,h.falls,h.til,h.free,fun e=>?_⟩
  simp only[e,Bool.true_and,Bool.not_eq_true',Bool.not_eq_false]at q
  exact (Zdf hc).1 q
theorem Zb4{w:Want}(h:wantOk w=true):isName w.copy=true/\(w.hold=⟨#[]⟩\/isHold w.hold=true)/\(0<=w.pull/\w.pull<=100)/\(0<=w.start/\w.start<=100)/\(0<=w.dies/\w.dies<=100)/\(0<=w.grace/\w.grace<=100):=by
 simp only[wantOk,Bool.and_eq_true,Bool.or_eq_true,inR,decide_eq_true_eq,Zac]at h
 obtain⟨⟨⟨⟨⟨⟨h1,h2⟩,h3⟩,h4⟩,h5⟩,h6⟩,h7⟩:=h
 exact⟨h1,h3,h4,h5,h6,h7⟩
theorem Zri(f:Int):0<=leftOf f/\leftOf f<=100:=by
 unfold leftOf
 repeat' split
 all_goals omega
theorem Zoq{f:Int}(h:0<=f/\f<=1000):0<=fallsUp f/\fallsUp f<=1000:=by
 unfold fallsUp
 split<;>omega
theorem RunIs.begin{r:Run}{c:Int}(h:RunIs r c)(hc:0<=c/\c<=1000000):RunIs (beginR r c) c:=by
 obtain⟨_,_,_,hs,_,_⟩:=Zb4 h.want
 unfold beginR
 split
 ·rename_i q
  exact⟨h.want,by simp,hs,fun e=>by simp at e,h.falls,h.til,h.free,fun _=>(Zdf hc).1 q⟩
 ·exact⟨h.want,by simp,by simp,fun _=>rfl,h.falls,h.til,h.free,fun e=>by simp[alive]at e⟩
theorem RunIs.live{r r':Run}{w:Want}{b:Bool}{c:Int}(h:RunIs r c)(hc:0<=c/\c<=1000000)(e:mateLive r w b c=some r'):RunIs r' c/\r'.want=r.want:=by
 obtain⟨_,_,_,_,hd,hg⟩:=Zb4 h.want
 unfold mateLive at e
 split at e
 ·split at e
  ·rename_i ha
   rw[<- Option.some.inj e]
   exact⟨⟨h.want,by simp,hg,fun e=>by simp at e,h.falls,h.til,h.free,fun _=>h.lease ha⟩,rfl⟩
  ·cases e
 split at e
 ·rename_i q
  rw[<- Option.some.inj e]
  have:=h.left
  exact⟨⟨h.want,h.state,by simp only;omega,fun e=>absurd e q.1,h.falls,h.til,h.free,fun e=>h.lease e⟩,rfl⟩
 split at e
 ·rename_i q
  rw[<- Option.some.inj e]
  exact⟨⟨h.want,by simp,hd,fun e=>by simp at e,h.falls,h.til,h.free,fun _=>h.lease (by simp[alive,aliveS,q])⟩,rfl⟩
 split at e
 ·split at e
  ·rw[<- Option.some.inj e]
   exact⟨⟨h.want,by simp[dies],Zri _,fun e=>by simp[dies]at e,Zoq h.falls,h.til,h.free,fun e=>by simp[dies,alive,aliveS]at e⟩,rfl⟩
  ·rw[<- Option.some.inj e]
   exact⟨h,rfl⟩
 split at e
 ·cases e
 split at e
 ·rw[<- Option.some.inj e]
  exact⟨h.begin hc,by unfold beginR;split<;>rfl⟩
 ·rw[<- Option.some.inj e]
  exact⟨h,rfl⟩
structure AskIs(a:Ask)(c:Int):Prop where
 hold:isHold a.hold=true
 copy:isName a.copy=true
 first:0<=a.first
 order:a.first<=a.at_
 at_:a.at_<=c
theorem Zky{a:Ask}{c:Int}:askOk c a=true↔AskIs a c:=by
 simp only[askOk,Bool.and_eq_true,decide_eq_true_eq]
 exact⟨fun h=>⟨h.1,h.2.1,h.2.2.1,h.2.2.2.1,h.2.2.2.2⟩,fun h=>⟨h.hold,h.copy,h.first,h.order,h.at_⟩⟩
structure AsksIs(l:List Ask)(c:Int):Prop where
 len:l.length<=40
 all:∀ a∈l,AskIs a c
 asc:Asc Ask.k l
theorem Zh7{l:List Ask}{c:Int}:asksOk l c=true↔AsksIs l c:=by
 rw[Zes]
 exact⟨fun h=>⟨h.1,fun a ha=>Zky.1 (h.2.1 a ha),h.2.2⟩,fun h=>⟨h.len,fun a ha=>Zky.2 (h.all a ha),h.asc⟩⟩
theorem AsksIs.later{l:List Ask}{c c':Int}(h:AsksIs l c)(hc:c<=c'):AsksIs l c' :=
 ⟨h.len,fun a ha=>⟨(h.all a ha).hold,(h.all a ha).copy,(h.all a ha).first,(h.all a ha).order,Int.le_trans (h.all a ha).at_ hc⟩,h.asc⟩
theorem AsksIs.drop{l:List Ask}{c:Int}(h:AsksIs l c)(k:T):AsksIs (dropHold l k) c :=
 ⟨Nat.le_trans (List.length_filter_le _ _) h.len,fun a ha=>h.all a (List.mem_filter.1 ha).1,h.asc.filter _⟩
theorem AsksIs.put{l:List Ask}{c:Int}(h:AsksIs l c){a:Ask}(ha:AskIs a c)(hl:l.length<40):AsksIs (putBy Ask.k a l) c :=
 ⟨by have:=Zax Ask.k a l;omega,fun b hb=>by
  rcases Zav Ask.k hb with rfl|hb
  ·exact ha
  ·exact h.all b hb,Zap Ask.k h.asc⟩
def ApartIs(x y:List Ask):Prop:=∀ a∈x,∀ b∈y,a.hold≠b.hold
theorem Zp6{x y:List Ask}:apartGo y x=true↔ApartIs x y:=by
 unfold apartGo ApartIs
 rw[List.all_eq_true]
 constructor
 ·intro h a ha b hb e
  have:=h a ha
  simp only[decide_eq_true_eq]at this
  rcases Zca y a.hold with ⟨_,hno⟩|⟨k,hk,e1,_⟩
  ·have:=hno b hb
   rw[(Zac _ _).2 e.symm]at this
   cases this
  ·omega
 ·intro h a ha
  simp only[decide_eq_true_eq]
  rcases Zca y a.hold with ⟨e1,_⟩|⟨k,hk,e1,e2,_⟩
  ·omega
  ·exact absurd ((Zac _ _).1 e2).symm (h a ha _ (List.getElem_mem hk))
structure MateIs(m:Mate):Prop where
 name:isName m.name=true
 clock:0<=m.clock/\m.clock<=1000000
 seen:0<=m.seen/\m.seen<=1000000
 wants:wantsOk m.wants=true
 known:m.known=true\/m.wants=[]
 runsN:m.runs.length<=20
 runs:∀ r∈m.runs,RunIs r m.clock
 asc:Asc Run.k m.runs
 asks:AsksIs m.asks m.clock
 gives:AsksIs m.gives m.clock
 apart:ApartIs m.asks m.gives
 down:m.up=true\/(m.known=false/\m.asks=[]/\m.gives=[]/\m.seen=0/\∀ r∈m.runs,alive r=true\/r.want.hold≠⟨#[]⟩)
theorem Zai{m:Mate}:mateValid m=true↔MateIs m:=by
 rw[Za1,Zbk,Zdb,Zh7,Zh7,Zp6]
 simp only[mateDown,downRuns,Bool.and_eq_true,Bool.not_eq_true',List.isEmpty_iff,beq_iff_eq,List.all_eq_true,Bool.or_eq_true,inR,decide_eq_true_eq]
 constructor
 ·rintro⟨⟨h1,h2,h3,h4,h5,⟨r1,r2,r3⟩,h7,h8⟩,h9,h10⟩
  refine⟨h1,h2,h3,h4,h5,r1,fun r hr=>(Zg2 h2).1 (r2 r hr),r3,h7,h8,h9,?_⟩
  rcases h10 with h|⟨a1,⟨a2,a3⟩,a4,a5⟩
  ·exact .inl h
  ·refine .inr ⟨a1,a2,a3,a4,fun r hr=>?_⟩
   rcases a5 r hr with h|h
   ·exact .inl h
   ·refine .inr fun e=>?_
    rw[(Zac _ _).2 e]at h
    cases h
 ·intro h
  refine⟨⟨h.name,h.clock,h.seen,h.wants,h.known,⟨h.runsN,fun r hr=>(Zg2 h.clock).2 (h.runs r hr),h.asc⟩,h.asks,h.gives⟩,h.apart,?_⟩
  rcases h.down with q|⟨a1,a2,a3,a4,a5⟩
  ·exact .inl q
  ·refine .inr ⟨a1,⟨a2,a3⟩,a4,fun r hr=>?_⟩
   rcases a5 r hr with q|q
   ·exact .inl q
   ·exact .inr (Zad q)
theorem Zq5{m:Mate}{rate:Int}(h:MateIs m)(h0:0<=rate)(hc:m.clock+rate<=1000000):MateIs (tickOn m rate):=by
 have hk:=h.clock
 have hc':0<=m.clock+rate/\m.clock+rate<=1000000:=⟨by omega,hc⟩
 refine⟨h.name,hc',h.seen,h.wants,h.known,by simpa [tickOn] using h.runsN,fun r hr=>?_,Zqk h.asc,h.asks.later (by simp only[tickOn];omega),h.gives.later (by simp only[tickOn];omega),h.apart,?_⟩
 ·obtain⟨r0,k1,rfl⟩:=List.mem_map.1 hr
  exact (h.runs r0 k1).wd hc'
 ·rcases h.down with q|⟨a1,a2,a3,a4,a5⟩
  ·exact .inl q
  ·refine .inr ⟨a1,a2,a3,a4,fun r hr=>?_⟩
   obtain⟨r0,k1,rfl⟩:=List.mem_map.1 hr
   rw[Zl9]
   by_cases q:r0.want.hold=⟨#[]⟩
   ·refine .inl ?_
    have ha:=(a5 r0 k1).resolve_right (fun n=>n q)
    have hl:=(Zdf (r:=r0) hc').2 fun n=>absurd q n
    simp[wd,ha,hl]
   ·exact .inr q
structure LvIs(s:LV)(c:Int):Prop where
 runs:∀ r∈s.runs,RunIs r c
 asks:AsksIs s.asks c
 gives:AsksIs s.gives c
 apart:ApartIs s.asks s.gives
theorem Zqb{h:T}{s:LV}{c:Int}(hs:LvIs s c):LvIs (giveUp h s) c:=by
 unfold giveUp
 split
 ·exact hs
 ·split
  ·exact hs
  ·rename_i a e
   have ha:=List.mem_of_find?_eq_some e
   have hh:a.hold=h:=(Zac _ _).1 (by simpa using List.find?_some e)
   refine⟨hs.runs,hs.asks.drop h,?_,?_⟩
   ·simp only
    split
    ·exact hs.gives.put (hs.asks.all a ha) (by assumption)
    ·exact hs.gives
   ·intro x hx y hy
    obtain⟨x1,x2⟩:=List.mem_filter.1 hx
    simp only at hy
    split at hy
    ·rcases Zav Ask.k hy with rfl|hy
     ·intro q
      rw[(Zac _ _).2 (q.trans hh)]at x2
      cases x2
     ·exact hs.apart x x1 y hy
    ·exact hs.apart x x1 y hy
theorem Zm4{c:Int}(hc:0<=c/\c<=1000000)(ws:List Want):∀ (rs:List Run) (s:LV),(∀ r∈rs,RunIs r c)->LvIs s c->LvIs (rs.foldl (liveStep c ws) s) c
 | [],_,_,h=>h
 | r::rs,s,hr,h=>by
  refine Zm4 hc ws rs _ (fun r hm=>hr r (List.mem_cons_of_mem _ hm)) ?_
  unfold liveStep
  split
  ·rename_i n e
   refine⟨fun x hx=>?_,h.asks,h.gives,h.apart⟩
   rcases List.mem_append.1 hx with hx|hx
   ·exact h.runs x hx
   ·rw[List.mem_singleton.1 hx]
    exact ((hr r List.mem_cons_self).live hc e).1
  ·exact Zqb h
theorem Zrl{w:Want}{c:Int}(h:wantOk w=true):RunIs (newRun w) c:=by
 obtain⟨_,_,hp,_⟩:=Zb4 h
 exact⟨h,by simp[newRun],hp,fun e=>by simp[newRun]at e,by simp[newRun],by simp[newRun],fun _=>rfl,fun e=>by simp[newRun,alive,aliveS]at e⟩
theorem Zgn{c:Int}:∀ (ws:List Want) (rs:List Run),(∀ w∈ws,wantOk w=true)->(∀ r∈rs,RunIs r c)->∀ r∈ws.foldl addRun rs,RunIs r c
 | [],_,_,h=>h
 | w::ws,rs,hw,h=>by
  refine Zgn ws _ (fun x hx=>hw x (List.mem_cons_of_mem _ hx)) fun r hr=>?_
  unfold addRun at hr
  split at hr
  ·exact h r hr
  ·rcases Zav Run.k hr with rfl|hr
   ·exact Zrl (hw w List.mem_cons_self)
   ·exact h r hr
theorem Zq6{m:Mate}(h:MateIs m)(hu:m.up=true):MateIs (mLives m):=by
 have h0:=Zm4 h.clock m.wants m.runs ⟨[],m.asks,m.gives⟩ h.runs ⟨fun r hr=>by simp at hr,h.asks,h.gives,h.apart⟩
 have h1:=Zdu m.clock m.wants m.runs ⟨[],m.asks,m.gives⟩
 have r:=h.runsN
 obtain⟨a1,a2⟩:=Ze9 m.wants (livesOf m).runs (by unfold livesOf;simp only[List.length_nil]at h1;omega) (Zdt h.asc)
 have hw:=((Zas _).1 h.wants).2.1
 exact⟨h.name,h.clock,h.seen,h.wants,h.known,a1,Zgn _ _ hw h0.runs,a2,h0.asks,h0.gives,h0.apart,.inl hu⟩
theorem Zog{n:T}{c:Int}{r:Run}(hn:isName n=true)(hc:0<=c/\c<=1000000)(h1:isHold r.want.hold=true)(h2:isName r.want.copy=true):parcelForm (asked n c r)≠⟨#[]⟩:=by
 intro e
 have:=congrArg ByteArray.size e
 have z0:(⟨#[]⟩:T).size=0:=rfl
 have z1:(⟨#[10]⟩:T).size=1:=rfl
 simp[parcelForm,formSw,asked,hn,h1,h2,inR,hc.1,hc.2,word,Zal]at this
 omega
theorem Zq2{n:T}{c:Int}{a:Ask}(hn:isName n=true)(hc:0<=c/\c<=1000000)(h:AskIs a c):parcelForm (backP n a)≠⟨#[]⟩:=by
 intro e
 have:=congrArg ByteArray.size e
 have z0:(⟨#[]⟩:T).size=0:=rfl
 have z1:(⟨#[10]⟩:T).size=1:=rfl
 have h1:=h.first
 have h2:=h.order
 have h3:=h.at_
 have h4:0<=a.at_:=by omega
 have h5:a.at_<=1000000:=by omega
 simp[parcelForm,formSw,backP,hn,h.hold,h.copy,inR,h4,h5,word,Zal]at this
 omega
theorem Zpo{m:Mate}(hn:isName m.name=true)(hs:0<=m.seen/\m.seen<=1000000):parcelForm (hereP m)≠⟨#[]⟩:=by
 intro e
 have:=congrArg ByteArray.size e
 have z0:(⟨#[]⟩:T).size=0:=rfl
 have z1:(⟨#[10]⟩:T).size=1:=rfl
 simp[parcelForm,formSw,hereP,hn,noHold,inR,hs.1,hs.2,Zal,(Zac (⟨#[]⟩:T) _).2 rfl]at this
 omega
theorem Zls{ws:List Want}{gs:List Ask}{r:Run}(h:asksHold ws gs r=true)(hw:wantOk r.want=true):isHold r.want.hold=true/\isName r.want.copy=true/\∀ b∈gs,b.hold≠r.want.hold:=by
 simp only[asksHold,Bool.and_eq_true,Bool.not_eq_true',Option.isNone_iff_eq_none]at h
 obtain⟨_,h2,h3⟩:=h
 obtain⟨w1,w2,_⟩:=Zb4 hw
 refine⟨w2.resolve_left fun e=>?_,w1,fun b hb e=>?_⟩
 ·rw[(Zac _ _).2 e]at h2;cases h2
 ·have:=List.find?_eq_none.1 h3 b hb
  exact this ((Zac _ _).2 e)
theorem Zlm{c:Int}{r:Run}{l:List Ask}{a:Ask}(hc:0<=c/\c<=1000000)(e:freshAsk c r l=some a)(hl:AsksIs l c)(h1:isHold r.want.hold=true)(h2:isName r.want.copy=true):AskIs a c/\a.hold=r.want.hold:=by
 unfold freshAsk at e
 split at e
 ·rename_i b eb
  have hb:=hl.all b (List.mem_of_find?_eq_some eb)
  split at e
  ·split at e
   ·cases e
   ·rw[<- Option.some.inj e]
    exact⟨⟨h1,h2,hb.first,Int.le_trans hb.order hb.at_,Int.le_refl _⟩,rfl⟩
  ·rw[<- Option.some.inj e]
   exact⟨⟨h1,h2,hc.1,Int.le_refl _,Int.le_refl _⟩,rfl⟩
 ·rw[<- Option.some.inj e]
  exact⟨⟨h1,h2,hc.1,Int.le_refl _,Int.le_refl _⟩,rfl⟩
theorem Zp1{m:Mate}(h:MateIs m):∀ (rs:List Run) (s:List Ask×List Parcel),(∀ r∈rs,RunIs r m.clock)->s.1.length+rs.length<=40->AsksIs s.1 m.clock->ApartIs s.1 m.gives->(∀ p∈s.2,parcelForm p≠⟨#[]⟩) ->
  AsksIs (rs.foldl (askStep m) s).1 m.clock/\ApartIs (rs.foldl (askStep m) s).1 m.gives/\∀ p∈(rs.foldl (askStep m) s).2,parcelForm p≠⟨#[]⟩
 | [],_,_,_,h1,h2,h3=>⟨h1,h2,h3⟩
 | r::rs,s,hr,hl,h1,h2,h3=>by
  rw[List.length_cons]at hl
  have hr0:=hr r List.mem_cons_self
  have hk:((askStep m s r).1.length<=s.1.length+1)/\AsksIs (askStep m s r).1 m.clock/\ApartIs (askStep m s r).1 m.gives/\∀ p∈(askStep m s r).2,parcelForm p≠⟨#[]⟩:=by
   unfold askStep
   split
   ·rename_i q
    obtain⟨q1,q2,q3⟩:=Zls q hr0.want
    split
    ·rename_i a e
     obtain⟨a1,a2⟩:=Zlm h.clock e h1 q1 q2
     refine⟨Zax _ _ _,h1.put a1 (by omega),fun x hx y hy=>?_,fun p hp=>?_⟩
     ·rcases Zav Ask.k hx with rfl|hx
      ·rw[a2];exact (q3 y hy).symm
      ·exact h2 x hx y hy
     ·rcases List.mem_append.1 hp with hp|hp
      ·exact h3 p hp
      ·rw[List.mem_singleton.1 hp]
       exact Zog h.name h.clock q1 q2
    ·exact⟨Nat.le_succ _,h1,h2,h3⟩
   ·exact⟨Nat.le_succ _,h1,h2,h3⟩
  exact Zp1 h rs _ (fun r hm=>hr r (List.mem_cons_of_mem _ hm)) (by omega) hk.2.1 hk.2.2.1 hk.2.2.2
theorem Zst{m:Mate}(h:MateIs m)(hu:m.up=true)(ha:m.asks.length<=20):MateIs (mAsks m)/\∀ p∈(asksOf m).2,parcelForm p≠⟨#[]⟩:=by
 have r:=h.runsN
 obtain⟨a1,a2,a3⟩:=Zp1 h m.runs (m.asks,[]) h.runs (by simp only;omega) h.asks h.apart (fun p hp=>by simp at hp)
 exact⟨⟨h.name,h.clock,h.seen,h.wants,h.known,h.runsN,h.runs,h.asc,a1,h.gives,a2,.inl hu⟩,a3⟩
theorem Zt3{m:Mate}{rate:Int}(h:MateIs m)(ha:m.asks.length<=20) :
  MateIs (mateTick m rate).1/\m.clock<=(mateTick m rate).1.clock/\∀ p∈(mateTick m rate).2,parcelForm p≠⟨#[]⟩:=by
 have hv:=Zai.2 h
 have hk:=h.clock
 unfold mateTick
 rw[if_pos hv]
 split
 case isFalse=>exact⟨h,Int.le_refl _,fun p hp=>by simp at hp⟩
 rename_i hr
 simp only[inR,Bool.and_eq_true,decide_eq_true_eq]at hr
 split
 ·have hf:=Zai.1 (Zin true hv)
  have ef:mateFall m true={ Mate.zero with name:=m.name,clock:=m.clock,runs:=m.runs.filterMap (fallRun true) }:=if_pos hv
  rw[ef]at hf ⊢
  have dead:∀ r∈m.runs.filterMap (fallRun true),alive r=false:=fun r hr=>by
   obtain⟨r0,k1,k2⟩:=List.mem_filterMap.1 hr
   simpa using (Ze0 ((Zg2 hk).2 (h.runs r0 k1)) k2).2.2.2.1
  refine⟨⟨hf.name,by simp,hf.seen,hf.wants,hf.known,hf.runsN,fun r hr=>?_,hf.asc,?_,?_,hf.apart,hf.down⟩,hk.2,fun p hp=>by simp at hp⟩
  ·have q:=hf.runs r hr
   exact⟨q.want,q.state,q.left,q.rest,q.falls,q.til,q.free,fun e=>by rw[dead r hr]at e;cases e⟩
  ·exact hf.asks.later hk.2
  ·exact hf.gives.later hk.2
 rename_i hc
 have h1:=Zq5 h (rate:=rate) (by omega) (by omega)
 split
 case isFalse=>exact⟨h1,by simp only[tickOn];omega,fun p hp=>by simp at hp⟩
 rename_i hu
 have key:∀ x:Mate,MateIs x->x.up=true->x.asks.length<=20->x.clock=m.clock+rate->MateIs (mAsks x)/\m.clock<=(mAsks x).clock/\∀ p∈tickOut x,parcelForm p≠⟨#[]⟩:=by
  intro x hx hxu hxa hxc
  obtain⟨b1,b2⟩:=Zst hx hxu hxa
  refine⟨b1,by simp only[mAsks];omega,fun p hp=>?_⟩
  simp only[tickOut,List.mem_append,List.mem_singleton,List.mem_map]at hp
  rcases hp with (hp|⟨a,h3,rfl⟩)|rfl
  ·exact b2 p hp
  ·exact Zq2 hx.name hx.clock (hx.gives.all a h3)
  ·exact Zpo hx.name hx.seen
 unfold tickRuns
 split
 ·refine key _ (Zq6 h1 hu) hu ?_ rfl
  exact Nat.le_trans (Zdv _ _ _ _).1 ha
 ·exact key _ h1 hu ha rfl
theorem Zuj{m:Mate}{p:Parcel}(h:MateIs m):MateIs (mateTake m p):=by
 have hv:=Zai.2 h
 have hk:=h.clock
 unfold mateTake
 rw[if_pos hv]
 split
 case isFalse=>exact h
 rename_i hu
 have hu:m.up=true:=(Bool.and_eq_true_iff.1 hu).1
 unfold takeKind
 split
 ·unfold takeTold
  split
  ·rename_i q
   simp only[Bool.and_eq_true,inR,decide_eq_true_eq]at q
   exact⟨h.name,h.clock,⟨by have:=q.2.2.1;simp only;omega,q.2.2.2⟩,q.2.1,.inl rfl,h.runsN,h.runs,h.asc,h.asks,h.gives,h.apart,.inl hu⟩
  ·exact h
 split
 ·unfold takeGiven
  split
  ·rename_i a e
   have ha:=h.asks.all a (List.mem_of_find?_eq_some e)
   have hh:a.hold=p.hold:=(Zac _ _).1 (by simpa using List.find?_some e)
   split
   ·rename_i q
    simp only[askFits,Bool.and_eq_true,decide_eq_true_eq]at q
    have b1:=ha.first
    have b2:=ha.at_
    have w:IntKind.i64.wrap (p.at_+16)=p.at_+16:=i64w (by omega) (by omega)
    have hg:∀ r:Run,RunIs r m.clock->RunIs (giveRun p r) m.clock:=fun r hr=>by
     unfold giveRun
     rw[w]
     split
     ·rename_i g
      simp only[Bool.and_eq_true,decide_eq_true_eq,Zac]at g
      refine⟨hr.want,hr.state,hr.left,hr.rest,hr.falls,⟨by simp only;omega,by simp only;omega⟩,fun e=>?_,fun e hn=>?_⟩
      ·have h1:=ha.hold
       simp only at e
       rw[hh,<- g.1,e]at h1
       simp[isHold,Zos]at h1
      ·have:=hr.lease e hn
       simp only;omega
     ·exact hr
    have hw:∀ r,Run.k (giveRun p r)=Run.k r:=fun r=>by unfold giveRun Run.k;split<;>rfl
    refine⟨h.name,h.clock,h.seen,h.wants,h.known,by simpa using h.runsN,fun r hr=>?_,?_,h.asks,h.gives,h.apart,.inl hu⟩
    ·obtain⟨r0,k1,rfl⟩:=List.mem_map.1 hr
     exact hg r0 (h.runs r0 k1)
    ·have hasc:=h.asc
     rw[Zgh]at hasc ⊢
     rw[List.map_map]
     have e:Run.k ∘ giveRun p=Run.k:=funext hw
     rw[e];exact hasc
   ·exact h
  ·exact h
 split
 ·unfold takeBack'
  split
  ·split
   ·exact⟨h.name,h.clock,h.seen,h.wants,h.known,h.runsN,h.runs,h.asc,h.asks,h.gives.drop _,fun a ha b hb=>h.apart a ha b (List.mem_filter.1 hb).1,.inl hu⟩
   ·exact h
  ·exact h
 ·exact h
structure Drawn(m:Mate):Prop where
 small:m.small
 nasks:m.asks.length<=20
 ngives:m.gives.length<=20
theorem Zni{m:Mate}(h:mateValid m=false)(rate:Int):mateTick m rate=(.zero,[]):=by simp[mateTick,h]
theorem Zo8{m:Mate}{rate:Int}(h:Drawn m):(mateTick m rate).1.small/\(mateTick m rate).2.length<=1000/\∀ p∈(mateTick m rate).2,p.small:=by
 have zero_small:Mate.zero.small:=⟨by simp[Mate.zero],by simp[Mate.zero],by simp[Mate.zero],by simp[Mate.zero]⟩
 cases q:mateValid m
 ·rw[Zni q]
  exact⟨zero_small,by simp,fun p hp=>by simp at hp⟩
 have hv:=Zrd q
 have key:∀ x:Mate,Fit x 20->(mAsks x).small/\(tickOut x).length<=1000/\∀ p∈tickOut x,p.small:=by
  intro x hx
  obtain⟨h1,h2,h3⟩:=Zev x x.runs (x.asks,[])
  have r:=hx.runs
  have a:=hx.asks
  have g:=hx.gives
  have s:=hx.small (by omega)
  simp only[List.length_nil]at h1 h2
  refine⟨⟨s.wants,s.runs,by show (asksOf x).1.length<=_;unfold asksOf;omega,s.gives⟩,?_,fun p hp=>?_⟩
  ·simp only[tickOut,List.length_append,List.length_map,List.length_singleton]
   unfold asksOf
   omega
  ·simp only[tickOut,List.mem_append,List.mem_singleton,List.mem_map]at hp
   rcases hp with (hp|⟨b,_,rfl⟩)|rfl
   ·exact⟨by rw[h3 (fun p hp=>by simp at hp) p hp];simp⟩
   ·exact⟨by simp[backP]⟩
   ·exact⟨by simp[hereP]⟩
 have ft:Fit (tickOn m rate) 0:=⟨hv.wants,by simpa [tickOn] using hv.runs,Zqk hv.runsAsc,h.nasks,by have:=h.ngives;simpa [tickOn] using this⟩
 unfold mateTick
 rw[if_pos q]
 split
 case isFalse=>exact⟨h.small,by simp,fun p hp=>by simp at hp⟩
 split
 ·have hf:(mateFall m true)={ Mate.zero with name:=m.name,clock:=m.clock,runs:=m.runs.filterMap (fallRun true) }:=if_pos q
  rw[hf]
  have:=List.length_filterMap_le (fallRun true) m.runs
  have:=h.small.runs
  exact⟨⟨by simp[Mate.zero],by simp only;omega,by simp[Mate.zero],by simp[Mate.zero]⟩,by simp,fun p hp=>by simp at hp⟩
 split
 case isFalse=>exact⟨ft.small (by omega),by simp,fun p hp=>by simp at hp⟩
 unfold tickRuns
 split
 ·exact key _ (Zn8 ft)
 ·exact key _ ⟨ft.wants,ft.runs,ft.asc,ft.asks,by have:=ft.gives;omega⟩
set_option linter.unusedVariables false
def nmT(a:Bool):T:=if a then ⟨#[97]⟩ else ⟨#[98]⟩
def cpX:T:=⟨#[120]⟩
def volT:T:=⟨#[118,111,108]⟩
def oneW(G:Int):Want:=⟨cpX,1,volT,1,1,0,G⟩
def wantsW(G:Int)(w:Bool):List Want:=if w then [oneW G] else []
def RS.r(G:Int)(r:RS):Run:=⟨oneW G,r.st,r.left,0,r.til⟩
def KS.k(k:KS):Ask:=⟨volT,cpX,k.first,k.at_⟩
def MS.m(G:Int)(a:Bool)(m:MS):Mate:=⟨nmT a,m.up,m.clock,m.known,m.seen,wantsW G m.w,(m.r.map (RS.r G)).toList,(m.k.map KS.k).toList,(m.g.map KS.k).toList⟩
def PK.p(G:Int):PK->Parcel
 | .told a s w=>⟨1,nmT a,s,wantsW G w,⟨#[]⟩,⟨#[]⟩,0⟩
 | .asked a t=>⟨2,nmT a,0,[],volT,cpX,t⟩
 | .given a t=>⟨3,nmT a,0,[],volT,cpX,t⟩
 | .back a t=>⟨4,nmT a,0,[],volT,cpX,t⟩
 | .got a t=>⟨5,nmT a,0,[],volT,⟨#[]⟩,t⟩
 | .here a s=>⟨6,nmT a,s,[],⟨#[]⟩,⟨#[]⟩,0⟩
theorem Zaz:sEq volT volT=true:=(Zac _ _).2 rfl
theorem Zbp:sEq cpX cpX=true:=(Zac _ _).2 rfl
theorem Zb1:sEq volT ⟨#[]⟩=false:=Zad (by intro e;cases e)
theorem Zb2(a b:Bool):sEq (nmT a) (nmT b)=(a == b):=by
 cases a<;>cases b
 ·exact (Zac _ _).2 rfl
 ·exact Zad (by intro e;cases e)
 ·exact Zad (by intro e;cases e)
 ·exact (Zac _ _).2 rfl
theorem Zjn(a:Bool):isName (nmT a)=true:=by cases a<;>decide
theorem Zit:isName cpX=true:=by decide
theorem Zf8:isHold volT=true:=by
 have h:isName volT=true:=by decide
 simp only[isHold,h,Bool.true_and,Bool.not_eq_true']
 exact Zad (by intro e;cases e)
theorem Zvc{G:Int}(hG:0<=G/\G<=8):wantOk (oneW G)=true:=by
 have h1:=Zit
 have h2:=Zf8
 have h3:inR G 0 100=true:=by simp only[inR,Bool.and_eq_true,decide_eq_true_eq];omega
 simp only[wantOk,oneW,h1,h2,Zb1,h3]
 decide
theorem Zga{G:Int}(hG:0<=G/\G<=8)(w:Bool):wantsOk (wantsW G w)=true:=by
 cases w
 ·rfl
 ·simp[wantsOk,wantsW,wantsGo,Zvc hG,ascW,freshW,heldB]
theorem Znd(G:Int)(w:Bool):findW (wantsW G w) cpX=if w then some (oneW G) else none:=by
 cases w
 ·rfl
 ·simp[findW,wantsW,oneW,Zbp]
theorem Zm7(G:Int):eqWant (oneW G) (oneW G)=true:=by
 simp[eqWant,oneW,Zaz,Zbp]
theorem Zne{G c:Int}{r:RS}(hc:0<=c/\c<=1000000):leased (r.r G) c=decide (c+4<=r.til):=by
 have w:IntKind.i64.wrap (c+4)=c+4:=i64w (by omega) (by omega)
 simp only[leased,leasedB,RS.r,oneW,Zb1,w,Bool.false_or]
theorem wd_r{G c:Int}{r:RS}(hc:0<=c/\c<=1000000):wd c (r.r G)=(wdS c r).r G:=by
 have ha:alive (r.r G)=aliveZ r.st:=rfl
 unfold wd wdS
 rw[Zne hc,ha]
 split<;>rfl
theorem Zu5{G c:Int}{r:RS}{w:Bool}(hc:0<=c/\c<=1000000)(h:okR G r):liveOf c (wantsW G w) (r.r G)=(liveS G c w r).map (RS.r G):=by
 have ha:alive (r.r G)=aliveZ r.st:=rfl
 have hf:findW (wantsW G w) (r.r G).want.copy=if w then some (oneW G) else none:=Znd G w
 have hl:=Zne (G:=G) (r:=r) hc
 obtain⟨⟨h1,h2⟩,⟨h3,h4⟩,h5⟩:=h
 have he:eqWant (oneW G) (r.r G).want=true:=Zm7 G
 have hs:(r.r G).state=r.st:=rfl
 have hlf:(r.r G).left=r.left:=rfl
 unfold liveOf mateLive liveS
 rw[hf,ha,hs,hlf]
 have hst:r.st=1\/r.st=2\/r.st=3\/r.st=4\/r.st=5\/r.st=6:=by omega
 have hbeg:beginR (r.r G) c=if c+4<=r.til then (⟨3,1,r.til⟩:RS).r G else (⟨2,0,r.til⟩:RS).r G:=by
  unfold beginR
  rw[hl]
  simp only[decide_eq_true_eq]
  rfl
 cases w
 ·simp only[Bool.false_eq_true,if_false,Option.isSome_none,Bool.not_false,Bool.true_or,Bool.true_and]
  rcases hst with e|e|e|e|e|e<;>rw[e]<;>simp[aliveZ]
  ·rfl
  ·rfl
  ·split<;>rfl
 ·simp only[if_true,Option.isSome_some,Option.getD_some,he,Bool.not_true,Bool.or_self,Bool.false_and]
  rcases hst with e|e|e|e|e|e
  ·rw[e,hbeg]
   by_cases q:1<r.left
   ·simp[q,e];rfl
   ·simp[q];split<;>rfl
  ·rw[e,hbeg]
   simp;split<;>rfl
  ·rw[e]
   by_cases q:1<r.left
   ·simp[q,e];rfl
   ·simp[q];rfl
  ·have q:=h5 e
   rw[e,q]
   simp
  ·rw[e,hbeg]
   by_cases q:1<r.left
   ·simp[q,e];rfl
   ·simp[q];split<;>rfl
  ·rw[e]
   by_cases q:1<r.left
   ·simp[q,e];rfl
   ·simp[q]
theorem on_m{G:Int}{a:Bool}{m:MS}{rate:Int}(hc:0<=m.clock+rate/\m.clock+rate<=1000000):tickOn (m.m G a) rate=(onS m rate).m G a:=by
 obtain⟨up,clock,known,seen,w,r,k,g⟩:=m
 cases r
 ·rfl
 ·simp only[tickOn,onS,MS.m,Option.map_some,Option.toList_some,List.map_cons,List.map_nil]
  rw[wd_r hc]
theorem Zvy(G:Int):newRun (oneW G)=(⟨1,1,0⟩:RS).r G:=rfl
theorem Zr0(G:Int)(w:Bool):(wantsW G w).foldl addRun []=((newS w).map (RS.r G)).toList:=by
 cases w
 ·rfl
 ·simp[wantsW,addRun,newS,putBy,Zvy]
theorem Zvb(G:Int)(w:Bool)(n:RS):(wantsW G w).foldl addRun [n.r G]=[n.r G]:=by
 cases w
 ·rfl
 ·have:sEq (n.r G).want.copy (oneW G).copy=true:=Zbp
  simp[wantsW,addRun,this]
theorem Zu0{G:Int}{a:Bool}{m:MS}(hc:0<=m.clock/\m.clock<=1000000)(hr:∀ r,m.r=some r->okR G r):tickRuns (m.m G a)=(runsS G m).m G a:=by
 obtain⟨up,clock,known,seen,w,r,k,g⟩:=m
 simp only at hc hr
 unfold tickRuns runsS
 cases known
 ·rfl
 ·simp only[MS.m,if_true]
  cases r with
  | none =>
   simp only[mLives,livesOf,Option.map_none,Option.toList_none,List.foldl_nil,Zr0,livesS]
  | some r =>
   have hl:=Zu5 (w:=w) hc (hr r rfl)
   simp only[mLives,livesOf,Option.map_some,Option.toList_some,List.foldl_cons,List.foldl_nil,liveStep,hl,livesS]
   cases hs:liveS G clock w r with
   | some n =>
    simp only[Option.map_some,List.nil_append,Zvb,Option.toList_some]
   | none =>
    have hv:(RS.r G r).want.hold=volT:=rfl
    simp only[Option.map_none,hv,giveUp,Zb1,Bool.false_eq_true,if_false]
    cases k with
    | none=>simp[askOf,Zr0]
    | some k =>
     have hk:sEq (KS.k k).hold volT=true:=Zaz
     have hk2:∀ b:KS,sEq (Ask.k (KS.k b)) (Ask.k (KS.k k))=true:=fun _=>Zaz
     have hk3:∀ b:KS,sLt (Ask.k (KS.k b)) (Ask.k (KS.k k))=false:=fun _=>Zak _
     cases g with
     | none=>simp[askOf,hk,dropHold,putBy,Zr0]
     | some g=>simp[askOf,hk,dropHold,putBy,Zr0,hk2,hk3]
theorem Zu9{G:Int}{a:Bool}{m:MS}(hc:0<=m.clock/\m.clock<=1000000)(hk:∀ k,m.k=some k->0<=k.at_/\k.at_<=m.clock) :
  asksOf (m.m G a)=(((asksS m).k.map KS.k).toList,match askS m with
   | some _=>[(PK.asked a m.clock).p G]
   | none=>[]):=by
 obtain⟨up,clock,known,seen,w,r,k,g⟩:=m
 simp only at hc hk
 cases r with
 | none=>simp[asksOf,MS.m,asksS,askS]
 | some r =>
  have hv:(RS.r G r).want.hold=volT:=rfl
  have hx:(RS.r G r).want.copy=cpX:=rfl
  have he:eqWant (oneW G) (RS.r G r).want=true:=Zm7 G
  have hh:asksHold (wantsW G w) (g.map KS.k).toList (RS.r G r)=(w && g.isNone):=by
   unfold asksHold
   rw[hx,hv,Znd,Zb1]
   have h3:(askOf volT (g.map KS.k).toList).isNone=g.isNone:=by
    cases g with
    | none=>rfl
    | some g =>
     have:sEq (KS.k g).hold volT=true:=Zaz
     simp[askOf,this]
   rw[h3]
   cases w
   ·simp
   ·simp[he]
  simp only[asksOf,MS.m,Option.map_some,Option.toList_some,List.foldl_cons,List.foldl_nil,askStep,hh,asksS,askS]
  cases q:w && g.isNone
  ·simp
  ·simp only[if_true]
   cases k with
   | none =>
    simp only[freshAsk,hv,hx,askOf,Option.map_none,Option.toList_none,List.find?_nil]
    rfl
   | some k =>
    have hk1:sEq (KS.k k).hold volT=true:=Zaz
    have hk2:sEq (KS.k k).copy cpX=true:=Zbp
    have hkk:=hk k rfl
    have hw:IntKind.i64.wrap ((KS.k k).at_+6)=k.at_+6:=i64w (by simp only[KS.k];omega) (by simp only[KS.k];omega)
    have hf:freshAsk clock (RS.r G r) [KS.k k]=if clock<k.at_+6 then none else some (KS.k ⟨k.first,clock⟩):=by
     simp only[freshAsk,hv,hx,askOf,List.find?_cons,hk1,hk2,if_true,hw]
     rfl
    simp only[Option.map_some,Option.toList_some,hf]
    by_cases hlt:clock<k.at_+6
    ·simp[hlt]
    ·have hp:putBy Ask.k (KS.k ⟨k.first,clock⟩) [KS.k k]=[KS.k ⟨k.first,clock⟩]:=by
      have h1:sEq (Ask.k (KS.k k)) (Ask.k (KS.k ⟨k.first,clock⟩))=true:=Zaz
      have h2:sLt (Ask.k (KS.k k)) (Ask.k (KS.k ⟨k.first,clock⟩))=false:=Zak _
      simp[putBy,h1,h2]
     simp only[hlt,if_false,hp]
     rfl
theorem Ztc{G:Int}{a:Bool}{m:MS}{rate:Int}(hG:0<=G)(hv:mateValid (m.m G a)=true)(hr:1<=rate/\rate<=4)(hc:m.clock+rate<=1000000)(h:OkM G m) :
  mateTick (m.m G a) rate=((tickS G a m rate).1.m G a,(tickS G a m rate).2.map (PK.p G)):=by
 have h0:=h.clock
 have hon:=Zty hr.1 h
 have hrn:=Zln hG hon
 have hrate:inR rate 1 4=true:=by simp[inR];omega
 have hcl:(runsS G (onS m rate)).clock=m.clock+rate:=by
  unfold runsS livesS
  split
  ·split
   ·rfl
   ·split<;>rfl
  ·rfl
 have hlim:¬ 1000000<(m.m G a).clock+rate:=by simp only[MS.m];omega
 have hup:(m.m G a).up=m.up:=rfl
 unfold mateTick tickS
 rw[if_pos hv,if_pos hrate,if_neg hlim,hup,on_m (by omega)]
 have hcc:(onS m rate).clock=m.clock+rate:=rfl
 rw[Zu0 (by rw[hcc];omega) hon.run]
 cases m.up
 ·rfl
 ·simp only[if_true]
  have ha:=Zu9 (G:=G) (a:=a) (m:=runsS G (onS m rate)) (by rw[hcl];omega) (fun k e=>by have:=hrn.ask k e;omega)
  refine Prod.ext ?_ ?_
  ·simp only[mAsks,ha]
   generalize runsS G (onS m rate)=x
   unfold asksS
   split<;>rfl
  ·simp only[tickOut,ha,outS]
   generalize runsS G (onS m rate)=x
   obtain⟨up,clock,known,seen,w,r,k,g⟩:=x
   simp only[List.map_append,List.map_cons,List.map_nil]
   congr 2
   ·cases askS ⟨up,clock,known,seen,w,r,k,g⟩<;>rfl
   ·cases g<;>rfl
def okT:PK->Prop
 | .told _ s _=>1<=s/\s<=1000000
 | .given _ t=>0<=t/\t<=1000000
 | _=>True
theorem Ztk{G:Int}{a:Bool}{m:MS}{p:PK}(hG:0<=G/\G<=8)(hv:mateValid (m.m G a)=true)(hp:okT p)(hd:isDownS p=true):mateTake (m.m G a) (p.p G)=(takeS a m p).m G a:=by
 obtain⟨up,clock,known,seen,w,r,k,g⟩:=m
 unfold mateTake takeS
 rw[if_pos hv]
 cases p with
 | asked b t=>cases hd
 | back b t=>cases hd
 | here b s=>cases hd
 | told b s w' =>
  have hs:inR s 1 1000000=true:=by simp only[inR,Bool.and_eq_true,decide_eq_true_eq];exact hp
  simp only[PK.p,MS.m,Zb2,takeKind,takeTold,if_true,Zga hG w',hs,Bool.and_self,Bool.and_true]
  cases up
  ·rfl
  ·cases hb:b == a
   ·rfl
   ·simp only[Bool.true_and,if_true]
    by_cases q:(!known || decide (seen<s))=true
    ·refine Eq.trans (if_pos q) ?_
     simp only[q,if_true]
    ·refine Eq.trans (if_neg q) ?_
     rw[if_neg q]
 | given b t =>
  have hw:IntKind.i64.wrap (t+16)=t+16:=i64w (by simp only[okT]at hp;omega) (by simp only[okT]at hp;omega)
  have e31:¬ (3:Int)=1:=by decide
  simp only[PK.p,MS.m,Zb2,takeKind,takeGiven,e31,if_false,if_true]
  cases up
  ·rfl
  ·cases hb:b == a
   ·rfl
   ·simp only[Bool.true_and,if_true,Bool.and_self]
    cases k with
    | none=>rfl
    | some k =>
     have hk1:sEq (KS.k k).hold volT=true:=Zaz
     have hfit:askFits (KS.k k) ⟨3,nmT b,0,[],volT,cpX,t⟩=fitsS ⟨true,clock,known,seen,w,r,some k,g⟩ t:=by
      have hk2:sEq (KS.k k).copy cpX=true:=Zbp
      simp only[askFits,hk2,fitsS,Bool.true_and];rfl
     simp only[Option.map_some,Option.toList_some,List.find?_cons,hk1,hfit]
     split
     ·cases r with
      | none=>rfl
      | some r =>
       have hr1:sEq (RS.r G r).want.hold volT=true:=Zaz
       have hr2:sEq (RS.r G r).want.copy cpX=true:=Zbp
       have hg:giveRun ⟨3,nmT b,0,[],volT,cpX,t⟩ (RS.r G r)=RS.r G (givenS t r):=by
        simp only[giveRun,hr1,hr2,hw,Bool.true_and,decide_eq_true_eq,givenS]
        have:(RS.r G r).til=r.til:=rfl
        rw[this]
        split<;>rfl
       simp only[Option.map_some,Option.toList_some,List.map_cons,List.map_nil,hg]
     ·rfl
 | got b t =>
  have e51:¬ (5:Int)=1:=by decide
  have e53:¬ (5:Int)=3:=by decide
  simp only[PK.p,MS.m,Zb2,takeKind,takeBack',e51,e53,if_false,if_true]
  cases up
  ·rfl
  ·cases hb:b == a
   ·rfl
   ·simp only[Bool.true_and,if_true,Bool.and_self]
    cases g with
    | none=>rfl
    | some g =>
     have hk1:sEq (KS.k g).hold volT=true:=Zaz
     have hat:((KS.k g).at_ == t)=decide (g.at_=t):=by
      have:(KS.k g).at_=g.at_:=rfl
      rw[this]
      by_cases q:g.at_=t<;>simp[q]
     simp only[Option.map_some,Option.toList_some,List.find?_cons,hk1,hat,decide_eq_true_eq]
     by_cases q:g.at_=t
     ·simp[q,dropHold,hk1]
     ·simp[q]
theorem Ztl{G:Int}{a b:Bool}{m:MS}(hv:mateValid (m.m G a)=true):mateFall (m.m G a) b=(fallS b m).m G a:=by
 obtain⟨up,clock,known,seen,w,r,k,g⟩:=m
 unfold mateFall
 rw[if_pos hv]
 cases r with
 | none=>rfl
 | some r =>
  have ha:alive (r.r G)=aliveZ r.st:=rfl
  have hv:(RS.r G r).want.hold=volT:=rfl
  have hf:fallRun b (RS.r G r)=(if aliveZ r.st then (if b then some (⟨2,0,r.til⟩:RS) else some r) else none).map (RS.r G):=by
   unfold fallRun
   rw[ha,hv,Zb1]
   cases aliveZ r.st
   ·rfl
   ·cases b<;>rfl
  simp only[MS.m,Option.map_some,Option.toList_some,List.filterMap_cons,List.filterMap_nil,hf,fallS]
  cases aliveZ r.st
  ·rfl
  ·cases b<;>rfl
theorem Ztf{G:Int}{a:Bool}{m:MS}(hv:mateValid (m.m G a)=true)(hc:m.clock<1000000):mateRise (m.m G a)=(riseS m).m G a:=by
 obtain⟨up,clock,known,seen,w,r,k,g⟩:=m
 unfold mateRise
 rw[if_pos hv]
 have:decide ((MS.m G a ⟨up,clock,known,seen,w,r,k,g⟩).clock<1000000)=true:=decide_eq_true hc
 simp only[this,Bool.or_true]
 rfl
def mkT(l:List UInt8):T:=⟨l.toArray⟩
def cutA(b:UInt8):List UInt8->List UInt8->List (List UInt8)
 | pre,[]=>[pre]
 | pre,x::r=>if x=b then pre::cutA b [] r else cutA b (pre++[x]) r
def cutT(s:T)(b:UInt8):List T:=(cutA b [] s.data.toList).map mkT
theorem Ziu(l:List UInt8):(mkT l).data.toList=l:=rfl
theorem Znr(s:T)(a b:Nat):s.extract a b=mkT ((s.data.toList.take b).drop a):=by
 apply Zb6
 rw[Ziu,Lib.extract_data]
 simp[List.drop_take]
def atW(ws:List T)(k:Nat):T:=ws.getD k ⟨#[]⟩
def digs:Int->List UInt8->Option Int
 | a,[]=>some a
 | a,x::r=>if 48<=x.toNat/\x.toNat<=57 then digs (a*10+(x.toNat-48:Int)) r else none
def num7(s:T):Int:=if 1<=s.size/\s.size<=7 then match digs 0 s.data.toList with
  | some n=>if sEq (dec n.toNat) s then n else -1
  | none=>-1
 else -1
theorem Zru(b:UInt8):∀ (l pre:List UInt8),∃ x r,cutA b pre l=x::r
 | [],pre=>⟨_,_,rfl⟩
 | a::l,pre=>by
  rw[cutA]
  split
  ·exact⟨_,_,rfl⟩
  ·exact Zru b l _
theorem Zk7(s:T)(b:UInt8):∃ x r,cutT s b=x::r:=by
 obtain⟨x,r,h⟩:=Zru b s.data.toList []
 exact⟨mkT x,r.map mkT,by rw[cutT,h];rfl⟩
def unstar(h:T):T:=if sEq h ⟨#[42]⟩ then ⟨#[]⟩ else h
def readWant(vs:List T):Want:=⟨atW vs 1,num7 (atW vs 2),unstar (atW vs 3),num7 (atW vs 4),num7 (atW vs 5),num7 (atW vs 6),num7 (atW vs 7)⟩
def readLines(ls:List T):List Want:=ls.dropLast.map fun l=>readWant (cutT l 32)
def readKind(w:T):Int:=if sEq w ⟨#[98,97,99,107]⟩ then 4 else if sEq w ⟨#[103,105,118,101,110]⟩ then 3 else 2
def isAsk(w:T):Bool:=sEq w ⟨#[97,115,107,101,100]⟩ || (sEq w ⟨#[103,105,118,101,110]⟩ || sEq w ⟨#[98,97,99,107]⟩)
def readWords(w:T)(ws ls:List T):Parcel :=
 if sEq w ⟨#[116,111,108,100]⟩ then ⟨1,atW ws 1,num7 (atW ws 2),readLines ls,⟨#[]⟩,⟨#[]⟩,0⟩
 else if isAsk w then ⟨readKind w,atW ws 1,0,[],atW ws 2,atW ws 3,num7 (atW ws 4)⟩
 else if sEq w ⟨#[103,111,116,98,97,99,107]⟩ then ⟨5,atW ws 1,0,[],atW ws 2,⟨#[]⟩,num7 (atW ws 3)⟩
 else if sEq w ⟨#[104,101,114,101]⟩ then ⟨6,atW ws 1,num7 (atW ws 2),[],⟨#[]⟩,⟨#[]⟩,0⟩
 else ⟨0,atW ws 1,0,[],⟨#[]⟩,⟨#[]⟩,0⟩
def readS(s:T):Parcel:=readWords (atW (cutT (atW (cutT s 10) 0) 32) 0) (cutT (atW (cutT s 10) 0) 32) (cutT s 10).tail
def noParcel:Parcel:=⟨0,⟨#[]⟩,0,[],⟨#[]⟩,⟨#[]⟩,0⟩
def readT(s:T):Parcel×Bool:=if sEq s ⟨#[]⟩ || !(sEq (parcelForm (readS s)) s) then (noParcel,false) else (readS s,true)
def Held(h:Nat->Option AO)(b:Nat)(ws:List Want)(W:AV):Prop:=(W=.sl .own 7 []/\ws=[])\/∃ c,W=.ref c/\c≠b/\c≠0/\h c=some (.arr 7 (ws.map Want.c))
theorem Zji(b:UInt8):∀ l pre:List UInt8,(cutA b pre l).length<=l.length+1
 | [],pre=>by simp[cutA]
 | a::l,pre=>by
  rw[cutA]
  split
  ·have:=Zji b l [];simp only[List.length_cons];omega
  ·have:=Zji b l (pre++[a]);simp only[List.length_cons];omega
theorem Zs4(s:T)(b:UInt8):(cutT s b).length<=s.size+1:=by
 have:=Zji b s.data.toList []
 rw[Zar]at this
 simpa [cutT] using this
theorem Zjj(b:UInt8):∀ l pre x:List UInt8,x∈cutA b pre l->x.length<=pre.length+l.length
 | [],pre,x,h=>by simp[cutA]at h;subst h;simp
 | a::l,pre,x,h=>by
  rw[cutA]at h
  split at h
  ·rcases List.mem_cons.1 h with h|h
   ·subst h;omega
   ·have:=Zjj b l [] x h;simp only[List.length_cons,List.length_nil]at *;omega
  ·have:=Zjj b l (pre++[a]) x h;simp only[List.length_cons,List.length_append,List.length_nil]at *;omega
theorem Zf7{s x:T}{b:UInt8}(h:x∈cutT s b):x.size<=s.size:=by
 simp only[cutT,List.mem_map]at h
 obtain⟨l,h1,rfl⟩:=h
 have:=Zjj b _ _ _ h1
 rw[Zar]at this
 have e:(mkT l).size=l.length:=rfl
 rw[e]
 simpa using this
def wantsV:List Want->AV
 | []=>.sl .own 7 []
 | _::_=>.ref 3
def wantsH:List Want->List AO
 | []=>[]
 | w::ws=>[.arr 7 ((w::ws).map Want.c)]
def tl207:CCode:=(.seq (.seq (.region [
  ⟨some 189,.load (.tmp 7) 7 true .plain,none⟩,
  ⟨some 190,.call 218 [false] [.tmp 189],none⟩,
  ⟨some 191,.mov (.tmp 0),none⟩,
  ⟨some 192,.bin .neq (.tmp 190) (.tmp 191),none⟩] [2,7,192])
 (.cond (.tmp 192)
  (.seq (.region [
   ⟨some 193,.build [.int .i64 0,.str ⟨#[]⟩,.int .i64 0,.sl .own 7 [],.str ⟨#[]⟩,.str ⟨#[]⟩,.int .i64 0] [],none⟩,
   ⟨none,.store (.tmp 2) (.tmp 193) 7,none⟩,
   ⟨some 3,.mov (.const (.bool false)),none⟩] [2,3])
  .ret)
  .skip))
 (.seq (.region [
  ⟨some 194,.load (.tmp 7) 7 true .plain,none⟩,
  ⟨none,.store (.tmp 2) (.tmp 194) 7,none⟩,
  ⟨some 3,.mov (.const (.bool true)),none⟩] [2,3])
 .ret))
theorem c207_cut:c207=⟨195,[.cell 2 7 true,.tmp 3],
 (.seq (.region [
  ⟨some 2,.alloc [.int .i64 0,.str ⟨#[]⟩,.int .i64 0,.sl .own 7 [],.str ⟨#[]⟩,.str ⟨#[]⟩,.int .i64 0],none⟩,
  ⟨some 3,.mov (.const (.bool false)),none⟩] [0,2])
 (.seq (.seq (.region [
  ⟨some 12,.mov (.tmp 0),none⟩,
  ⟨some 13,.call 222 [false,false] [.tmp 12,.const (.str ⟨#[10]⟩)],none⟩,
  ⟨some 14,.un .not (.tmp 13),none⟩] [0,2,14])
 (.cond (.tmp 14)
  (.seq (.region [
   ⟨some 15,.build [.int .i64 0,.str ⟨#[]⟩,.int .i64 0,.sl .own 7 [],.str ⟨#[]⟩,.str ⟨#[]⟩,.int .i64 0] [],none⟩,
   ⟨none,.store (.tmp 2) (.tmp 15) 7,none⟩,
   ⟨some 3,.mov (.const (.bool false)),none⟩] [2,3])
  .ret)
  .skip))
 (.seq (.region [
  ⟨some 16,.mov (.tmp 0),none⟩,
  ⟨some 17,.mov (.tmp 0),none⟩,
  ⟨some 18,.len true (.tmp 17),none⟩,
  ⟨some 19,.bin .sub (.tmp 18) (.const (.int .i64 1)),none⟩,
  ⟨some 20,.sslice (.tmp 16) none (some (.tmp 19)),none⟩,
  ⟨some 21,.call 220 [false,false] [.tmp 20,.const (.str ⟨#[10]⟩)],none⟩,
  ⟨some 4,.mov (.tmp 21),none⟩] [0,2,4])
 (.seq (.region [
  ⟨some 22,.mov (.tmp 4),none⟩,
  ⟨some 23,.iaddr 1 (.tmp 22) (.const (.int .i64 0)),none⟩,
  ⟨some 24,.load (.tmp 23) 1 false .plain,none⟩,
  ⟨some 25,.call 220 [false,false] [.tmp 24,.const (.str ⟨#[32]⟩)],none⟩,
  ⟨some 5,.mov (.tmp 25),none⟩] [0,2,4,5])
 (.seq (.region [
  ⟨some 6,.mov (.const (.fn 221)),none⟩] [0,2,4,5,6])
 (.seq (.region [
  ⟨some 7,.alloc [.int .i64 0,.str ⟨#[]⟩,.int .i64 0,.sl .own 7 [],.str ⟨#[]⟩,.str ⟨#[]⟩,.int .i64 0],none⟩] [0,2,4,5,6,7])
 (.seq (.block 0
  (.seq (.region [
   ⟨some 27,.mov (.tmp 5),none⟩,
   ⟨some 28,.iaddr 1 (.tmp 27) (.const (.int .i64 0)),none⟩,
   ⟨some 29,.load (.tmp 28) 1 false .plain,none⟩,
   ⟨some 30,.bin .eql (.tmp 29) (.const (.str ⟨#[116,111,108,100]⟩)),none⟩,
   ⟨some 31,.mov (.tmp 30),none⟩,
   ⟨some 32,.mov (.tmp 5),some (31,true)⟩,
   ⟨some 33,.len false (.tmp 32),some (31,true)⟩,
   ⟨some 34,.bin .eql (.tmp 33) (.const (.int .i64 3)),some (31,true)⟩,
   ⟨some 35,.pick (.tmp 31) (.tmp 34) (.const (.bool false)),none⟩,
   ⟨some 26,.mov (.tmp 35),none⟩] [0,2,4,5,6,7,26])
  (.cond (.tmp 26)
   (.seq (.loud [
    ⟨some 36,.mov (.tmp 5),none⟩,
    ⟨some 37,.iaddr 1 (.tmp 36) (.const (.int .i64 1)),none⟩,
    ⟨some 38,.load (.tmp 37) 1 false .plain,none⟩,
    ⟨some 39,.mov (.tmp 6),none⟩,
    ⟨some 40,.mov (.tmp 5),none⟩,
    ⟨some 41,.iaddr 1 (.tmp 40) (.const (.int .i64 2)),none⟩,
    ⟨some 42,.load (.tmp 41) 1 false .plain,none⟩,
    ⟨some 43,.callf (.tmp 39) [false] [.tmp 42],none⟩,
    ⟨some 44,.build [.int .i64 0,.str ⟨#[]⟩,.int .i64 0,.sl .own 7 [],.str ⟨#[]⟩,.str ⟨#[]⟩,.int .i64 0] [(0,1,.const (.int .i64 1)),(1,1,.tmp 38),(2,1,.tmp 43)],none⟩,
    ⟨none,.store (.tmp 7) (.tmp 44) 7,none⟩] [0,1,3,0,0,16,48,120,255,511] [0,2,4,6,7])
   (.seq (.region [
    ⟨some 45,.mov (.tmp 4),none⟩,
    ⟨some 46,.slice 1 (.tmp 45) (some (.const (.int .i64 1))) none,none⟩,
    ⟨some 47,.len false (.tmp 46),none⟩,
    ⟨some 48,.mov (.const (.int .i64 0)),none⟩] [0,2,6,7,46,47,48])
   (.block 1
    (.loop [0,2,6,7,46,47,48] c207b0))))
   (.seq (.region [
    ⟨some 106,.mov (.tmp 5),none⟩,
    ⟨some 107,.len false (.tmp 106),none⟩,
    ⟨some 108,.bin .eql (.tmp 107) (.const (.int .i64 5)),none⟩,
    ⟨some 109,.mov (.tmp 108),none⟩,
    ⟨some 110,.mov (.tmp 5),some (109,true)⟩,
    ⟨some 111,.iaddr 1 (.tmp 110) (.const (.int .i64 0)),some (109,true)⟩,
    ⟨some 112,.load (.tmp 111) 1 false .plain,some (109,true)⟩,
    ⟨some 113,.bin .eql (.tmp 112) (.const (.str ⟨#[97,115,107,101,100]⟩)),some (109,true)⟩,
    ⟨some 114,.mov (.tmp 113),some (109,true)⟩,
    ⟨some 115,.mov (.tmp 5),some (114,false)⟩,
    ⟨some 116,.iaddr 1 (.tmp 115) (.const (.int .i64 0)),some (114,false)⟩,
    ⟨some 117,.load (.tmp 116) 1 false .plain,some (114,false)⟩,
    ⟨some 118,.bin .eql (.tmp 117) (.const (.str ⟨#[103,105,118,101,110]⟩)),some (114,false)⟩,
    ⟨some 119,.pick (.tmp 114) (.const (.bool true)) (.tmp 118),some (109,true)⟩,
    ⟨some 120,.mov (.tmp 119),some (109,true)⟩,
    ⟨some 121,.mov (.tmp 5),some (120,false)⟩,
    ⟨some 122,.iaddr 1 (.tmp 121) (.const (.int .i64 0)),some (120,false)⟩,
    ⟨some 123,.load (.tmp 122) 1 false .plain,some (120,false)⟩,
    ⟨some 124,.bin .eql (.tmp 123) (.const (.str ⟨#[98,97,99,107]⟩)),some (120,false)⟩,
    ⟨some 125,.pick (.tmp 120) (.const (.bool true)) (.tmp 124),some (109,true)⟩,
    ⟨some 126,.pick (.tmp 109) (.tmp 125) (.const (.bool false)),none⟩,
    ⟨some 105,.mov (.tmp 126),none⟩] [0,2,5,6,7,105])
   (.cond (.tmp 105)
    (.loud [
     ⟨some 127,.mkmap false,none⟩,
     ⟨none,.mapset false (.tmp 127) (.const (.str ⟨#[97,115,107,101,100]⟩)) (.const (.int .i64 2)),none⟩,
     ⟨none,.mapset false (.tmp 127) (.const (.str ⟨#[103,105,118,101,110]⟩)) (.const (.int .i64 3)),none⟩,
     ⟨none,.mapset false (.tmp 127) (.const (.str ⟨#[98,97,99,107]⟩)) (.const (.int .i64 4)),none⟩,
     ⟨some 128,.mov (.tmp 127),none⟩,
     ⟨some 129,.mov (.tmp 5),none⟩,
     ⟨some 130,.iaddr 1 (.tmp 129) (.const (.int .i64 0)),none⟩,
     ⟨some 131,.load (.tmp 130) 1 false .plain,none⟩,
     ⟨some 132,.lookup false (.int .i64 0) (.tmp 128) (.tmp 131),none⟩,
     ⟨some 133,.mov (.tmp 5),none⟩,
     ⟨some 134,.iaddr 1 (.tmp 133) (.const (.int .i64 1)),none⟩,
     ⟨some 135,.load (.tmp 134) 1 false .plain,none⟩,
     ⟨some 136,.mov (.tmp 5),none⟩,
     ⟨some 137,.iaddr 1 (.tmp 136) (.const (.int .i64 2)),none⟩,
     ⟨some 138,.load (.tmp 137) 1 false .plain,none⟩,
     ⟨some 139,.mov (.tmp 5),none⟩,
     ⟨some 140,.iaddr 1 (.tmp 139) (.const (.int .i64 3)),none⟩,
     ⟨some 141,.load (.tmp 140) 1 false .plain,none⟩,
     ⟨some 142,.mov (.tmp 6),none⟩,
     ⟨some 143,.mov (.tmp 5),none⟩,
     ⟨some 144,.iaddr 1 (.tmp 143) (.const (.int .i64 4)),none⟩,
     ⟨some 145,.load (.tmp 144) 1 false .plain,none⟩,
     ⟨some 146,.callf (.tmp 142) [false] [.tmp 145],none⟩,
     ⟨some 147,.build [.int .i64 0,.str ⟨#[]⟩,.int .i64 0,.sl .own 7 [],.str ⟨#[]⟩,.str ⟨#[]⟩,.int .i64 0] [(0,1,.tmp 132),(1,1,.tmp 135),(4,1,.tmp 138),(5,1,.tmp 141),(6,1,.tmp 146)],none⟩,
     ⟨none,.store (.tmp 7) (.tmp 147) 7,none⟩] [0,1,1,1,15,0,32,96,255,0,512,1536,0,4096,12288,0,32768,98304,0,0,524288,1572864,3932160,8388607,16777215] [0,2,7])
    (.seq (.region [
     ⟨some 149,.mov (.tmp 5),none⟩,
     ⟨some 150,.iaddr 1 (.tmp 149) (.const (.int .i64 0)),none⟩,
     ⟨some 151,.load (.tmp 150) 1 false .plain,none⟩,
     ⟨some 152,.bin .eql (.tmp 151) (.const (.str ⟨#[103,111,116,98,97,99,107]⟩)),none⟩,
     ⟨some 153,.mov (.tmp 152),none⟩,
     ⟨some 154,.mov (.tmp 5),some (153,true)⟩,
     ⟨some 155,.len false (.tmp 154),some (153,true)⟩,
     ⟨some 156,.bin .eql (.tmp 155) (.const (.int .i64 4)),some (153,true)⟩,
     ⟨some 157,.pick (.tmp 153) (.tmp 156) (.const (.bool false)),none⟩,
     ⟨some 148,.mov (.tmp 157),none⟩] [0,2,5,6,7,148])
    (.cond (.tmp 148)
     (.loud [
      ⟨some 158,.mov (.tmp 5),none⟩,
      ⟨some 159,.iaddr 1 (.tmp 158) (.const (.int .i64 1)),none⟩,
      ⟨some 160,.load (.tmp 159) 1 false .plain,none⟩,
      ⟨some 161,.mov (.tmp 5),none⟩,
      ⟨some 162,.iaddr 1 (.tmp 161) (.const (.int .i64 2)),none⟩,
      ⟨some 163,.load (.tmp 162) 1 false .plain,none⟩,
      ⟨some 164,.mov (.tmp 6),none⟩,
      ⟨some 165,.mov (.tmp 5),none⟩,
      ⟨some 166,.iaddr 1 (.tmp 165) (.const (.int .i64 3)),none⟩,
      ⟨some 167,.load (.tmp 166) 1 false .plain,none⟩,
      ⟨some 168,.callf (.tmp 164) [false] [.tmp 167],none⟩,
      ⟨some 169,.build [.int .i64 0,.str ⟨#[]⟩,.int .i64 0,.sl .own 7 [],.str ⟨#[]⟩,.str ⟨#[]⟩,.int .i64 0] [(0,1,.const (.int .i64 5)),(1,1,.tmp 160),(4,1,.tmp 163),(6,1,.tmp 168)],none⟩,
      ⟨none,.store (.tmp 7) (.tmp 169) 7,none⟩] [0,1,3,0,8,24,0,0,128,384,960,2047,4095] [0,2,7])
     (.seq (.region [
      ⟨some 171,.mov (.tmp 5),none⟩,
      ⟨some 172,.iaddr 1 (.tmp 171) (.const (.int .i64 0)),none⟩,
      ⟨some 173,.load (.tmp 172) 1 false .plain,none⟩,
      ⟨some 174,.bin .eql (.tmp 173) (.const (.str ⟨#[104,101,114,101]⟩)),none⟩,
      ⟨some 175,.mov (.tmp 174),none⟩,
      ⟨some 176,.mov (.tmp 5),some (175,true)⟩,
      ⟨some 177,.len false (.tmp 176),some (175,true)⟩,
      ⟨some 178,.bin .eql (.tmp 177) (.const (.int .i64 3)),some (175,true)⟩,
      ⟨some 179,.pick (.tmp 175) (.tmp 178) (.const (.bool false)),none⟩,
      ⟨some 170,.mov (.tmp 179),none⟩] [0,2,5,6,7,170])
     (.cond (.tmp 170)
      (.loud [
       ⟨some 180,.mov (.tmp 5),none⟩,
       ⟨some 181,.iaddr 1 (.tmp 180) (.const (.int .i64 1)),none⟩,
       ⟨some 182,.load (.tmp 181) 1 false .plain,none⟩,
       ⟨some 183,.mov (.tmp 6),none⟩,
       ⟨some 184,.mov (.tmp 5),none⟩,
       ⟨some 185,.iaddr 1 (.tmp 184) (.const (.int .i64 2)),none⟩,
       ⟨some 186,.load (.tmp 185) 1 false .plain,none⟩,
       ⟨some 187,.callf (.tmp 183) [false] [.tmp 186],none⟩,
       ⟨some 188,.build [.int .i64 0,.str ⟨#[]⟩,.int .i64 0,.sl .own 7 [],.str ⟨#[]⟩,.str ⟨#[]⟩,.int .i64 0] [(0,1,.const (.int .i64 6)),(1,1,.tmp 182),(2,1,.tmp 187)],none⟩,
       ⟨none,.store (.tmp 7) (.tmp 188) 7,none⟩] [0,1,3,0,0,16,48,120,255,511] [0,2,7])
      .skip)))))))))
 tl207)))))))⟩:=rfl
theorem Zeq(x b:UInt8)(r:List UInt8):Lib.index (x::r) [b]=if x=b then 0 else if Lib.index r [b] = -1 then -1 else Lib.index r [b]+1:=by
 rw[Lib.index]
 have e:[b].isPrefixOf (x::r)=(b == x):=by rw[List.isPrefixOf_cons_cons];rw[List.isPrefixOf_nil_left,Bool.and_true]
 rw[e]
 by_cases h:x=b
 ·rw[if_pos (beq_iff_eq.2 h.symm),if_pos h]
 ·rw[if_neg (fun k=>h (beq_iff_eq.1 k).symm),if_neg h]
  by_cases k:Lib.index r [b] = -1
  ·rw[if_pos (beq_iff_eq.2 k),if_pos k]
  ·rw[if_neg (fun q=>k (beq_iff_eq.1 q)),if_neg k]
theorem Zf2{b x:UInt8}{r:List UInt8}(h:¬ b∈x::r):¬ x=b/\¬ b∈r:=⟨fun e=>h (by rw[e];exact List.mem_cons_self),fun k=>h (List.mem_cons_of_mem _ k)⟩
theorem Znf{b:UInt8}:∀ {l:List UInt8},¬ b∈l->Lib.index l [b] = -1
 | [],_=>rfl
 | x::r,h=>by
  rw[Zeq,if_neg (Zf2 h).1,Znf (Zf2 h).2]
  rfl
theorem Zmu{b:UInt8}:∀ {u v:List UInt8},¬ b∈u->Lib.index (u++b::v) [b]=u.length
 | [],v,_=>by rw[List.nil_append,Zeq,if_pos rfl];rfl
 | x::u,v,h=>by
  rw[List.cons_append,Zeq,if_neg (Zf2 h).1,Zmu (Zf2 h).2,if_neg (by omega)]
  rfl
theorem Zi8{b:UInt8}:∀ {l:List UInt8} (pre:List UInt8),¬ b∈l->cutA b pre l=[pre++l]
 | [],pre,_=>by simp[cutA]
 | x::r,pre,h=>by
  rw[cutA,if_neg (Zf2 h).1,Zi8 _ (Zf2 h).2]
  simp
theorem Zhn{b:UInt8}:∀ {u v:List UInt8} (pre:List UInt8),¬ b∈u->cutA b pre (u++b::v)=(pre++u)::cutA b [] v
 | [],v,pre,_=>by simp[cutA]
 | x::u,v,pre,h=>by
  rw[List.cons_append,cutA,if_neg (Zf2 h).1,Zhn _ (Zf2 h).2]
  simp
theorem Zie(b:UInt8):∀ (n:Nat) (l:List UInt8),l.length<=n->Lib.splitK [b] 0 (Lib.count l [b]) l=cutA b [] l
 | n,l,hn=>by
  by_cases h:b∈l
  ·obtain⟨u,v,rfl,hu⟩:=List.eq_append_cons_of_mem h
   match n with
   | 0=>simp at hn
   | n+1 =>
    have hi:=Zmu (v:=v) hu
    have hd:(u++b::v).drop (u.length+[b].length)=v:=by
     rw[show u++b::v=(u++[b])++v by simp,List.drop_left' (by simp)]
    have hc:=Lib.count_hit (by simp) hi
    rw[hd]at hc
    rw[hc,Nat.add_comm,Lib.splitK,hi,if_neg (by simp),Zhn _ hu]
    rw[show ((u.length:Int).toNat+[b].length)=u.length+[b].length from rfl,hd,Zie b n v (by simp at hn;omega)]
    simp
  ·rw[Lib.count_miss (Znf h),Zi8 _ h]
   rfl
theorem Zn2(s:T)(b:UInt8):splitT s ⟨#[b]⟩=cutT s b:=by
 have h:=Lib.splitB_data ⟨#[b]⟩ 0 (Lib.countB s ⟨#[b]⟩) s
 have h2:=Zie b _ s.data.toList (Nat.le_refl _)
 have h3:(splitT s ⟨#[b]⟩).map (·.data.toList)=cutA b [] s.data.toList:=h.trans h2
 rw[cutT,<- h3,List.map_map]
 have e:(mkT ∘ fun x:ByteArray=>x.data.toList)=id:=by
  funext x
  rfl
 rw[e,List.map_id]
def wantI(x:List T):Want:=⟨atW x 1,numT (atW x 2),unstar (atW x 3),numT (atW x 4),numT (atW x 5),numT (atW x 6),numT (atW x 7)⟩
def lineOk(x:List T):Bool:=x.length == 8 && sEq (atW x 0) ⟨#[119,97,110,116]⟩
def linesI(acc:List Want):List T->Option (List Want)
 | []=>some acc
 | l::r=>if lineOk (cutT l 32) then linesI (acc++[wantI (cutT l 32)]) r else none
def wordsI(w:T)(ws ls:List T):Option Parcel :=
 if sEq w ⟨#[116,111,108,100]⟩ && ws.length == 3 then (match linesI [] ls with
  | some wants=>some ⟨1,atW ws 1,numT (atW ws 2),wants,⟨#[]⟩,⟨#[]⟩,0⟩
  | none=>none)
 else if ws.length == 5 && isAsk w then some ⟨readKind w,atW ws 1,0,[],atW ws 2,atW ws 3,numT (atW ws 4)⟩
 else if sEq w ⟨#[103,111,116,98,97,99,107]⟩ && ws.length == 4 then some ⟨5,atW ws 1,0,[],atW ws 2,⟨#[]⟩,numT (atW ws 3)⟩
 else if sEq w ⟨#[104,101,114,101]⟩ && ws.length == 3 then some ⟨6,atW ws 1,numT (atW ws 2),[],⟨#[]⟩,⟨#[]⟩,0⟩
 else some noParcel
def outI(s:T):Option Parcel->Parcel×Bool
 | some p=>if sEq (parcelForm p) s then (p,true) else (noParcel,false)
 | none=>(noParcel,false)
def readI(s:T):Parcel×Bool :=
 if Lib.hasSuffix s.data.toList [10] then outI s (wordsI (atW (cutT (atW (cutT (s.extract 0 (s.size-1)) 10) 0) 32) 0) (cutT (atW (cutT (s.extract 0 (s.size-1)) 10) 0) 32) (cutT (s.extract 0 (s.size-1)) 10).tail) else (noParcel,false)
theorem Zaf(s:T)(p:Parcel)(hs:p.small)(st:St)(n b:Nat)(W:AV)(s0:st.slots 0=.str s)(s2:st.slots 2=.ptr 0 0 0)(s7:st.slots 7=.ptr b 0 0)
  (h0:st.heap 0=some (.box (noParcel.c .own))) (hb:st.heap b=some (.box [.int .i64 p.kind,.str p.berth,.int .i64 p.seen,W,.str p.hold,.str p.copy,.int .i64 p.at_])) (hW:Held st.heap b p.wants W) (hn:st.next=n+1) (hz:st.base=0) (r:Parcel×Bool)
  (hr:r=outI s (some p)) :
  fin [.cell 2 7 true,.tmp 3] 0 (X F [.code tl207] (.normal,st))=some (.tup [.agg (r.1.c .own),.bool r.2],[]):=by
 have a:=law218 p hs
 simp only[Parcel.c]at a
 simp only[Parcel.c,noParcel,List.map_nil]at h0
 subst hr
 unfold outI
 rcases hW with ⟨rfl,hw⟩|⟨c,rfl,c1,c2,hc⟩
 ·rw[hw]at a
  simp only[List.map_nil]at a
  cases q:sEq (parcelForm p) s
  ·simp[tl207,s0,s2,s7,h0,hb,hn,hz,a,q,noParcel,Parcel.c]
  ·simp[tl207,s0,s2,s7,h0,hb,hn,hz,a,q,Parcel.c,hw]
 ·cases q:sEq (parcelForm p) s
  ·simp[tl207,s0,s2,s7,h0,hb,hn,hz,a,hc,c1,c2,q,noParcel,Parcel.c]
  ·simp[tl207,s0,s2,s7,h0,hb,hn,hz,a,hc,c1,c2,q,Parcel.c]
theorem law220c(s:T)(b:UInt8)(hs:s.size<=1048576):F 220 [.str s,.str ⟨#[b]⟩] []=some (.sl .own 1 ((cutT s b).map fun x=>[.str x]),[]):=by
 rw[law220 s ⟨#[b]⟩ (by omega) (by show 1<=1;omega),Zn2]
def partI(b:T)(n:Int)(ws:List Want):Parcel:=⟨1,b,n,ws,⟨#[]⟩,⟨#[]⟩,0⟩
def resR(r:Parcel×Bool):AV×List (Option AO):=(.tup [.agg (r.1.c .own),.bool r.2],[])
def head207(s l0:T)(ls:List T)(b:T)(n:Int)(j:Nat)(acc:List Want):St:=hd [(0,.str s),(2,.ptr 0 0 0),(6,.fn 221),(7,.ptr 1 0 0),(46,.view 2 1 ls.length),(47,.int .i64 ls.length),(48,.int .i64 j)]
 ([.box [.int .i64 0,.str ⟨#[]⟩,.int .i64 0,.sl .own 7 [],.str ⟨#[]⟩,.str ⟨#[]⟩,.int .i64 0],.box [.int .i64 1,.str b,.int .i64 n,wantsV acc,.str ⟨#[]⟩,.str ⟨#[]⟩,.int .i64 0],.arr 1 ((l0::ls).map fun x=>[.str x])]++wantsH acc) 0
theorem Zt5(s l0:T)(ls:List T)(b:T)(n:Int)(hls:∀ x∈ls,x.size<=1048576)(hlen:ls.length<=1048576)(st:St)(hst:st.norm [0,2,6,7,46,47,48]=head207 s l0 ls b n 0 []) :
  fin [.cell 2 7 true,.tmp 3] 0 (X F [.code (.loop [0,2,6,7,46,47,48] c207b0),.blk 1,.blk 0,.code tl207] (.normal,st))=some (resR (outI s ((linesI [] ls).map (partI b n)))):=by
 refine (Zab ls (fun j acc=>head207 s l0 ls b n j acc) (fun j (acc:List Want)=>acc.length<=j) (fun j r acc=>resR (outI s ((linesI acc r).map (partI b n)))) (fun acc Y hinv=>?_) (fun j l r acc Y ha hj hr hinv hY=>?_) [] hst (Nat.le_refl _) ?_).trans rfl
 ·have ht:=Zaf s (partI b n acc) ⟨by show acc.length<=_;omega⟩
  simp only[linesI,Option.map_some]
  cases acc with
  | nil =>
   simp[head207,c207b0,wantsV,wantsH]
   exact ht _ _ 1 (.sl .own 7 []) (by simp) (by simp) (by simp) (by simp[noParcel,Parcel.c]) (by simp[partI]) (.inl ⟨rfl,rfl⟩) (by simp;rfl) rfl _ rfl
  | cons a acc =>
   simp[head207,c207b0,wantsV,wantsH]
   exact ht _ _ 1 (.ref 3) (by simp) (by simp) (by simp) (by simp[noParcel,Parcel.c]) (by simp[partI]) (.inr ⟨3,rfl,by simp,by simp,by simp[partI]⟩) (by simp;rfl) rfl _ rfl
 ·have w1:IntKind.i64.wrap ((j:Int)+1)=(j:Int)+1:=i64w (by omega) (by omega)
  have h1:(j:Int)<ls.length:=by omega
  have h4:(acc.length+1)*72<=140737488355328:=by omega
  have h5:acc.length+1<=140737488355328:=by omega
  obtain⟨_,hg⟩:=List.getElem?_eq_some_iff.1 ha
  have hsl:=hls l (List.mem_of_getElem? ha)
  obtain⟨v,vr,hv⟩:=Zk7 l 32
  have a2:=law220c l 32 hsl
  rw[hv]at a2
  have hvs:∀ x∈v::vr,x.size<=281474976710656:=fun x hx=>by
   have:=Zf7 (s:=l) (b:=32) (x:=x) (by rw[hv];exact hx)
   omega
  simp only[List.map_cons]at a2
  have h6:1+ls.length<=ls.length+1:=by omega
  have h7:1+j=j+1:=Nat.add_comm _ _
  by_cases q8:vr.length=7
  ·obtain⟨y1,y2,y3,y4,y5,y6,y7,rfl⟩:∃ y1 y2 y3 y4 y5 y6 y7,vr=[y1,y2,y3,y4,y5,y6,y7]:=by
    match vr,q8 with
    | [y1,y2,y3,y4,y5,y6,y7],_=>exact⟨y1,y2,y3,y4,y5,y6,y7,rfl⟩
   have n2:=law221 y2 (hvs y2 (by simp))
   have n4:=law221 y4 (hvs y4 (by simp))
   have n5:=law221 y5 (hvs y5 (by simp))
   have n6:=law221 y6 (hvs y6 (by simp))
   have n7:=law221 y7 (hvs y7 (by simp))
   have p1:∀ (a:T) (b:Int) (c:T) (d e f g:Int),rowsPlain [[AV.str a,.int .i64 b,.str c,.int .i64 d,.int .i64 e,.int .i64 f,.int .i64 g]]=true:=fun _ _ _ _ _ _ _=>rfl
   cases q0:sEq v ⟨#[119,97,110,116]⟩
   ·have hno:lineOk (cutT l 32)=false:=by rw[hv];simp[lineOk,atW,q0]
    rw[linesI,hno]
    cases acc with
    | nil =>
     simp[head207,c207b0,h1,hj,hg,h6,h7,a2,q0,wantsV,wantsH,outI,resR,noParcel,Parcel.c]
    | cons a acc =>
     simp[head207,c207b0,h1,hj,hg,h6,h7,a2,q0,wantsV,wantsH,outI,resR,noParcel,Parcel.c]
   ·have hyes:lineOk (cutT l 32)=true:=by rw[hv];simp[lineOk,atW,q0]
    have hY':=fun s' h=>hY (acc++[wantI (cutT l 32)]) s' (by simp only[List.length_append,List.length_singleton];omega) h
    rw[linesI,hyes,if_pos rfl]
    rw[hv]at hY' ⊢
    cases q:sEq y3 ⟨#[42]⟩
    ·cases acc with
     | nil =>
      simp[head207,c207b0,h1,hj,hg,h6,h7,a2,q0,q,n2,n4,n5,n6,n7,takeRows,p1,wantsV,wantsH]
      rw[hY' _ (by simp[head207,w1,wantI,atW,unstar,q,wantsV,wantsH])]
      rfl
     | cons a acc =>
      simp only[List.length_cons]at h4 h5
      simp[head207,c207b0,h1,hj,hg,h6,h7,a2,q0,q,n2,n4,n5,n6,n7,takeRows,p1,wantsV,wantsH,h4,h5]
      rw[hY' _ (by simp[head207,w1,wantI,atW,unstar,q,wantsV,wantsH])]
      rfl
    ·cases acc with
     | nil =>
      simp[head207,c207b0,h1,hj,hg,h6,h7,a2,q0,q,n2,n4,n5,n6,n7,takeRows,p1,wantsV,wantsH]
      rw[hY' _ (by simp[head207,w1,wantI,atW,unstar,q,wantsV,wantsH])]
      rfl
     | cons a acc =>
      simp only[List.length_cons]at h4 h5
      simp[head207,c207b0,h1,hj,hg,h6,h7,a2,q0,q,n2,n4,n5,n6,n7,takeRows,p1,wantsV,wantsH,h4,h5]
      rw[hY' _ (by simp[head207,w1,wantI,atW,unstar,q,wantsV,wantsH])]
      rfl
  ·have q9:¬ (vr.length:Int)+1=8:=by omega
   have hno:lineOk (cutT l 32)=false:=by rw[hv];simp[lineOk,q8]
   rw[linesI,hno]
   cases acc with
   | nil =>
    simp[head207,c207b0,h1,hj,hg,h6,h7,a2,q9,wantsV,wantsH,outI,resR,noParcel,Parcel.c]
   | cons a acc =>
    simp[head207,c207b0,h1,hj,hg,h6,h7,a2,q9,wantsV,wantsH,outI,resR,noParcel,Parcel.c]
 ·unfold big;omega
theorem Zli{l:List UInt8}(h:Lib.hasSuffix l [10]=true):1<=l.length:=by
 cases l with
 | nil=>cases h
 | cons a l=>simp
structure Words(w:T)(a:Bool)(b:Bool)(c:Bool)(d:Bool)(e:Bool)(f:Bool):Prop where
 told:sEq w ⟨#[116,111,108,100]⟩=a
 asked:sEq w ⟨#[97,115,107,101,100]⟩=b
 given:sEq w ⟨#[103,105,118,101,110]⟩=c
 back:sEq w ⟨#[98,97,99,107]⟩=d
 gotback:sEq w ⟨#[103,111,116,98,97,99,107]⟩=e
 here:sEq w ⟨#[104,101,114,101]⟩=f
theorem Zrm(w:T):Words w true false false false false false\/Words w false true false false false false\/Words w false false true false false false\/Words w false false false true false false\/Words w false false false false true false\/Words w false false false false false true\/Words w false false false false false false:=by
 by_cases h0:w=⟨#[116,111,108,100]⟩
 ·subst h0
  exact .inl ⟨(Zac _ _).2 rfl,Zad (by intro e;cases e),Zad (by intro e;cases e),Zad (by intro e;cases e),Zad (by intro e;cases e),Zad (by intro e;cases e)⟩
 by_cases h1:w=⟨#[97,115,107,101,100]⟩
 ·subst h1
  exact .inr (.inl ⟨Zad (by intro e;cases e),(Zac _ _).2 rfl,Zad (by intro e;cases e),Zad (by intro e;cases e),Zad (by intro e;cases e),Zad (by intro e;cases e)⟩)
 by_cases h2:w=⟨#[103,105,118,101,110]⟩
 ·subst h2
  exact .inr (.inr (.inl ⟨Zad (by intro e;cases e),Zad (by intro e;cases e),(Zac _ _).2 rfl,Zad (by intro e;cases e),Zad (by intro e;cases e),Zad (by intro e;cases e)⟩))
 by_cases h3:w=⟨#[98,97,99,107]⟩
 ·subst h3
  exact .inr (.inr (.inr (.inl ⟨Zad (by intro e;cases e),Zad (by intro e;cases e),Zad (by intro e;cases e),(Zac _ _).2 rfl,Zad (by intro e;cases e),Zad (by intro e;cases e)⟩)))
 by_cases h4:w=⟨#[103,111,116,98,97,99,107]⟩
 ·subst h4
  exact .inr (.inr (.inr (.inr (.inl ⟨Zad (by intro e;cases e),Zad (by intro e;cases e),Zad (by intro e;cases e),Zad (by intro e;cases e),(Zac _ _).2 rfl,Zad (by intro e;cases e)⟩))))
 by_cases h5:w=⟨#[104,101,114,101]⟩
 ·subst h5
  exact .inr (.inr (.inr (.inr (.inr (.inl ⟨Zad (by intro e;cases e),Zad (by intro e;cases e),Zad (by intro e;cases e),Zad (by intro e;cases e),Zad (by intro e;cases e),(Zac _ _).2 rfl⟩)))))
 exact .inr (.inr (.inr (.inr (.inr (.inr (⟨Zad h0,Zad h1,Zad h2,Zad h3,Zad h4,Zad h5⟩))))))
theorem m1:sEq ⟨#[103,105,118,101,110]⟩ ⟨#[97,115,107,101,100]⟩=false:=Zad (by intro e;cases e)
theorem m2:sEq ⟨#[98,97,99,107]⟩ ⟨#[97,115,107,101,100]⟩=false:=Zad (by intro e;cases e)
theorem m3:sEq ⟨#[98,97,99,107]⟩ ⟨#[103,105,118,101,110]⟩=false:=Zad (by intro e;cases e)
set_option maxHeartbeats 8000000 in
theorem law207(s:T)(hs:s.size<=1048576):F 207 [.str s] []=some (.tup [.agg ((readI s).1.c .own),.bool (readI s).2],[]):=by
 refine Zah fn207 rfl ?_
 have a0:=law222 s ⟨#[10]⟩ (by omega)
 obtain⟨t,ht⟩:∃ t,t=s.extract 0 (s.size-1):=⟨_,rfl⟩
 have hts:t.size<=1048576:=by
  rw[ht,ByteArray.size_extract];omega
 obtain⟨l0,ls,hl⟩:=Zk7 t 10
 obtain⟨w,wr,hw⟩:=Zk7 l0 32
 have h0:atW (cutT t 10) 0=l0:=by rw[hl];rfl
 have h1:atW (cutT l0 32) 0=w:=by rw[hw];rfl
 have a1:=law220c t 10 hts
 have hl0:l0.size<=1048576:=Nat.le_trans (Zf7 (by rw[hl];exact List.mem_cons_self)) hts
 have a2:=law220c l0 32 hl0
 have hls:∀ x∈ls,x.size<=1048576:=fun x hx=>Nat.le_trans (Zf7 (b:=10) (by rw[hl];exact List.mem_cons_of_mem _ hx)) hts
 have hll:=Zs4 t 10
 rw[hl,List.length_cons]at hll
 have hws:∀ x∈w::wr,x.size<=281474976710656:=fun x hx=>by
  have:=Zf7 (s:=l0) (b:=32) (x:=x) (by rw[hw];exact hx)
  omega
 rw[hl]at a1
 rw[hw]at a2
 simp only[List.map_cons]at a1 a2
 cases k0:Lib.hasSuffix s.data.toList [10]
 ·have e0:Lib.hasSuffix s.data.toList (⟨#[10]⟩:T).data.toList=false:=k0
  simp[c207_cut,a0,e0,readI,k0,noParcel,Parcel.c]
 ·have e0:Lib.hasSuffix s.data.toList (⟨#[10]⟩:T).data.toList=true:=k0
  have z0:1<=s.size:=Zli k0
  have z1:IntKind.i64.wrap ((s.size:Int)-1)=(s.size:Int)-1:=i64w (by omega) (by omega)
  have z2:(0:Int)<=(s.size:Int)-1:=by omega
  have z3:(s.size:Int)-1<=s.size:=by omega
  have z4:((s.size:Int)-1).toNat=s.size-1:=by omega
  have z5:s.extract 0 (s.size-1)=t:=ht.symm
  have z6:(1:Int)<=s.size:=by omega
  have hR:readI s=outI s (wordsI w (w::wr) ls):=by
   rw[readI,k0,if_pos rfl,z5,h0,h1];simp only[hl,hw,List.tail_cons]
  obtain⟨R,hR2⟩:∃ R,R=readI s:=⟨_,rfl⟩
  rw[<- hR2]
  rw[hR]at hR2
  clear hR
  rcases Zrm w with hwd|hwd|hwd|hwd|hwd|hwd|hwd
  ·obtain⟨k1,k2,k3,k4,k5,k6⟩:=hwd
   rcases wr with _|⟨a,_|⟨b,_|⟨c,_|⟨d,_|⟨e,r⟩⟩⟩⟩⟩
   ·simp[c207_cut,a0,e0,slBounds,z1,z2,z3,z4,z5,z6,a1,a2,k1,k2,k3,k4,k5,k6]
    exact Zaf s noParcel ⟨Nat.zero_le _⟩ _ _ 1152 (.sl .own 7 []) (by simp) (by simp) (by simp) (by simp[noParcel,Parcel.c]) (by simp[noParcel]) (.inl ⟨rfl,rfl⟩) (by simp;rfl) rfl R (by rw[hR2];simp[wordsI,isAsk,readKind,atW,k1,k2,k3,k4,k5,k6])
   ·simp[c207_cut,a0,e0,slBounds,z1,z2,z3,z4,z5,z6,a1,a2,k1,k2,k3,k4,k5,k6]
    exact Zaf s noParcel ⟨Nat.zero_le _⟩ _ _ 1152 (.sl .own 7 []) (by simp) (by simp) (by simp) (by simp[noParcel,Parcel.c]) (by simp[noParcel]) (.inl ⟨rfl,rfl⟩) (by simp;rfl) rfl R (by rw[hR2];simp[wordsI,isAsk,readKind,atW,k1,k2,k3,k4,k5,k6])
   ·have nb:=law221 b (hws b (by simp))
    have z7:(1:Int)<=(ls.length:Int)+1:=by omega
    have z8:1+ls.length<=ls.length+1:=by omega
    have z9:(ls.map fun x=>[AV.str x]).take ls.length=ls.map fun x=>[AV.str x]:=List.take_of_length_le (by simp)
    simp[c207_cut,a0,e0,slBounds,z1,z2,z3,z4,z5,z6,a1,a2,k1,k2,k3,k4,k5,k6,nb,z7,z8,z9]
    refine (Zt5 s l0 ls a (numT b) hls (by omega) _ ?_).trans ?_
    ·simp[head207,wantsV,wantsH]
    ·rw[hR2,wordsI]
     simp[k1,atW]
     cases linesI [] ls<;>rfl
   ·simp[c207_cut,a0,e0,slBounds,z1,z2,z3,z4,z5,z6,a1,a2,k1,k2,k3,k4,k5,k6]
    exact Zaf s noParcel ⟨Nat.zero_le _⟩ _ _ 1152 (.sl .own 7 []) (by simp) (by simp) (by simp) (by simp[noParcel,Parcel.c]) (by simp[noParcel]) (.inl ⟨rfl,rfl⟩) (by simp;rfl) rfl R (by rw[hR2];simp[wordsI,isAsk,readKind,atW,k1,k2,k3,k4,k5,k6])
   ·simp[c207_cut,a0,e0,slBounds,z1,z2,z3,z4,z5,z6,a1,a2,k1,k2,k3,k4,k5,k6]
    exact Zaf s noParcel ⟨Nat.zero_le _⟩ _ _ 1152 (.sl .own 7 []) (by simp) (by simp) (by simp) (by simp[noParcel,Parcel.c]) (by simp[noParcel]) (.inl ⟨rfl,rfl⟩) (by simp;rfl) rfl R (by rw[hR2];simp[wordsI,isAsk,readKind,atW,k1,k2,k3,k4,k5,k6])
   ·have q3:¬ (r.length:Int)+1+1+1+1+1+1=3:=by omega
    have q4:¬ (r.length:Int)+1+1+1+1+1+1=4:=by omega
    have q5:¬ (r.length:Int)+1+1+1+1+1+1=5:=by omega
    simp[c207_cut,a0,e0,slBounds,z1,z2,z3,z4,z5,z6,a1,a2,k1,k2,k3,k4,k5,k6,q3,q4,q5]
    exact Zaf s noParcel ⟨Nat.zero_le _⟩ _ _ 1152 (.sl .own 7 []) (by simp) (by simp) (by simp) (by simp[noParcel,Parcel.c]) (by simp[noParcel]) (.inl ⟨rfl,rfl⟩) (by simp;rfl) rfl R (by rw[hR2];simp[wordsI,isAsk,readKind,atW,k1,k2,k3,k4,k5,k6])
  ·obtain⟨k1,k2,k3,k4,k5,k6⟩:=hwd
   rcases wr with _|⟨a,_|⟨b,_|⟨c,_|⟨d,_|⟨e,r⟩⟩⟩⟩⟩
   ·simp[c207_cut,a0,e0,slBounds,z1,z2,z3,z4,z5,z6,a1,a2,k1,k2,k3,k4,k5,k6]
    exact Zaf s noParcel ⟨Nat.zero_le _⟩ _ _ 1152 (.sl .own 7 []) (by simp) (by simp) (by simp) (by simp[noParcel,Parcel.c]) (by simp[noParcel]) (.inl ⟨rfl,rfl⟩) (by simp;rfl) rfl R (by rw[hR2];simp[wordsI,isAsk,readKind,atW,k1,k2,k3,k4,k5,k6])
   ·simp[c207_cut,a0,e0,slBounds,z1,z2,z3,z4,z5,z6,a1,a2,k1,k2,k3,k4,k5,k6]
    exact Zaf s noParcel ⟨Nat.zero_le _⟩ _ _ 1152 (.sl .own 7 []) (by simp) (by simp) (by simp) (by simp[noParcel,Parcel.c]) (by simp[noParcel]) (.inl ⟨rfl,rfl⟩) (by simp;rfl) rfl R (by rw[hR2];simp[wordsI,isAsk,readKind,atW,k1,k2,k3,k4,k5,k6])
   ·simp[c207_cut,a0,e0,slBounds,z1,z2,z3,z4,z5,z6,a1,a2,k1,k2,k3,k4,k5,k6]
    exact Zaf s noParcel ⟨Nat.zero_le _⟩ _ _ 1152 (.sl .own 7 []) (by simp) (by simp) (by simp) (by simp[noParcel,Parcel.c]) (by simp[noParcel]) (.inl ⟨rfl,rfl⟩) (by simp;rfl) rfl R (by rw[hR2];simp[wordsI,isAsk,readKind,atW,k1,k2,k3,k4,k5,k6])
   ·simp[c207_cut,a0,e0,slBounds,z1,z2,z3,z4,z5,z6,a1,a2,k1,k2,k3,k4,k5,k6]
    exact Zaf s noParcel ⟨Nat.zero_le _⟩ _ _ 1152 (.sl .own 7 []) (by simp) (by simp) (by simp) (by simp[noParcel,Parcel.c]) (by simp[noParcel]) (.inl ⟨rfl,rfl⟩) (by simp;rfl) rfl R (by rw[hR2];simp[wordsI,isAsk,readKind,atW,k1,k2,k3,k4,k5,k6])
   ·have nb:=law221 d (hws d (by simp))
    simp[c207_cut,a0,e0,slBounds,z1,z2,z3,z4,z5,z6,a1,a2,k1,k2,k3,k4,k5,k6,nb,mapGet,mapPut,noKeys,m1,m2,m3]
    exact Zaf s ⟨2,a,0,[],b,c,numT d⟩ ⟨Nat.zero_le _⟩ _ _ 1152 (.sl .own 7 []) (by simp) (by simp) (by simp) (by simp[noParcel,Parcel.c]) (by simp[noParcel]) (.inl ⟨rfl,rfl⟩) (by simp;rfl) rfl R (by rw[hR2];simp[wordsI,isAsk,readKind,atW,k1,k2,k3,k4,k5,k6])
   ·have q3:¬ (r.length:Int)+1+1+1+1+1+1=3:=by omega
    have q4:¬ (r.length:Int)+1+1+1+1+1+1=4:=by omega
    have q5:¬ (r.length:Int)+1+1+1+1+1+1=5:=by omega
    simp[c207_cut,a0,e0,slBounds,z1,z2,z3,z4,z5,z6,a1,a2,k1,k2,k3,k4,k5,k6,q3,q4,q5]
    exact Zaf s noParcel ⟨Nat.zero_le _⟩ _ _ 1152 (.sl .own 7 []) (by simp) (by simp) (by simp) (by simp[noParcel,Parcel.c]) (by simp[noParcel]) (.inl ⟨rfl,rfl⟩) (by simp;rfl) rfl R (by rw[hR2];simp[wordsI,isAsk,readKind,atW,k1,k2,k3,k4,k5,k6])
  ·obtain⟨k1,k2,k3,k4,k5,k6⟩:=hwd
   rcases wr with _|⟨a,_|⟨b,_|⟨c,_|⟨d,_|⟨e,r⟩⟩⟩⟩⟩
   ·simp[c207_cut,a0,e0,slBounds,z1,z2,z3,z4,z5,z6,a1,a2,k1,k2,k3,k4,k5,k6]
    exact Zaf s noParcel ⟨Nat.zero_le _⟩ _ _ 1152 (.sl .own 7 []) (by simp) (by simp) (by simp) (by simp[noParcel,Parcel.c]) (by simp[noParcel]) (.inl ⟨rfl,rfl⟩) (by simp;rfl) rfl R (by rw[hR2];simp[wordsI,isAsk,readKind,atW,k1,k2,k3,k4,k5,k6])
   ·simp[c207_cut,a0,e0,slBounds,z1,z2,z3,z4,z5,z6,a1,a2,k1,k2,k3,k4,k5,k6]
    exact Zaf s noParcel ⟨Nat.zero_le _⟩ _ _ 1152 (.sl .own 7 []) (by simp) (by simp) (by simp) (by simp[noParcel,Parcel.c]) (by simp[noParcel]) (.inl ⟨rfl,rfl⟩) (by simp;rfl) rfl R (by rw[hR2];simp[wordsI,isAsk,readKind,atW,k1,k2,k3,k4,k5,k6])
   ·simp[c207_cut,a0,e0,slBounds,z1,z2,z3,z4,z5,z6,a1,a2,k1,k2,k3,k4,k5,k6]
    exact Zaf s noParcel ⟨Nat.zero_le _⟩ _ _ 1152 (.sl .own 7 []) (by simp) (by simp) (by simp) (by simp[noParcel,Parcel.c]) (by simp[noParcel]) (.inl ⟨rfl,rfl⟩) (by simp;rfl) rfl R (by rw[hR2];simp[wordsI,isAsk,readKind,atW,k1,k2,k3,k4,k5,k6])
   ·simp[c207_cut,a0,e0,slBounds,z1,z2,z3,z4,z5,z6,a1,a2,k1,k2,k3,k4,k5,k6]
    exact Zaf s noParcel ⟨Nat.zero_le _⟩ _ _ 1152 (.sl .own 7 []) (by simp) (by simp) (by simp) (by simp[noParcel,Parcel.c]) (by simp[noParcel]) (.inl ⟨rfl,rfl⟩) (by simp;rfl) rfl R (by rw[hR2];simp[wordsI,isAsk,readKind,atW,k1,k2,k3,k4,k5,k6])
   ·have nb:=law221 d (hws d (by simp))
    simp[c207_cut,a0,e0,slBounds,z1,z2,z3,z4,z5,z6,a1,a2,k1,k2,k3,k4,k5,k6,nb,mapGet,mapPut,noKeys,m1,m2,m3]
    exact Zaf s ⟨3,a,0,[],b,c,numT d⟩ ⟨Nat.zero_le _⟩ _ _ 1152 (.sl .own 7 []) (by simp) (by simp) (by simp) (by simp[noParcel,Parcel.c]) (by simp[noParcel]) (.inl ⟨rfl,rfl⟩) (by simp;rfl) rfl R (by rw[hR2];simp[wordsI,isAsk,readKind,atW,k1,k2,k3,k4,k5,k6])
   ·have q3:¬ (r.length:Int)+1+1+1+1+1+1=3:=by omega
    have q4:¬ (r.length:Int)+1+1+1+1+1+1=4:=by omega
    have q5:¬ (r.length:Int)+1+1+1+1+1+1=5:=by omega
    simp[c207_cut,a0,e0,slBounds,z1,z2,z3,z4,z5,z6,a1,a2,k1,k2,k3,k4,k5,k6,q3,q4,q5]
    exact Zaf s noParcel ⟨Nat.zero_le _⟩ _ _ 1152 (.sl .own 7 []) (by simp) (by simp) (by simp) (by simp[noParcel,Parcel.c]) (by simp[noParcel]) (.inl ⟨rfl,rfl⟩) (by simp;rfl) rfl R (by rw[hR2];simp[wordsI,isAsk,readKind,atW,k1,k2,k3,k4,k5,k6])
  ·obtain⟨k1,k2,k3,k4,k5,k6⟩:=hwd
   rcases wr with _|⟨a,_|⟨b,_|⟨c,_|⟨d,_|⟨e,r⟩⟩⟩⟩⟩
   ·simp[c207_cut,a0,e0,slBounds,z1,z2,z3,z4,z5,z6,a1,a2,k1,k2,k3,k4,k5,k6]
    exact Zaf s noParcel ⟨Nat.zero_le _⟩ _ _ 1152 (.sl .own 7 []) (by simp) (by simp) (by simp) (by simp[noParcel,Parcel.c]) (by simp[noParcel]) (.inl ⟨rfl,rfl⟩) (by simp;rfl) rfl R (by rw[hR2];simp[wordsI,isAsk,readKind,atW,k1,k2,k3,k4,k5,k6])
   ·simp[c207_cut,a0,e0,slBounds,z1,z2,z3,z4,z5,z6,a1,a2,k1,k2,k3,k4,k5,k6]
    exact Zaf s noParcel ⟨Nat.zero_le _⟩ _ _ 1152 (.sl .own 7 []) (by simp) (by simp) (by simp) (by simp[noParcel,Parcel.c]) (by simp[noParcel]) (.inl ⟨rfl,rfl⟩) (by simp;rfl) rfl R (by rw[hR2];simp[wordsI,isAsk,readKind,atW,k1,k2,k3,k4,k5,k6])
   ·simp[c207_cut,a0,e0,slBounds,z1,z2,z3,z4,z5,z6,a1,a2,k1,k2,k3,k4,k5,k6]
    exact Zaf s noParcel ⟨Nat.zero_le _⟩ _ _ 1152 (.sl .own 7 []) (by simp) (by simp) (by simp) (by simp[noParcel,Parcel.c]) (by simp[noParcel]) (.inl ⟨rfl,rfl⟩) (by simp;rfl) rfl R (by rw[hR2];simp[wordsI,isAsk,readKind,atW,k1,k2,k3,k4,k5,k6])
   ·simp[c207_cut,a0,e0,slBounds,z1,z2,z3,z4,z5,z6,a1,a2,k1,k2,k3,k4,k5,k6]
    exact Zaf s noParcel ⟨Nat.zero_le _⟩ _ _ 1152 (.sl .own 7 []) (by simp) (by simp) (by simp) (by simp[noParcel,Parcel.c]) (by simp[noParcel]) (.inl ⟨rfl,rfl⟩) (by simp;rfl) rfl R (by rw[hR2];simp[wordsI,isAsk,readKind,atW,k1,k2,k3,k4,k5,k6])
   ·have nb:=law221 d (hws d (by simp))
    simp[c207_cut,a0,e0,slBounds,z1,z2,z3,z4,z5,z6,a1,a2,k1,k2,k3,k4,k5,k6,nb,mapGet,mapPut,noKeys,m1,m2,m3]
    exact Zaf s ⟨4,a,0,[],b,c,numT d⟩ ⟨Nat.zero_le _⟩ _ _ 1152 (.sl .own 7 []) (by simp) (by simp) (by simp) (by simp[noParcel,Parcel.c]) (by simp[noParcel]) (.inl ⟨rfl,rfl⟩) (by simp;rfl) rfl R (by rw[hR2];simp[wordsI,isAsk,readKind,atW,k1,k2,k3,k4,k5,k6])
   ·have q3:¬ (r.length:Int)+1+1+1+1+1+1=3:=by omega
    have q4:¬ (r.length:Int)+1+1+1+1+1+1=4:=by omega
    have q5:¬ (r.length:Int)+1+1+1+1+1+1=5:=by omega
    simp[c207_cut,a0,e0,slBounds,z1,z2,z3,z4,z5,z6,a1,a2,k1,k2,k3,k4,k5,k6,q3,q4,q5]
    exact Zaf s noParcel ⟨Nat.zero_le _⟩ _ _ 1152 (.sl .own 7 []) (by simp) (by simp) (by simp) (by simp[noParcel,Parcel.c]) (by simp[noParcel]) (.inl ⟨rfl,rfl⟩) (by simp;rfl) rfl R (by rw[hR2];simp[wordsI,isAsk,readKind,atW,k1,k2,k3,k4,k5,k6])
  ·obtain⟨k1,k2,k3,k4,k5,k6⟩:=hwd
   rcases wr with _|⟨a,_|⟨b,_|⟨c,_|⟨d,_|⟨e,r⟩⟩⟩⟩⟩
   ·simp[c207_cut,a0,e0,slBounds,z1,z2,z3,z4,z5,z6,a1,a2,k1,k2,k3,k4,k5,k6]
    exact Zaf s noParcel ⟨Nat.zero_le _⟩ _ _ 1152 (.sl .own 7 []) (by simp) (by simp) (by simp) (by simp[noParcel,Parcel.c]) (by simp[noParcel]) (.inl ⟨rfl,rfl⟩) (by simp;rfl) rfl R (by rw[hR2];simp[wordsI,isAsk,readKind,atW,k1,k2,k3,k4,k5,k6])
   ·simp[c207_cut,a0,e0,slBounds,z1,z2,z3,z4,z5,z6,a1,a2,k1,k2,k3,k4,k5,k6]
    exact Zaf s noParcel ⟨Nat.zero_le _⟩ _ _ 1152 (.sl .own 7 []) (by simp) (by simp) (by simp) (by simp[noParcel,Parcel.c]) (by simp[noParcel]) (.inl ⟨rfl,rfl⟩) (by simp;rfl) rfl R (by rw[hR2];simp[wordsI,isAsk,readKind,atW,k1,k2,k3,k4,k5,k6])
   ·simp[c207_cut,a0,e0,slBounds,z1,z2,z3,z4,z5,z6,a1,a2,k1,k2,k3,k4,k5,k6]
    exact Zaf s noParcel ⟨Nat.zero_le _⟩ _ _ 1152 (.sl .own 7 []) (by simp) (by simp) (by simp) (by simp[noParcel,Parcel.c]) (by simp[noParcel]) (.inl ⟨rfl,rfl⟩) (by simp;rfl) rfl R (by rw[hR2];simp[wordsI,isAsk,readKind,atW,k1,k2,k3,k4,k5,k6])
   ·have nb:=law221 c (hws c (by simp))
    simp[c207_cut,a0,e0,slBounds,z1,z2,z3,z4,z5,z6,a1,a2,k1,k2,k3,k4,k5,k6,nb]
    exact Zaf s ⟨5,a,0,[],b,⟨#[]⟩,numT c⟩ ⟨Nat.zero_le _⟩ _ _ 1152 (.sl .own 7 []) (by simp) (by simp) (by simp) (by simp[noParcel,Parcel.c]) (by simp[noParcel]) (.inl ⟨rfl,rfl⟩) (by simp;rfl) rfl R (by rw[hR2];simp[wordsI,isAsk,readKind,atW,k1,k2,k3,k4,k5,k6])
   ·simp[c207_cut,a0,e0,slBounds,z1,z2,z3,z4,z5,z6,a1,a2,k1,k2,k3,k4,k5,k6]
    exact Zaf s noParcel ⟨Nat.zero_le _⟩ _ _ 1152 (.sl .own 7 []) (by simp) (by simp) (by simp) (by simp[noParcel,Parcel.c]) (by simp[noParcel]) (.inl ⟨rfl,rfl⟩) (by simp;rfl) rfl R (by rw[hR2];simp[wordsI,isAsk,readKind,atW,k1,k2,k3,k4,k5,k6])
   ·have q3:¬ (r.length:Int)+1+1+1+1+1+1=3:=by omega
    have q4:¬ (r.length:Int)+1+1+1+1+1+1=4:=by omega
    have q5:¬ (r.length:Int)+1+1+1+1+1+1=5:=by omega
    simp[c207_cut,a0,e0,slBounds,z1,z2,z3,z4,z5,z6,a1,a2,k1,k2,k3,k4,k5,k6,q3,q4,q5]
    exact Zaf s noParcel ⟨Nat.zero_le _⟩ _ _ 1152 (.sl .own 7 []) (by simp) (by simp) (by simp) (by simp[noParcel,Parcel.c]) (by simp[noParcel]) (.inl ⟨rfl,rfl⟩) (by simp;rfl) rfl R (by rw[hR2];simp[wordsI,isAsk,readKind,atW,k1,k2,k3,k4,k5,k6])
  ·obtain⟨k1,k2,k3,k4,k5,k6⟩:=hwd
   rcases wr with _|⟨a,_|⟨b,_|⟨c,_|⟨d,_|⟨e,r⟩⟩⟩⟩⟩
   ·simp[c207_cut,a0,e0,slBounds,z1,z2,z3,z4,z5,z6,a1,a2,k1,k2,k3,k4,k5,k6]
    exact Zaf s noParcel ⟨Nat.zero_le _⟩ _ _ 1152 (.sl .own 7 []) (by simp) (by simp) (by simp) (by simp[noParcel,Parcel.c]) (by simp[noParcel]) (.inl ⟨rfl,rfl⟩) (by simp;rfl) rfl R (by rw[hR2];simp[wordsI,isAsk,readKind,atW,k1,k2,k3,k4,k5,k6])
   ·simp[c207_cut,a0,e0,slBounds,z1,z2,z3,z4,z5,z6,a1,a2,k1,k2,k3,k4,k5,k6]
    exact Zaf s noParcel ⟨Nat.zero_le _⟩ _ _ 1152 (.sl .own 7 []) (by simp) (by simp) (by simp) (by simp[noParcel,Parcel.c]) (by simp[noParcel]) (.inl ⟨rfl,rfl⟩) (by simp;rfl) rfl R (by rw[hR2];simp[wordsI,isAsk,readKind,atW,k1,k2,k3,k4,k5,k6])
   ·have nb:=law221 b (hws b (by simp))
    simp[c207_cut,a0,e0,slBounds,z1,z2,z3,z4,z5,z6,a1,a2,k1,k2,k3,k4,k5,k6,nb]
    exact Zaf s ⟨6,a,numT b,[],⟨#[]⟩,⟨#[]⟩,0⟩ ⟨Nat.zero_le _⟩ _ _ 1152 (.sl .own 7 []) (by simp) (by simp) (by simp) (by simp[noParcel,Parcel.c]) (by simp[noParcel]) (.inl ⟨rfl,rfl⟩) (by simp;rfl) rfl R (by rw[hR2];simp[wordsI,isAsk,readKind,atW,k1,k2,k3,k4,k5,k6])
   ·simp[c207_cut,a0,e0,slBounds,z1,z2,z3,z4,z5,z6,a1,a2,k1,k2,k3,k4,k5,k6]
    exact Zaf s noParcel ⟨Nat.zero_le _⟩ _ _ 1152 (.sl .own 7 []) (by simp) (by simp) (by simp) (by simp[noParcel,Parcel.c]) (by simp[noParcel]) (.inl ⟨rfl,rfl⟩) (by simp;rfl) rfl R (by rw[hR2];simp[wordsI,isAsk,readKind,atW,k1,k2,k3,k4,k5,k6])
   ·simp[c207_cut,a0,e0,slBounds,z1,z2,z3,z4,z5,z6,a1,a2,k1,k2,k3,k4,k5,k6]
    exact Zaf s noParcel ⟨Nat.zero_le _⟩ _ _ 1152 (.sl .own 7 []) (by simp) (by simp) (by simp) (by simp[noParcel,Parcel.c]) (by simp[noParcel]) (.inl ⟨rfl,rfl⟩) (by simp;rfl) rfl R (by rw[hR2];simp[wordsI,isAsk,readKind,atW,k1,k2,k3,k4,k5,k6])
   ·have q3:¬ (r.length:Int)+1+1+1+1+1+1=3:=by omega
    have q4:¬ (r.length:Int)+1+1+1+1+1+1=4:=by omega
    have q5:¬ (r.length:Int)+1+1+1+1+1+1=5:=by omega
    simp[c207_cut,a0,e0,slBounds,z1,z2,z3,z4,z5,z6,a1,a2,k1,k2,k3,k4,k5,k6,q3,q4,q5]
    exact Zaf s noParcel ⟨Nat.zero_le _⟩ _ _ 1152 (.sl .own 7 []) (by simp) (by simp) (by simp) (by simp[noParcel,Parcel.c]) (by simp[noParcel]) (.inl ⟨rfl,rfl⟩) (by simp;rfl) rfl R (by rw[hR2];simp[wordsI,isAsk,readKind,atW,k1,k2,k3,k4,k5,k6])
  ·obtain⟨k1,k2,k3,k4,k5,k6⟩:=hwd
   rcases wr with _|⟨a,_|⟨b,_|⟨c,_|⟨d,_|⟨e,r⟩⟩⟩⟩⟩
   ·simp[c207_cut,a0,e0,slBounds,z1,z2,z3,z4,z5,z6,a1,a2,k1,k2,k3,k4,k5,k6]
    exact Zaf s noParcel ⟨Nat.zero_le _⟩ _ _ 1152 (.sl .own 7 []) (by simp) (by simp) (by simp) (by simp[noParcel,Parcel.c]) (by simp[noParcel]) (.inl ⟨rfl,rfl⟩) (by simp;rfl) rfl R (by rw[hR2];simp[wordsI,isAsk,readKind,atW,k1,k2,k3,k4,k5,k6])
   ·simp[c207_cut,a0,e0,slBounds,z1,z2,z3,z4,z5,z6,a1,a2,k1,k2,k3,k4,k5,k6]
    exact Zaf s noParcel ⟨Nat.zero_le _⟩ _ _ 1152 (.sl .own 7 []) (by simp) (by simp) (by simp) (by simp[noParcel,Parcel.c]) (by simp[noParcel]) (.inl ⟨rfl,rfl⟩) (by simp;rfl) rfl R (by rw[hR2];simp[wordsI,isAsk,readKind,atW,k1,k2,k3,k4,k5,k6])
   ·simp[c207_cut,a0,e0,slBounds,z1,z2,z3,z4,z5,z6,a1,a2,k1,k2,k3,k4,k5,k6]
    exact Zaf s noParcel ⟨Nat.zero_le _⟩ _ _ 1152 (.sl .own 7 []) (by simp) (by simp) (by simp) (by simp[noParcel,Parcel.c]) (by simp[noParcel]) (.inl ⟨rfl,rfl⟩) (by simp;rfl) rfl R (by rw[hR2];simp[wordsI,isAsk,readKind,atW,k1,k2,k3,k4,k5,k6])
   ·simp[c207_cut,a0,e0,slBounds,z1,z2,z3,z4,z5,z6,a1,a2,k1,k2,k3,k4,k5,k6]
    exact Zaf s noParcel ⟨Nat.zero_le _⟩ _ _ 1152 (.sl .own 7 []) (by simp) (by simp) (by simp) (by simp[noParcel,Parcel.c]) (by simp[noParcel]) (.inl ⟨rfl,rfl⟩) (by simp;rfl) rfl R (by rw[hR2];simp[wordsI,isAsk,readKind,atW,k1,k2,k3,k4,k5,k6])
   ·simp[c207_cut,a0,e0,slBounds,z1,z2,z3,z4,z5,z6,a1,a2,k1,k2,k3,k4,k5,k6]
    exact Zaf s noParcel ⟨Nat.zero_le _⟩ _ _ 1152 (.sl .own 7 []) (by simp) (by simp) (by simp) (by simp[noParcel,Parcel.c]) (by simp[noParcel]) (.inl ⟨rfl,rfl⟩) (by simp;rfl) rfl R (by rw[hR2];simp[wordsI,isAsk,readKind,atW,k1,k2,k3,k4,k5,k6])
   ·have q3:¬ (r.length:Int)+1+1+1+1+1+1=3:=by omega
    have q4:¬ (r.length:Int)+1+1+1+1+1+1=4:=by omega
    have q5:¬ (r.length:Int)+1+1+1+1+1+1=5:=by omega
    simp[c207_cut,a0,e0,slBounds,z1,z2,z3,z4,z5,z6,a1,a2,k1,k2,k3,k4,k5,k6,q3,q4,q5]
    exact Zaf s noParcel ⟨Nat.zero_le _⟩ _ _ 1152 (.sl .own 7 []) (by simp) (by simp) (by simp) (by simp[noParcel,Parcel.c]) (by simp[noParcel]) (.inl ⟨rfl,rfl⟩) (by simp;rfl) rfl R (by rw[hR2];simp[wordsI,isAsk,readKind,atW,k1,k2,k3,k4,k5,k6])
/-! ### Numbers -/
theorem Zck{d:Nat}(h:d<10):(UInt8.ofNat (48+d)).toNat=48+d:=by
 rw[UInt8.toNat_ofNat'];omega
theorem Zkn:∀ (n:Nat) (x:UInt8),x∈Lib.decDigits n->48<=x.toNat/\x.toNat<=57:=by
 intro n
 induction n using Nat.strongRecOn with
 | ind n ih =>
  intro x hx
  rw[Lib.decDigits]at hx
  split at hx
  ·simp only[List.mem_singleton]at hx
   subst hx
   rw[Zck (by omega)];omega
  ·rcases List.mem_append.1 hx with hx|hx
   ·exact ih (n / 10) (by omega) x hx
   ·simp only[List.mem_singleton]at hx
    subst hx
    rw[Zck (by omega)];omega
theorem Ztd(n:Nat):∃ c r,Lib.decDigits n=c::r:=by
 cases h:Lib.decDigits n with
 | cons c r=>exact⟨c,r,rfl⟩
 | nil =>
  rw[Lib.decDigits]at h
  split at h<;>simp at h
theorem Zro:∀ (n:Nat),n<=1000000->∀ r,Lib.parseUint10 0 (Lib.decDigits n++r)=Lib.parseUint10 n r:=by
 intro n
 induction n using Nat.strongRecOn with
 | ind n ih =>
  intro hn r
  rw[Lib.decDigits]
  split
  ·rename_i h
   rw[List.cons_append,List.nil_append,Lib.parseUint10,Zck h,if_pos ⟨by omega,by omega⟩,if_neg (by omega),if_neg (by omega)]
   congr 1;omega
  ·have hd:n % 10<10:=by omega
   rw[List.append_assoc,ih (n / 10) (by omega) (by omega),List.cons_append,List.nil_append,Lib.parseUint10,Zck hd,if_pos ⟨by omega,by omega⟩,if_neg (by omega),if_neg (by omega)]
   congr 1;omega
theorem Zsq:∀ (n:Nat) (r:List UInt8),digs 0 (Lib.decDigits n++r)=digs n r:=by
 intro n
 induction n using Nat.strongRecOn with
 | ind n ih =>
  intro r
  rw[Lib.decDigits]
  split
  ·rename_i h
   rw[List.cons_append,List.nil_append,digs,Zck h,if_pos ⟨by omega,by omega⟩]
   congr 1;omega
  ·have hd:n % 10<10:=by omega
   rw[List.append_assoc,ih (n / 10) (by omega),List.cons_append,List.nil_append,digs,Zck hd,if_pos ⟨by omega,by omega⟩]
   congr 1;omega
theorem Za9(n:Int)(h0:0<=n)(h1:n<=1000000):numT (dec n.toNat)=n:=by
 unfold numT
 rw[Zbi]
 obtain⟨c,r,e⟩:=Ztd n.toNat
 have hc:=Zkn n.toNat c (by rw[e];exact List.mem_cons_self)
 have hp:=Zro n.toNat (by omega) []
 rw[List.append_nil]at hp
 rw[e]at hp ⊢
 simp only[Lib.atoiAll,Lib.parseMag]
 have hs:¬ (c.toNat=43\/c.toNat=45):=by omega
 have hm:¬ c.toNat=45:=by omega
 rw[if_neg hs,if_neg (List.cons_ne_nil _ _),hp]
 simp only[Lib.parseUint10]
 rw[if_neg (by omega),if_neg (by omega),if_neg hm]
 show ((n.toNat:Nat):Int)=n
 omega
theorem Zba(n:Int)(h0:0<=n)(h1:n<=1000000):num7 (dec n.toNat)=n:=by
 have hs:=(law140' n h0 h1).2
 obtain⟨c,r,e⟩:=Ztd n.toNat
 have h1:1<=(dec n.toNat).size:=by
  rw[<- Zar,Zbi,e];simp
 have hd:=Zsq n.toNat []
 rw[List.append_nil]at hd
 rw[num7,if_pos ⟨h1,hs⟩,Zbi,hd]
 simp only[digs]
 rw[show ((n.toNat:Nat):Int)=n by omega,(Zac _ _).2 rfl]
 rfl
/-! ### Lines and words -/
def lns(ls:List (List UInt8)):List UInt8:=ls.flatMap (·++[10])
def wds(w:List UInt8)(r:List (List UInt8)):List UInt8:=w++r.flatMap (32::·)
theorem Zp0:∀ (w:List UInt8) (r:List (List UInt8)),(∀ x∈w::r,¬ (32:UInt8)∈x)->cutA 32 [] (wds w r)=w::r
 | w,[],h=>by
  rw[wds,List.flatMap_nil,List.append_nil,Zi8 _ (h w List.mem_cons_self)];rfl
 | w,v::r,h=>by
  rw[wds,List.flatMap_cons,List.cons_append,Zhn _ (h w List.mem_cons_self),List.nil_append]
  have:=Zp0 v r (fun x hx=>h x (List.mem_cons_of_mem _ hx))
  rw[wds]at this
  rw[this]
theorem Zrc:∀ (ls:List (List UInt8)),(∀ x∈ls,¬ (10:UInt8)∈x)->cutA 10 [] (lns ls)=ls++[[]]
 | [],_=>rfl
 | l::ls,h=>by
  rw[lns,List.flatMap_cons,List.append_assoc,List.cons_append,List.nil_append,Zhn _ (h l List.mem_cons_self),List.nil_append]
  have:=Zrc ls (fun x hx=>h x (List.mem_cons_of_mem _ hx))
  rw[lns]at this
  rw[this];rfl
theorem Zth(l:List UInt8)(ls:List (List UInt8)):lns (l::ls)≠[]:=by simp[lns]
theorem Zm8:∀ (l:List UInt8) (ls:List (List UInt8)),(∀ x∈l::ls,¬ (10:UInt8)∈x)->cutA 10 [] (lns (l::ls)).dropLast=l::ls
 | l,[],h=>by
  rw[lns,List.flatMap_cons,List.flatMap_nil,List.append_nil,List.dropLast_concat,Zi8 _ (h l List.mem_cons_self)];rfl
 | l,v::ls,h=>by
  have e:(lns (l::v::ls)).dropLast=l++10::(lns (v::ls)).dropLast:=by
   rw[lns,List.flatMap_cons,List.append_assoc,List.cons_append,List.nil_append,List.dropLast_append_of_ne_nil (by simp)]
   show l++(10::lns (v::ls)).dropLast=_
   rw[List.dropLast_cons_of_ne_nil (Zth v ls)]
  rw[e,Zhn _ (h l List.mem_cons_self),Zm8 v ls (fun x hx=>h x (List.mem_cons_of_mem _ hx))];rfl
theorem Zof:∀ (l:List UInt8) (ls:List (List UInt8)),Lib.hasSuffix (lns (l::ls)) [10]=true:=by
 intro l ls
 induction ls generalizing l with
 | nil=>simp[lns,Lib.hasSuffix]
 | cons v ls ih =>
  have:=ih v
  simp only[Lib.hasSuffix,List.isSuffixOf_iff_suffix]at this ⊢
  rw[show lns (l::v::ls)=(l++[10])++lns (v::ls) by simp[lns]]
  exact List.IsSuffix.trans this (List.suffix_append _ _)
theorem Za3(s:T):mkT s.data.toList=s:=rfl
theorem Zdd{s:T}{l:List UInt8}{ls:List (List UInt8)}(hs:s.data.toList=lns (l::ls))(h:∀ x∈l::ls,¬ (10:UInt8)∈x) :
  readS s=readWords (atW (cutT (mkT l) 32) 0) (cutT (mkT l) 32) (ls.map mkT++[⟨#[]⟩])/\readI s=outI s (wordsI (atW (cutT (mkT l) 32) 0) (cutT (mkT l) 32) (ls.map mkT))/\sEq s ⟨#[]⟩=false:=by
 have e1:cutT s 10=mkT l::(ls.map mkT++[⟨#[]⟩]):=by
  rw[cutT,hs,Zrc _ h];simp;rfl
 have e2:cutT (s.extract 0 (s.size-1)) 10=mkT l::ls.map mkT:=by
  rw[cutT,Znr,Ziu,List.drop_zero,<- Zar,<- List.dropLast_eq_take,hs,Zm8 _ _ h];rfl
 refine⟨?_,?_,?_⟩
 ·rw[readS,e1];rfl
 ·rw[readI,e2,hs,Zof];rfl
 ·refine Zad fun e=>?_
  rw[e]at hs
  exact Zth l ls hs.symm
theorem Zuy:Words ⟨#[116,111,108,100]⟩ true false false false false false:=⟨(Zac _ _).2 rfl,Zad (by intro e;cases e),Zad (by intro e;cases e),Zad (by intro e;cases e),Zad (by intro e;cases e),Zad (by intro e;cases e)⟩
theorem Zub:Words ⟨#[97,115,107,101,100]⟩ false true false false false false:=⟨Zad (by intro e;cases e),(Zac _ _).2 rfl,Zad (by intro e;cases e),Zad (by intro e;cases e),Zad (by intro e;cases e),Zad (by intro e;cases e)⟩
theorem Zuk:Words ⟨#[103,105,118,101,110]⟩ false false true false false false:=⟨Zad (by intro e;cases e),Zad (by intro e;cases e),(Zac _ _).2 rfl,Zad (by intro e;cases e),Zad (by intro e;cases e),Zad (by intro e;cases e)⟩
theorem Zu2:Words ⟨#[98,97,99,107]⟩ false false false true false false:=⟨Zad (by intro e;cases e),Zad (by intro e;cases e),Zad (by intro e;cases e),(Zac _ _).2 rfl,Zad (by intro e;cases e),Zad (by intro e;cases e)⟩
theorem Zrt:Words ⟨#[103,111,116,98,97,99,107]⟩ false false false false true false:=⟨Zad (by intro e;cases e),Zad (by intro e;cases e),Zad (by intro e;cases e),Zad (by intro e;cases e),(Zac _ _).2 rfl,Zad (by intro e;cases e)⟩
theorem Zvi:Words ⟨#[104,101,114,101]⟩ false false false false false true:=⟨Zad (by intro e;cases e),Zad (by intro e;cases e),Zad (by intro e;cases e),Zad (by intro e;cases e),Zad (by intro e;cases e),(Zac _ _).2 rfl⟩
theorem Zcl(n:Nat):mkT (Lib.decDigits n)=dec n:=Zb6 (Zbi n).symm
theorem Zan{s:T}(h:isName s=true)(b:UInt8)(hb:b.toNat<33):¬ b∈s.data.toList:=by
 intro hm
 simp only[isName,Bool.and_eq_true,List.all_eq_true]at h
 have:=h.2 b hm
 simp only[nameByte,Bool.and_eq_true,decide_eq_true_eq]at this
 omega
theorem Zbj(n:Nat)(b:UInt8)(hb:b.toNat<33):¬ b∈Lib.decDigits n:=fun hm=>by
 have:=(Zkn n b hm).1
 omega
theorem Zha{b:UInt8}(hb:b≠32){w:List UInt8}{r:List (List UInt8)}(h:∀ x∈w::r,¬ b∈x):¬ b∈wds w r:=by
 intro hm
 rcases List.mem_append.1 hm with hm|hm
 ·exact h w List.mem_cons_self hm
 ·obtain⟨x,hx,hm⟩:=List.mem_flatMap.1 hm
  rcases List.mem_cons.1 hm with hm|hm
  ·exact hb hm
  ·exact h x (List.mem_cons_of_mem _ hx) hm
theorem Zb0{h:T}(k:isHold h=true):isName h=true:=by
 simp only[isHold,Bool.and_eq_true]at k
 exact k.1
theorem Zcu{w:List UInt8}{r:List (List UInt8)}(h:∀ x∈w::r,¬ (32:UInt8)∈x):cutT (mkT (wds w r)) 32=mkT w::r.map mkT:=by
 rw[cutT,Ziu,Zp0 w r h];rfl
def Round(s:T)(p:Parcel):Prop:=readS s=p/\readI s=outI s (some p)/\sEq s ⟨#[]⟩=false
theorem Zmf(b:T)(h:T)(c:T)(a:Int)(hb:isName b=true)(hh:isName h=true)(hc:isName c=true)(ha:0<=a/\a<=1000000){s:T}(hs:s.data.toList=lns [wds [97,115,107,101,100] [b.data.toList,h.data.toList,c.data.toList,Lib.decDigits a.toNat]]):Round s ⟨2,b,0,[],h,c,a⟩:=by
 have n32:∀ x∈[97,115,107,101,100]::[b.data.toList,h.data.toList,c.data.toList,Lib.decDigits a.toNat],¬ (32:UInt8)∈x:=by
  intro x hx
  simp only[List.mem_cons,List.not_mem_nil,or_false]at hx
  rcases hx with rfl|rfl|rfl|rfl|rfl
  ·decide
  ·exact Zan hb _ (by decide)
  ·exact Zan hh _ (by decide)
  ·exact Zan hc _ (by decide)
  ·exact Zbj _ _ (by decide)
 have n10:∀ x∈[97,115,107,101,100]::[b.data.toList,h.data.toList,c.data.toList,Lib.decDigits a.toNat],¬ (10:UInt8)∈x:=by
  intro x hx
  simp only[List.mem_cons,List.not_mem_nil,or_false]at hx
  rcases hx with rfl|rfl|rfl|rfl|rfl
  ·decide
  ·exact Zan hb _ (by decide)
  ·exact Zan hh _ (by decide)
  ·exact Zan hc _ (by decide)
  ·exact Zbj _ _ (by decide)
 obtain⟨r1,r2,r3⟩:=Zdd hs (fun x hx=>by rw[List.mem_singleton.1 hx];exact Zha (by decide) n10)
 rw[Zcu n32]at r1 r2
 obtain⟨k1,k2,k3,k4,k5,k6⟩:=Zub
 have e0:mkT [97,115,107,101,100]=⟨#[97,115,107,101,100]⟩:=rfl
 have a1:=Zba a ha.1 ha.2
 have a2:=Za9 a ha.1 ha.2
 refine⟨?_,?_,r3⟩
 ·rw[r1];simp[readWords,isAsk,readKind,atW,e0,k1,k2,k3,k4,k5,k6,Zcl,a1,Za3]
 ·rw[r2];simp[wordsI,isAsk,readKind,atW,e0,k1,k2,k3,k4,k5,k6,Zcl,a2,Za3]
theorem Zma(b:T)(h:T)(c:T)(a:Int)(hb:isName b=true)(hh:isName h=true)(hc:isName c=true)(ha:0<=a/\a<=1000000){s:T}(hs:s.data.toList=lns [wds [103,105,118,101,110] [b.data.toList,h.data.toList,c.data.toList,Lib.decDigits a.toNat]]):Round s ⟨3,b,0,[],h,c,a⟩:=by
 have n32:∀ x∈[103,105,118,101,110]::[b.data.toList,h.data.toList,c.data.toList,Lib.decDigits a.toNat],¬ (32:UInt8)∈x:=by
  intro x hx
  simp only[List.mem_cons,List.not_mem_nil,or_false]at hx
  rcases hx with rfl|rfl|rfl|rfl|rfl
  ·decide
  ·exact Zan hb _ (by decide)
  ·exact Zan hh _ (by decide)
  ·exact Zan hc _ (by decide)
  ·exact Zbj _ _ (by decide)
 have n10:∀ x∈[103,105,118,101,110]::[b.data.toList,h.data.toList,c.data.toList,Lib.decDigits a.toNat],¬ (10:UInt8)∈x:=by
  intro x hx
  simp only[List.mem_cons,List.not_mem_nil,or_false]at hx
  rcases hx with rfl|rfl|rfl|rfl|rfl
  ·decide
  ·exact Zan hb _ (by decide)
  ·exact Zan hh _ (by decide)
  ·exact Zan hc _ (by decide)
  ·exact Zbj _ _ (by decide)
 obtain⟨r1,r2,r3⟩:=Zdd hs (fun x hx=>by rw[List.mem_singleton.1 hx];exact Zha (by decide) n10)
 rw[Zcu n32]at r1 r2
 obtain⟨k1,k2,k3,k4,k5,k6⟩:=Zuk
 have e0:mkT [103,105,118,101,110]=⟨#[103,105,118,101,110]⟩:=rfl
 have a1:=Zba a ha.1 ha.2
 have a2:=Za9 a ha.1 ha.2
 refine⟨?_,?_,r3⟩
 ·rw[r1];simp[readWords,isAsk,readKind,atW,e0,k1,k2,k3,k4,k5,k6,Zcl,a1,Za3]
 ·rw[r2];simp[wordsI,isAsk,readKind,atW,e0,k1,k2,k3,k4,k5,k6,Zcl,a2,Za3]
theorem Zon(b:T)(h:T)(c:T)(a:Int)(hb:isName b=true)(hh:isName h=true)(hc:isName c=true)(ha:0<=a/\a<=1000000){s:T}(hs:s.data.toList=lns [wds [98,97,99,107] [b.data.toList,h.data.toList,c.data.toList,Lib.decDigits a.toNat]]):Round s ⟨4,b,0,[],h,c,a⟩:=by
 have n32:∀ x∈[98,97,99,107]::[b.data.toList,h.data.toList,c.data.toList,Lib.decDigits a.toNat],¬ (32:UInt8)∈x:=by
  intro x hx
  simp only[List.mem_cons,List.not_mem_nil,or_false]at hx
  rcases hx with rfl|rfl|rfl|rfl|rfl
  ·decide
  ·exact Zan hb _ (by decide)
  ·exact Zan hh _ (by decide)
  ·exact Zan hc _ (by decide)
  ·exact Zbj _ _ (by decide)
 have n10:∀ x∈[98,97,99,107]::[b.data.toList,h.data.toList,c.data.toList,Lib.decDigits a.toNat],¬ (10:UInt8)∈x:=by
  intro x hx
  simp only[List.mem_cons,List.not_mem_nil,or_false]at hx
  rcases hx with rfl|rfl|rfl|rfl|rfl
  ·decide
  ·exact Zan hb _ (by decide)
  ·exact Zan hh _ (by decide)
  ·exact Zan hc _ (by decide)
  ·exact Zbj _ _ (by decide)
 obtain⟨r1,r2,r3⟩:=Zdd hs (fun x hx=>by rw[List.mem_singleton.1 hx];exact Zha (by decide) n10)
 rw[Zcu n32]at r1 r2
 obtain⟨k1,k2,k3,k4,k5,k6⟩:=Zu2
 have e0:mkT [98,97,99,107]=⟨#[98,97,99,107]⟩:=rfl
 have a1:=Zba a ha.1 ha.2
 have a2:=Za9 a ha.1 ha.2
 refine⟨?_,?_,r3⟩
 ·rw[r1];simp[readWords,isAsk,readKind,atW,e0,k1,k2,k3,k4,k5,k6,Zcl,a1,Za3]
 ·rw[r2];simp[wordsI,isAsk,readKind,atW,e0,k1,k2,k3,k4,k5,k6,Zcl,a2,Za3]
theorem Zjd(b:T)(h:T)(a:Int)(hb:isName b=true)(hh:isName h=true)(ha:0<=a/\a<=1000000){s:T}(hs:s.data.toList=lns [wds [103,111,116,98,97,99,107] [b.data.toList,h.data.toList,Lib.decDigits a.toNat]]):Round s ⟨5,b,0,[],h,⟨#[]⟩,a⟩:=by
 have n32:∀ x∈[103,111,116,98,97,99,107]::[b.data.toList,h.data.toList,Lib.decDigits a.toNat],¬ (32:UInt8)∈x:=by
  intro x hx
  simp only[List.mem_cons,List.not_mem_nil,or_false]at hx
  rcases hx with rfl|rfl|rfl|rfl
  ·decide
  ·exact Zan hb _ (by decide)
  ·exact Zan hh _ (by decide)
  ·exact Zbj _ _ (by decide)
 have n10:∀ x∈[103,111,116,98,97,99,107]::[b.data.toList,h.data.toList,Lib.decDigits a.toNat],¬ (10:UInt8)∈x:=by
  intro x hx
  simp only[List.mem_cons,List.not_mem_nil,or_false]at hx
  rcases hx with rfl|rfl|rfl|rfl
  ·decide
  ·exact Zan hb _ (by decide)
  ·exact Zan hh _ (by decide)
  ·exact Zbj _ _ (by decide)
 obtain⟨r1,r2,r3⟩:=Zdd hs (fun x hx=>by rw[List.mem_singleton.1 hx];exact Zha (by decide) n10)
 rw[Zcu n32]at r1 r2
 obtain⟨k1,k2,k3,k4,k5,k6⟩:=Zrt
 have e0:mkT [103,111,116,98,97,99,107]=⟨#[103,111,116,98,97,99,107]⟩:=rfl
 have a1:=Zba a ha.1 ha.2
 have a2:=Za9 a ha.1 ha.2
 refine⟨?_,?_,r3⟩
 ·rw[r1];simp[readWords,isAsk,readKind,atW,e0,k1,k2,k3,k4,k5,k6,Zcl,a1,Za3]
 ·rw[r2];simp[wordsI,isAsk,readKind,atW,e0,k1,k2,k3,k4,k5,k6,Zcl,a2,Za3]
theorem Zok(b:T)(a:Int)(hb:isName b=true)(ha:0<=a/\a<=1000000){s:T}(hs:s.data.toList=lns [wds [104,101,114,101] [b.data.toList,Lib.decDigits a.toNat]]):Round s ⟨6,b,a,[],⟨#[]⟩,⟨#[]⟩,0⟩:=by
 have n32:∀ x∈[104,101,114,101]::[b.data.toList,Lib.decDigits a.toNat],¬ (32:UInt8)∈x:=by
  intro x hx
  simp only[List.mem_cons,List.not_mem_nil,or_false]at hx
  rcases hx with rfl|rfl|rfl
  ·decide
  ·exact Zan hb _ (by decide)
  ·exact Zbj _ _ (by decide)
 have n10:∀ x∈[104,101,114,101]::[b.data.toList,Lib.decDigits a.toNat],¬ (10:UInt8)∈x:=by
  intro x hx
  simp only[List.mem_cons,List.not_mem_nil,or_false]at hx
  rcases hx with rfl|rfl|rfl
  ·decide
  ·exact Zan hb _ (by decide)
  ·exact Zbj _ _ (by decide)
 obtain⟨r1,r2,r3⟩:=Zdd hs (fun x hx=>by rw[List.mem_singleton.1 hx];exact Zha (by decide) n10)
 rw[Zcu n32]at r1 r2
 obtain⟨k1,k2,k3,k4,k5,k6⟩:=Zvi
 have e0:mkT [104,101,114,101]=⟨#[104,101,114,101]⟩:=rfl
 have a1:=Zba a ha.1 ha.2
 have a2:=Za9 a ha.1 ha.2
 refine⟨?_,?_,r3⟩
 ·rw[r1];simp[readWords,isAsk,readKind,atW,e0,k1,k2,k3,k4,k5,k6,Zcl,a1,Za3]
 ·rw[r2];simp[wordsI,isAsk,readKind,atW,e0,k1,k2,k3,k4,k5,k6,Zcl,a2,Za3]
/-! ### Wants -/
def wantLine(w:Want):List UInt8:=wds [119,97,110,116] [w.copy.data.toList,Lib.decDigits w.version.toNat,(starOr w.hold).data.toList,Lib.decDigits w.pull.toNat,Lib.decDigits w.start.toNat,Lib.decDigits w.dies.toNat,Lib.decDigits w.grace.toNat]
theorem Zje(w:Want):(formWant w).data.toList=wantLine w++[10]:=by
 simp[formWant,Zaw,Zbi,wantLine,wds]
theorem Zdn:∀ (ws:List Want) (acc:T),(formWants acc ws).data.toList=acc.data.toList++lns (ws.map wantLine)
 | [],acc=>by simp[formWants,lns]
 | w::ws,acc=>by rw[formWants,Zdn ws,Zaw,Zje];simp[lns]
theorem Zpp{h:T}(k:(sEq h ⟨#[]⟩ || isHold h)=true)(b:UInt8)(hb:b.toNat<33):¬ b∈(starOr h).data.toList:=by
 unfold starOr
 split
 ·intro hm
  have:b=42:=by simpa using hm
  subst this
  exact absurd hb (by decide)
 ·rename_i hn
  rcases Bool.or_eq_true_iff.1 k with k|k
  ·exact absurd k hn
  ·exact Zan (Zb0 k) b hb
theorem Zlg{h:T}(k:sEq h ⟨#[42]⟩=false):unstar (starOr h)=h:=by
 unfold starOr
 by_cases e:sEq h ⟨#[]⟩=true
 ·rw[if_pos e,(Zac _ _).1 e]
  have:sEq ⟨#[42]⟩ ⟨#[42]⟩=true:=(Zac _ _).2 rfl
  simp[unstar,this]
 ·rw[if_neg e,unstar,k]
  rfl
theorem Zlf{w:Want}(h:wantOk w=true)(b:UInt8)(hb:b.toNat<32):¬ b∈wantLine w:=by
 have hc:isName w.copy=true:=by simp only[wantOk,Bool.and_eq_true]at h;exact h.1.1.1.1.1.1
 have hh:(sEq w.hold ⟨#[]⟩ || isHold w.hold)=true:=by simp only[wantOk,Bool.and_eq_true]at h;exact h.1.1.1.1.2
 refine Zha (fun e=>by subst e;exact absurd hb (by decide)) fun x hx=>?_
 simp only[List.mem_cons,List.not_mem_nil,or_false]at hx
 rcases hx with rfl|rfl|rfl|rfl|rfl|rfl|rfl|rfl
 ·intro hm
  simp only[List.mem_cons,List.not_mem_nil,or_false]at hm
  rcases hm with rfl|rfl|rfl|rfl<;>exact absurd hb (by decide)
 ·exact Zan hc b (by omega)
 ·exact Zbj _ b (by omega)
 ·exact Zpp hh b (by omega)
 all_goals exact Zbj _ b (by omega)
theorem Zo7{w:Want}(h:wantOk w=true):cutT (mkT (wantLine w)) 32=[⟨#[119,97,110,116]⟩,w.copy,dec w.version.toNat,starOr w.hold,dec w.pull.toNat,dec w.start.toNat,dec w.dies.toNat,dec w.grace.toNat]:=by
 have hc:isName w.copy=true:=by simp only[wantOk,Bool.and_eq_true]at h;exact h.1.1.1.1.1.1
 have hh:(sEq w.hold ⟨#[]⟩ || isHold w.hold)=true:=by simp only[wantOk,Bool.and_eq_true]at h;exact h.1.1.1.1.2
 rw[wantLine,Zcu]
 ·simp[Zcl,Za3];rfl
 ·intro x hx
  simp only[List.mem_cons,List.not_mem_nil,or_false]at hx
  rcases hx with rfl|rfl|rfl|rfl|rfl|rfl|rfl|rfl
  ·decide
  ·exact Zan hc _ (by decide)
  ·exact Zbj _ _ (by decide)
  ·exact Zpp hh _ (by decide)
  all_goals exact Zbj _ _ (by decide)
theorem Zjw{w:Want}(h:wantOk w=true):readWant (cutT (mkT (wantLine w)) 32)=w/\wantI (cutT (mkT (wantLine w)) 32)=w/\lineOk (cutT (mkT (wantLine w)) 32)=true:=by
 obtain⟨_,_,f1,f2,f3,f4,f5⟩:=Zds h
 have hs:=Zlg (Zgx h)
 have e:sEq ⟨#[119,97,110,116]⟩ ⟨#[119,97,110,116]⟩=true:=(Zac _ _).2 rfl
 rw[Zo7 h]
 refine⟨?_,?_,?_⟩
 ·simp[readWant,atW,Zba _ f1.1 f1.2,Zba _ f2.1 f2.2,Zba _ f3.1 f3.2,Zba _ f4.1 f4.2,Zba _ f5.1 f5.2,hs]
 ·simp[wantI,atW,Za9 _ f1.1 f1.2,Za9 _ f2.1 f2.2,Za9 _ f3.1 f3.2,Za9 _ f4.1 f4.2,Za9 _ f5.1 f5.2,hs]
 ·simp[lineOk,atW,e]
theorem Zio:∀ (ws acc:List Want),(∀ w∈ws,wantOk w=true)->linesI acc ((ws.map wantLine).map mkT)=some (acc++ws)
 | [],acc,_=>by simp[linesI]
 | w::ws,acc,h=>by
  obtain⟨_,h2,h3⟩:=Zjw (h w List.mem_cons_self)
  rw[List.map_cons,List.map_cons,linesI,h3,if_pos rfl,h2,Zio ws _ (fun x hx=>h x (List.mem_cons_of_mem _ hx)),List.append_assoc];rfl
theorem Zoy(ws:List Want)(h:∀ w∈ws,wantOk w=true):readLines ((ws.map wantLine).map mkT++[⟨#[]⟩])=ws:=by
 rw[readLines,List.dropLast_concat,List.map_map,List.map_map]
 conv=>rhs;rw[<- List.map_id ws]
 exact List.map_congr_left fun w hw=>(Zjw (h w hw)).1
theorem Znt(b:T)(a:Int)(ws:List Want)(hb:isName b=true)(ha:0<=a/\a<=1000000)(hw:∀ w∈ws,wantOk w=true){s:T}(hs:s.data.toList=lns (wds [116,111,108,100] [b.data.toList,Lib.decDigits a.toNat]::ws.map wantLine)):Round s ⟨1,b,a,ws,⟨#[]⟩,⟨#[]⟩,0⟩:=by
 have n32:∀ x∈[116,111,108,100]::[b.data.toList,Lib.decDigits a.toNat],¬ (32:UInt8)∈x:=by
  intro x hx
  simp only[List.mem_cons,List.not_mem_nil,or_false]at hx
  rcases hx with rfl|rfl|rfl
  ·decide
  ·exact Zan hb _ (by decide)
  ·exact Zbj _ _ (by decide)
 have n10:∀ x∈[116,111,108,100]::[b.data.toList,Lib.decDigits a.toNat],¬ (10:UInt8)∈x:=by
  intro x hx
  simp only[List.mem_cons,List.not_mem_nil,or_false]at hx
  rcases hx with rfl|rfl|rfl
  ·decide
  ·exact Zan hb _ (by decide)
  ·exact Zbj _ _ (by decide)
 obtain⟨r1,r2,r3⟩:=Zdd hs (fun x hx=>by
  rcases List.mem_cons.1 hx with hx|hx
  ·rw[hx];exact Zha (by decide) n10
  ·obtain⟨w,h1,rfl⟩:=List.mem_map.1 hx
   exact Zlf (hw w h1) _ (by decide))
 rw[Zcu n32]at r1 r2
 obtain⟨k1,k2,k3,k4,k5,k6⟩:=Zuy
 have e0:mkT [116,111,108,100]=⟨#[116,111,108,100]⟩:=rfl
 have a1:=Zba a ha.1 ha.2
 have a2:=Za9 a ha.1 ha.2
 have l1:=Zoy ws hw
 have l2:=Zio ws [] hw
 refine⟨?_,?_,r3⟩
 ·rw[r1,readWords,l1];simp[atW,e0,k1,Zcl,a1,Za3]
 ·rw[r2,wordsI,l2];simp[atW,e0,k1,Zcl,a2,Za3]
/-! ### Both ways -/
theorem round{s:T}{p:Parcel}(hp:parcelForm p=s)(hs:s≠⟨#[]⟩):Round s p:=by
 obtain⟨kind,b,seen,ws,h,c,a⟩:=p
 unfold parcelForm at hp
 simp only at hp
 split at hp
 case isFalse=>exact absurd hp.symm hs
 rename_i hb
 unfold formSw at hp
 simp only at hp
 split at hp
 ·rename_i hk
  split at hp
  case isFalse=>exact absurd hp.symm hs
  rename_i hc
  simp only[Bool.and_eq_true,noHold,beq_iff_eq]at hc
  obtain⟨c1,c2,c3,c4,c5⟩:=hc
  have c3:=(Zac _ _).1 c3
  have c4:=(Zac _ _).1 c4
  subst hk;subst c3;subst c4;subst c5
  obtain⟨i1,i2⟩:=Zb3 c1
  refine Znt b seen ws hb ⟨by omega,by omega⟩ ((Zas _).1 c2).2.1 ?_
  rw[<- hp,Zdn]
  simp[toldHead,Zaw,Zbi,lns,wds]
 ·split at hp
  ·rename_i hk
   split at hp
   case isFalse=>exact absurd hp.symm hs
   rename_i hc
   simp only[Bool.and_eq_true,beq_iff_eq,List.isEmpty_iff]at hc
   obtain⟨c1,c2,c3,c4,c5⟩:=hc
   subst c4;subst c5
   obtain⟨i1,i2⟩:=Zb3 c3
   rcases hk with rfl|rfl|rfl
   ·refine Zmf b h c a hb (Zb0 c1) c2 ⟨i1,i2⟩ ?_
    rw[<- hp]
    simp[word,Zaw,Zbi,lns,wds]
   ·refine Zma b h c a hb (Zb0 c1) c2 ⟨i1,i2⟩ ?_
    rw[<- hp]
    simp[word,Zaw,Zbi,lns,wds]
   ·refine Zon b h c a hb (Zb0 c1) c2 ⟨i1,i2⟩ ?_
    rw[<- hp]
    simp[word,Zaw,Zbi,lns,wds]
  ·split at hp
   ·rename_i hk
    split at hp
    case isFalse=>exact absurd hp.symm hs
    rename_i hc
    simp only[Bool.and_eq_true,beq_iff_eq,List.isEmpty_iff]at hc
    obtain⟨c1,c2,c3,c4,c5⟩:=hc
    have c2:=(Zac _ _).1 c2
    subst hk;subst c2;subst c4;subst c5
    obtain⟨i1,i2⟩:=Zb3 c3
    refine Zjd b h a hb (Zb0 c1) ⟨i1,i2⟩ ?_
    rw[<- hp]
    simp[Zaw,Zbi,lns,wds]
   ·split at hp
    ·rename_i hk
     split at hp
     case isFalse=>exact absurd hp.symm hs
     rename_i hc
     simp only[Bool.and_eq_true,beq_iff_eq,List.isEmpty_iff,noHold]at hc
     obtain⟨c1,c2,c3,c4,c5⟩:=hc
     have c3:=(Zac _ _).1 c3
     have c4:=(Zac _ _).1 c4
     subst hk;subst c2;subst c3;subst c4;subst c5
     obtain⟨i1,i2⟩:=Zb3 c1
     refine Zok b seen hb ⟨i1,i2⟩ ?_
     rw[<- hp]
     simp[Zaw,Zbi,lns,wds]
    ·exact absurd hp.symm hs
theorem Zgz(s:T):readI s=readT s:=by
 by_cases hg:s≠⟨#[]⟩/\parcelForm (readS s)=s
 ·obtain⟨h1,h2⟩:=hg
  obtain⟨r1,r2,r3⟩:=round h2 h1
  rw[r2,readT,r3,h2,outI,h2,(Zac s s).2 rfl]
  rfl
 ·have hT:readT s=(noParcel,false):=by
   rw[readT,if_pos]
   by_cases h1:s=⟨#[]⟩
   ·rw[(Zac _ _).2 h1];rfl
   ·rw[Zad (fun e=>hg ⟨h1,e⟩)];simp
  rw[hT,readI]
  split
  ·rename_i hsx
   cases hq:wordsI (atW (cutT (atW (cutT (s.extract 0 (s.size-1)) 10) 0) 32) 0) (cutT (atW (cutT (s.extract 0 (s.size-1)) 10) 0) 32) (cutT (s.extract 0 (s.size-1)) 10).tail with
   | none=>rfl
   | some q =>
    rw[outI]
    split
    ·rename_i hf
     have hf:=(Zac _ _).1 hf
     have hne:s≠⟨#[]⟩:=fun e=>by
      rw[e]at hsx
      cases hsx
     obtain⟨r1,_,_⟩:=round hf hne
     exact absurd ⟨hne,by rw[r1];exact hf⟩ hg
    ·rfl
  ·rfl
theorem Zig{p:Parcel}(h:parcelForm p≠⟨#[]⟩):readT (parcelForm p)=(p,true):=by
 obtain⟨r1,_,r3⟩:=round (p:=p) rfl h
 rw[readT,r1,r3,(Zac _ _).2 rfl]
 rfl
end Go.Proofs.YtfemiipgkhekiaaGreatDoor
