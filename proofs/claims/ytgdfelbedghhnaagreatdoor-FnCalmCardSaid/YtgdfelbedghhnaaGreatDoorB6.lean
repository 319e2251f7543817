/- The laws' own helpers, on asks and mates. And what follows from it, part by part, as the proof needs it. -/
import Derived.Test.YtgdfelbedghhnaaGreatDoorB5
import Derived.Test.YtgdfelbedghhnaaGreatDoorB2
namespace Go.Proofs.YtgdfelbedghhnaaGreatDoor
open Go
set_option linter.unusedSimpArgs false
set_option maxRecDepth 100000
def Mate.refs(n:Nat)(x:Mate):List AV:=[.str x.name,.bool x.up,.int .i64 x.clock,.bool x.known,.int .i64 x.seen,.ref n,.ref (n+1),.ref (n+2),.ref (n+3)]
def Mate.arrs(x:Mate):List AO:=[.arr 7 (x.wants.map Want.c),.arr 11 (x.runs.map Run.c),.arr 4 (x.asks.map Ask.c),.arr 4 (x.gives.map Ask.c)]
structure Parcel.small(p:Parcel):Prop where
 wants:p.wants.length<=1048576
def Land.zero:Land:=⟨0,[],[]⟩
def zeroL:List AV:=[.int .i64 0,.sl .own 5 [],.sl .own 3 []]
def head122(l:Land)(m:Md)(i:Nat)(acc:List Place):St :=
 hd [(1,.ptr 0 0 0),(2,.ptr 1 0 0),(3,ownVi 2 3 (acc.map (Place.c .own))),(11,.sl .bor 3 (l.places.map (Place.c m))),(12,.int .i64 l.places.length),(13,.int .i64 i)]
  (.box [.int .i64 l.time,.ref (if acc=[] then 2 else 3),.sl .bor 3 (l.places.map (Place.c m))]::.box zeroL::(ownH 3 (acc.map (Place.c .own))++[.arr 5 (l.grants.map Grant.c)])) 0
theorem law122(l:Land)(m:Md)(hl:l.small):F 122 [.agg (l.c .bor m)] []=some (.agg (l.c .own .own),[]):=by
 refine Zae fn122 rfl ?_
 obtain⟨h1,h2,h3⟩:=hl
 have e1:l.grants.length*64<=140737488355328:=by omega
 have f1:l.grants.length<=140737488355328:=by omega
 simp[c122,takeRows,e1,f1]
 refine (Zaa l.places (fun i (acc:List Place)=>head122 l m i acc) (fun i acc=>acc.length=i) (fun _ r acc=>(.agg (({ l with places:=acc++r }:Land).c .own .own),[])) (fun acc Y hacc=>?_) (fun i a r acc Y ha hi hr hacc hY=>?_) [] ?_ rfl ?_).trans ?_
 ·rcases acc with _|⟨x,acc⟩
  ·simp[head122,c122b0,zeroL]
  ·simp[head122,c122b0,zeroL]
 ·have hw:IntKind.i64.wrap ((i:Int)+1)=(i:Int)+1:=i64w (by omega) (by omega)
  obtain⟨_,hg⟩:=Xa.1 ha
  have hs:=(h3 a (Xe ha)).wants
  have e2:a.wants.length*72<=140737488355328:=by omega
  have f2:a.wants.length<=140737488355328:=by omega
  have hb3:(acc.length+1)*48<=140737488355328:=by omega
  have hb4:acc.length+1<=140737488355328:=by omega
  have hY':=fun s' h=>hY (acc++[a]) s' (by simp[hacc]) h
  rcases acc with _|⟨x,acc⟩
  ·simp[head122,c122b0,zeroL,hi,hg,takeRows,e2,f2]
   exact (hY' _ (by simp[head122,hw,zeroL])).trans (by simp)
  ·simp at hb3 hb4
   simp[head122,c122b0,zeroL,hi,hg,takeRows,e2,f2,hb3,hb4]
   exact (hY' _ (by simp[head122,hw,zeroL])).trans (by simp)
 ·simp[head122,zeroL]
 ·unfold big;omega
 ·simp
def head121(l:Land)(m:Md)(i:Nat)(acc:List Place):St :=
 hd [(1,.ptr 0 0 0),(2,.ptr 1 0 0),(3,.ptr 2 0 0),(4,.int .i64 i)]
  (.box (l.c .bor m)::.box zeroL::.box [.int .i64 l.time,.ref 3,ownVi 4 3 (acc.map (Place.c .own))]::.arr 5 (l.grants.map Grant.c)::ownH 3 (acc.map (Place.c .own))) 0
theorem law121(l:Land)(m:Md)(hl:l.small):F 121 [.agg (l.c .bor m)] []=some (.agg (l.c .own .own),[]):=by
 refine Zae fn121 rfl ?_
 obtain⟨h1,h2,h3⟩:=hl
 have e1:l.grants.length*64<=140737488355328:=by omega
 have f1:l.grants.length<=140737488355328:=by omega
 simp[c121,takeRows,e1,f1]
 refine (Zaa l.places (fun i (acc:List Place)=>head121 l m i acc) (fun i acc=>acc.length=i) (fun _ r acc=>(.agg (({ l with places:=acc++r }:Land).c .own .own),[])) (fun acc Y hacc=>?_) (fun i a r acc Y ha hi hr hacc hY=>?_) [] ?_ rfl ?_).trans ?_
 ·rcases acc with _|⟨x,acc⟩
  ·simp[head121,c121b0,zeroL]
  ·simp[head121,c121b0,zeroL]
 ·have hw:IntKind.i64.wrap ((i:Int)+1)=(i:Int)+1:=i64w (by omega) (by omega)
  obtain⟨_,hg⟩:=Xa.1 ha
  have hs:=(h3 a (Xe ha)).wants
  have e2:a.wants.length*72<=140737488355328:=by omega
  have f2:a.wants.length<=140737488355328:=by omega
  have hb3:(acc.length+1)*48<=140737488355328:=by omega
  have hb4:acc.length+1<=140737488355328:=by omega
  have hY':=fun s' h=>hY (acc++[a]) s' (by simp[hacc]) h
  rcases acc with _|⟨x,acc⟩
  ·simp[head121,c121b0,zeroL,hi,hg,takeRows,e2,f2]
   exact (hY' _ (by simp[head121,hw,zeroL])).trans (by simp)
  ·simp at hb3 hb4
   simp[head121,c121b0,zeroL,hi,hg,takeRows,e2,f2,hb3,hb4]
   exact (hY' _ (by simp[head121,hw,zeroL])).trans (by simp)
 ·simp[head121,zeroL]
 ·unfold big;omega
 ·simp
def told(p:Place):Parcel:=⟨1,p.berth,p.seen,p.wants,⟨#[]⟩,⟨#[]⟩,0⟩
def landTick(l:Land):Land×List Parcel :=
 if landOk l then (if l.time=2000000 then (l,[]) else ({ l with time:=l.time+2 },l.places.map told)) else (.zero,[])
theorem Zg9{l:Land}(h:landOk l=true):0<=l.time/\l.time<=2000000:=by
 unfold landOk at h
 simp only[Xc]at h
 have:=h.1
 simpa [inR] using this
def n41(acc:List Parcel):Nat:=if acc=[] then 2 else 3
def head41(l:Land)(i:Nat)(acc:List Parcel):St :=
 hd [(1,.ptr 0 0 0),(2,.ptr 1 0 0),(4,ownVi 2 7 (acc.map (Parcel.c .own))),(22,.ref (n41 acc)),(23,.int .i64 l.places.length),(24,.int .i64 i)]
  (.box [.int .i64 (l.time+2),.ref (n41 acc+1),.ref (n41 acc)]::.box zeroL::(ownH 7 (acc.map (Parcel.c .own))++[.arr 3 (l.places.map (Place.c .own)),.arr 5 (l.grants.map Grant.c)])) 0
theorem law41(l:Land)(m:Md)(hl:l.small):F 41 [.agg (l.c .bor m)] []=some (.tup [.agg ((landTick l).1.c .own .own),.sl .own 7 ((landTick l).2.map (Parcel.c .own))],[]):=by
 refine Zae fn41 rfl ?_
 have w1:=law23 l m hl
 have w2:=law122 l m hl
 simp only[Land.c]at w1 w2
 obtain⟨h1,h2,h3⟩:=hl
 unfold landTick
 simp[c41,w1]
 cases hv:landOk l<;>simp
 ·simp[Land.zero]
 have ht:=Zg9 hv
 simp[w2]
 by_cases hx:l.time=2000000
 ·simp[hx]
 have hw2:IntKind.i64.wrap (l.time+2)=l.time+2:=i64w (by omega) (by omega)
 simp[hx,hw2]
 refine (Zaa l.places (fun i (acc:List Parcel)=>head41 l i acc) (fun i acc=>acc.length=i) (fun _ r acc=>(.tup [.agg (({ l with time:=l.time+2 }:Land).c .own .own),.sl .own 7 ((acc++r.map told).map (Parcel.c .own))],[])) (fun acc Y hacc=>?_) (fun i a r acc Y ha hi hr hacc hY=>?_) [] ?_ rfl ?_).trans ?_
 ·rcases acc with _|⟨x,acc⟩
  ·simp[head41,c41b0,zeroL,n41]
  ·simp[head41,c41b0,zeroL,n41]
 ·have hw:IntKind.i64.wrap ((i:Int)+1)=(i:Int)+1:=i64w (by omega) (by omega)
  obtain⟨_,hg⟩:=Xa.1 ha
  have hs:=(h3 a (Xe ha)).wants
  have e2:a.wants.length*72<=140737488355328:=by omega
  have f2:a.wants.length<=140737488355328:=by omega
  have hb3:(acc.length+1)*96<=140737488355328:=by omega
  have hb4:acc.length+1<=140737488355328:=by omega
  have hY':=fun s' h=>hY (acc++[told a]) s' (by simp[hacc]) h
  rcases acc with _|⟨x,acc⟩
  ·simp[head41,c41b0,zeroL,n41,hi,hg,takeRows,e2,f2]
   exact (hY' _ (by simp[head41,hw,zeroL,n41,told])).trans (by simp)
  ·simp at hb3 hb4
   simp[head41,c41b0,zeroL,n41,hi,hg,takeRows,e2,f2,hb3,hb4]
   exact (hY' _ (by simp[head41,hw,zeroL,n41,told])).trans (by simp)
 ·simp[head41,zeroL,n41]
 ·unfold big;omega
 ·simp
def head44(l:Land)(i:Nat)(acc:List Parcel):St :=
 hd [(2,.ptr 0 0 0),(4,.ref 1),(5,.ptr 2 0 0),(6,.int .i64 i)]
  [.box zeroL,.arr 7 (acc.map (Parcel.c .own)),.box [.int .i64 (l.time+2),.ref 3,.ref 4],.arr 5 (l.grants.map Grant.c),.arr 3 (l.places.map (Place.c .own))] 0
theorem law44(l:Land)(m:Md)(hl:l.small):F 44 [.agg (l.c .bor m)] []=some (.tup [.agg ((landTick l).1.c .own .own),.sl .own 7 ((landTick l).2.map (Parcel.c .own))],[]):=by
 refine Zae fn44 rfl ?_
 have w1:=law24 l m hl
 have w2:=law121 l m hl
 simp only[Land.c]at w1 w2
 obtain⟨h1,h2,h3⟩:=hl
 unfold landTick
 simp[c44,w1]
 cases hv:landOk l<;>simp
 ·simp[Land.zero]
 have ht:=Zg9 hv
 simp[w2]
 by_cases hx:l.time=2000000
 ·simp[hx]
 have hx2:¬ (2000000<=l.time):=by omega
 have hw2:IntKind.i64.wrap (l.time+2)=l.time+2:=i64w (by omega) (by omega)
 simp[hx,hx2,hw2]
 refine (Zaa l.places (fun i (acc:List Parcel)=>head44 l i acc) (fun i acc=>acc.length=i) (fun _ r acc=>(.tup [.agg (({ l with time:=l.time+2 }:Land).c .own .own),.sl .own 7 ((acc++r.map told).map (Parcel.c .own))],[])) (fun acc Y hacc=>?_) (fun i a r acc Y ha hi hr hacc hY=>?_) [] ?_ rfl ?_).trans ?_
 ·simp[head44,c44b0,zeroL]
 ·have hw:IntKind.i64.wrap ((i:Int)+1)=(i:Int)+1:=i64w (by omega) (by omega)
  obtain⟨_,hg⟩:=Xa.1 ha
  have hs:=(h3 a (Xe ha)).wants
  have e2:a.wants.length*72<=140737488355328:=by omega
  have f2:a.wants.length<=140737488355328:=by omega
  have hb3:(acc.length+1)*96<=140737488355328:=by omega
  have hb4:acc.length+1<=140737488355328:=by omega
  have hY':=fun s' h=>hY (acc++[told a]) s' (by simp[hacc]) h
  simp[head44,c44b0,zeroL,hi,hg,takeRows,e2,f2,hb3,hb4]
  exact (hY' _ (by simp[head44,hw,zeroL,told])).trans (by simp)
 ·simp[head44,zeroL]
 ·unfold big;omega
 ·simp
def Asc{α:Type}(key:α->T)(xs:List α):Prop:=xs.Pairwise fun a b=>sLt (key a) (key b)=true
def ascL{α:Type}(key:α->T)(pre:List α)(x:α):Bool:=match pre.getLast? with
 | none=>true
 | some p=>sLt (key p) (key x)
theorem Zcv{α:Type}(key:α->T)(pre:List α)(x:α)(h:Asc key pre):ascL key pre x=true↔Asc key (pre++[x]):=by
 unfold Asc at *
 unfold ascL
 rw[Xa5]
 rcases List.eq_nil_or_concat pre with rfl|⟨l,p,rfl⟩
 ·simp
 ·simp only[List.concat_eq_append,List.getLast?_append,List.getLast?_singleton,Option.some_or]at h ⊢
  constructor
  ·intro hp
   refine⟨h,Xbp _ _,fun a ha b hb=>?_⟩
   rw[Xn.1 hb]
   rcases Xg.1 ha with ha|ha
   ·exact Zb4 ((Xa5.1 h).2.2 a ha p (Xn.2 rfl)) hp
   ·rw[Xn.1 ha];exact hp
  ·exact fun ⟨_,_,k⟩=>k p (List.mem_append_right _ (Xn.2 rfl)) x (Xn.2 rfl)
theorem Zr2(pre:List Run)(r:Run):ascR pre r=ascL (fun x:Run=>x.want.copy) pre r:=by unfold ascR ascL;cases pre.getLast?<;>rfl
theorem Zr1(pre:List Ask)(r:Ask):ascA pre r=ascL (fun x:Ask=>x.hold) pre r:=by unfold ascA ascL;cases pre.getLast?<;>rfl
theorem Zr3(pre:List Want)(r:Want):ascW pre r=ascL (fun x:Want=>x.copy) pre r:=by unfold ascW ascL;cases pre.getLast?<;>rfl
theorem Asc.left{α:Type}{key:α->T}{a b:List α}(h:Asc key (a++b)):Asc key a:=(Xa5.1 h).1
theorem Asc.right{α:Type}{key:α->T}{a b:List α}(h:Asc key (a++b)):Asc key b:=(Xa5.1 h).2.1
theorem Asc.nil{α:Type}(key:α->T):Asc key []:=List.Pairwise.nil
theorem Zfo(c:Int):∀ (rs pre:List Run),Asc (·.want.copy) pre->(runsGo c pre rs=true↔(∀ r∈rs,runOk r c=true)/\Asc (·.want.copy) (pre++rs))
 | [],pre,h=>by simp[runsGo,h]
 | r::rs,pre,h=>by
  have e:=Zcv (fun x:Run=>x.want.copy) pre r h
  rw[<- Zr2]at e
  simp only[runsGo,Xc]
  constructor
  ·rintro⟨h1,h2,h3⟩
   have h4:=e.1 h2
   obtain⟨h5,h6⟩:=(Zfo c rs (pre++[r]) h4).1 h3
   exact⟨fun x hx=>(Xl.1 hx).elim (fun q=>q ▸ h1) (h5 x),by simpa using h6⟩
  ·rintro⟨h1,h2⟩
   have h3:Asc (fun x:Run=>x.want.copy) ((pre++[r])++rs):=by simpa using h2
   exact⟨h1 r Xi,e.2 h3.left,(Zfo c rs (pre++[r]) h3.left).2 ⟨fun x hx=>h1 x (Xh _ hx),h3⟩⟩
theorem Zdr(rs:List Run)(c:Int):runsOk rs c=true↔rs.length<=20/\(∀ r∈rs,runOk r c=true)/\Asc (·.want.copy) rs:=by
 simp only[runsOk,Xc,Xj]
 rw[Zfo c rs [] (Asc.nil _)]
 rfl
theorem Ze5(c:Int):∀ (l pre:List Ask),Asc (·.hold) pre->(asksGo c pre l=true↔(∀ r∈l,askOk c r=true)/\Asc (·.hold) (pre++l))
 | [],pre,h=>by simp[asksGo,h]
 | r::rs,pre,h=>by
  have e:=Zcv (fun x:Ask=>x.hold) pre r h
  rw[<- Zr1]at e
  simp only[asksGo,Xc]
  constructor
  ·rintro⟨h1,h2,h3⟩
   have h4:=e.1 h2
   obtain⟨h5,h6⟩:=(Ze5 c rs (pre++[r]) h4).1 h3
   exact⟨fun x hx=>(Xl.1 hx).elim (fun q=>q ▸ h1) (h5 x),by simpa using h6⟩
  ·rintro⟨h1,h2⟩
   have h3:Asc (fun x:Ask=>x.hold) ((pre++[r])++rs):=by simpa using h2
   exact⟨h1 r Xi,e.2 h3.left,(Ze5 c rs (pre++[r]) h3.left).2 ⟨fun x hx=>h1 x (Xh _ hx),h3⟩⟩
theorem Ze7(l:List Ask)(c:Int):asksOk l c=true↔l.length<=40/\(∀ r∈l,askOk c r=true)/\Asc (·.hold) l:=by
 simp only[asksOk,Xc,Xj]
 rw[Ze5 c l [] (Asc.nil _)]
 rfl
def Apart(ws:List Want):Prop:=ws.Pairwise fun a b=>sEq b.hold ⟨#[]⟩=true\/sEq a.hold b.hold=false
theorem Zn5(pre:List Want)(w:Want)(h:Apart pre):freshW pre w=true↔Apart (pre++[w]):=by
 unfold Apart at *
 rw[Xa5]
 simp only[freshW,heldB,Xas,Xv,Xbo,Xb2]
 constructor
 ·rintro (h1|h1)
  ·exact⟨h,Xbp _ _,fun a _ b hb=>by rw[Xn.1 hb];exact .inl h1⟩
  ·exact⟨h,Xbp _ _,fun a ha b hb=>by rw[Xn.1 hb];exact .inr (h1 a ha)⟩
 ·rintro⟨_,_,k⟩
  by_cases e:sEq w.hold ⟨#[]⟩=true
  ·exact .inl e
  ·exact .inr fun a ha=>(k a ha w (Xn.2 rfl)).resolve_left e
theorem Zec:∀ (l pre:List Want),Asc (·.copy) pre->Apart pre->(wantsGo pre l=true↔(∀ r∈l,wantOk r=true)/\Asc (·.copy) (pre++l)/\Apart (pre++l))
 | [],pre,h,k=>by simp[wantsGo,h,k]
 | r::rs,pre,h,k=>by
  have e:=Zcv (fun x:Want=>x.copy) pre r h
  rw[<- Zr3]at e
  have e2:=Zn5 pre r k
  simp only[wantsGo,Xc]
  constructor
  ·rintro⟨h1,h2,h3,h7⟩
   have h4:=e.1 h2
   obtain⟨h5,h6,h8⟩:=(Zec rs (pre++[r]) h4 (e2.1 h3)).1 h7
   exact⟨fun x hx=>(Xl.1 hx).elim (fun q=>q ▸ h1) (h5 x),by simpa using h6,by simpa using h8⟩
  ·rintro⟨h1,h2,h4⟩
   have h3:Asc (fun x:Want=>x.copy) ((pre++[r])++rs):=by simpa using h2
   have h5:Apart ((pre++[r])++rs):=by simpa using h4
   have h6:Apart (pre++[r]):=(Xa5.1 h5).1
   exact⟨h1 r Xi,e.2 h3.left,e2.2 h6,(Zec rs (pre++[r]) h3.left h6).2 ⟨fun x hx=>h1 x (Xh _ hx),h3,h5⟩⟩
theorem Zaq(ws:List Want):wantsOk ws=true↔ws.length<=10/\(∀ w∈ws,wantOk w=true)/\Asc (·.copy) ws/\Apart ws:=by
 simp only[wantsOk,Xc,Xj]
 rw[Zec ws [] (Asc.nil _) List.Pairwise.nil]
 rfl
theorem Zn8:isName ⟨#[]⟩=false:=by decide
theorem Zbt(m:Mate):mateParts m=true↔isName m.name=true/\inR m.clock 0 1000000=true/\inR m.seen 0 1000000=true/\wantsOk m.wants=true/\(m.known=true\/m.wants=[])/\runsOk m.runs m.clock=true/\asksOk m.asks m.clock=true/\asksOk m.gives m.clock=true:=by
 simp only[mateParts,Xc,Xas,Xcr]
theorem Za4(m:Mate):mateValid m=true↔mateParts m=true/\apartGo m.gives m.asks=true/\(m.up=true\/mateDown m=true):=by
 simp only[mateValid,Xc,Xas]
theorem Zij(c:Int):asksOk [] c=true:=by simp[asksOk,asksGo]
theorem Zmq:wantsOk []=true:=by simp[wantsOk,wantsGo]
theorem Zfg{b:Bool}{r r':Run}{c:Int}(h:runOk r c=true)(e:fallRun b r=some r'):runOk r' c=true/\r'.want=r.want/\(alive r' || !sEq r'.want.hold ⟨#[]⟩)=true/\alive r'=!b/\(b=false->r'=r/\alive r=true):=by
 unfold fallRun at e
 split at e
 case isFalse=>cases e
 rename_i ha
 cases b
 ·simp only[Xq,Xaj,Xb]at e
  subst e
  exact⟨h,rfl,by simp[ha],by simp[ha],fun _=>⟨rfl,ha⟩⟩
 ·simp only[Xag]at e
  split at e
  ·cases e
  ·rename_i hh
   simp only[Xb]at e
   subst e
   have hh':sEq r.want.hold ⟨#[]⟩=false:=by simpa using hh
   refine⟨?_,rfl,by simp[hh'],by simp[alive,aliveS],fun h=>by cases h⟩
   simp only[runOk,Xc]at h ⊢
   obtain⟨h1,h2,h3,h4,h5,h6,h7,h8⟩:=h
   exact⟨h1,by simp[inR],by simp[inR],by simp,h5,h6,h7,by simp[alive,aliveS]⟩
theorem Zir{m:Mate}(b:Bool)(h:mateValid m=true):mateValid (mateFall m b)=true:=by
 obtain⟨h1,h2,h3⟩:=(Za4 m).1 h
 obtain⟨p1,p2,p3,p4,p5,p6,p7,p8⟩:=(Zbt m).1 h1
 obtain⟨r1,r2,r3⟩:=(Zdr _ _).1 p6
 unfold mateFall
 rw[Xr h]
 refine (Za4 _).2 ⟨(Zbt _).2 ⟨p1,p2,by simp[Mate.zero,inR],Zmq,.inr rfl,(Zdr _ _).2 ⟨?_,?_,?_⟩,Zij _,Zij _⟩,by simp[apartGo,Mate.zero],.inr ?_⟩
 ·exact Xac (List.length_filterMap_le _ _) r1
 ·intro r hr
  obtain⟨r0,k1,k2⟩:=List.mem_filterMap.1 hr
  exact (Zfg (r2 r0 k1) k2).1
 ·refine List.Pairwise.filterMap _ (fun a b' hab x hx y hy=>?_) r3
  ·have hx':=hx
   have hy':=hy
   have e:∀ {r r':Run},fallRun b r=some r'->r'.want=r.want:=fun {r r'} e=>by
    unfold fallRun at e
    split at e
    ·split at e
     ·split at e
      ·cases e
      ·rw[<- Xf e]
     ·rw[<- Xf e]
    ·cases e
   simp only at hab ⊢
   rw[e hx,e hy];exact hab
 ·simp only[mateDown,Mate.zero,Bool.not_false,List.isEmpty_nil,beq_self_eq_true,Xcd,downRuns,Xao]
  intro r hr
  obtain⟨r0,k1,k2⟩:=List.mem_filterMap.1 hr
  exact (Zfg (r2 r0 k1) k2).2.2.1
theorem Zof{m:Mate}(h:mateValid m=true):mateValid (mateRise m)=true:=by
 obtain⟨h1,h2,h3⟩:=(Za4 m).1 h
 unfold mateRise
 rw[Xr h]
 refine (Za4 _).2 ⟨h1,h2,?_⟩
 simp only[Xas]
 rcases h3 with h3|h3
 ·exact .inl (.inl h3)
 ·exact .inr h3
end Go.Proofs.YtgdfelbedghhnaaGreatDoor
namespace Go.Proofs.YtgdfelbedghhnaaGreatDoor
open Go
set_option linter.unusedSimpArgs false
section
variable {α:Type} (key:α->T)
def ltCount(b:T):List α->Nat
 | []=>0
 | y::ys=>if sLt (key y) b then ltCount b ys+1 else 0
def putBy(x:α):List α->List α
 | []=>[x]
 | y::ys=>if sLt (key y) (key x) then y::putBy x ys else if sEq (key y) (key x) then x::ys else x::y::ys
theorem Zco(b:T):∀ l:List α,ltCount key b l<=l.length
 | []=>Xo _
 | y::ys=>by
  unfold ltCount
  have:=Zco b ys
  split<;>simp<;>omega
def hitAt(b:T)(l:List α):Bool:=match l[ltCount key b l]? with
 | some y=>sEq (key y) b
 | none=>false
theorem Zcs(x:α):∀ l:List α,putBy key x l=l.take (ltCount key (key x) l)++x::l.drop (if hitAt key (key x) l then ltCount key (key x) l+1 else ltCount key (key x) l)
 | []=>rfl
 | y::ys=>by
  by_cases h1:sLt (key y) (key x)=true
  ·have e1:ltCount key (key x) (y::ys)=ltCount key (key x) ys+1:=by simp[ltCount,h1]
   have e2:hitAt key (key x) (y::ys)=hitAt key (key x) ys:=by simp[hitAt,e1]
   rw[putBy,Xr h1,Zcs x ys,e1,e2]
   cases hitAt key (key x) ys<;>simp
  ·have e1:ltCount key (key x) (y::ys)=0:=by simp[ltCount,h1]
   have e2:hitAt key (key x) (y::ys)=sEq (key y) (key x):=by simp[hitAt,e1]
   rw[putBy,Xu h1,e1,e2]
   cases sEq (key y) (key x)<;>simp
theorem Zcn{b:T}:∀ {l:List α} {i:Nat} {y:α},i<ltCount key b l->l[i]?=some y->sLt (key y) b=true
 | [],i,y,h,_=>by simp[ltCount]at h
 | z::l,i,y,h,hy=>by
  unfold ltCount at h
  split at h
  case isFalse=>omega
  rename_i hz
  cases i with
  | zero=>simp at hy;subst hy;exact hz
  | succ i=>exact Zcn (l:=l) (i:=i) (by omega) (by simpa using hy)
theorem Zbn{b:T}:∀ {l:List α} {y:α},l[ltCount key b l]?=some y->sLt (key y) b=false
 | [],y,h=>by simp[ltCount]at h
 | z::l,y,h=>by
  by_cases hz:sLt (key z) b=true
  ·have e1:ltCount key b (z::l)=ltCount key b l+1:=by simp[ltCount,hz]
   rw[e1]at h
   exact Zbn (by simpa using h)
  ·have e1:ltCount key b (z::l)=0:=by simp[ltCount,hz]
   rw[e1]at h
   simp at h
   subst h
   simpa using hz
theorem Za7(x:α):∀ l:List α,(putBy key x l).length<=l.length+1
 | []=>Xo _
 | y::ys=>by
  have:=Za7 x ys
  unfold putBy
  split
  ·simp;omega
  ·split<;>simp
theorem Zay{x:α}:∀ {l:List α} {z:α},z∈putBy key x l->z=x\/z∈l
 | [],z,h=>by simp[putBy]at h;exact .inl h
 | y::ys,z,h=>by
  unfold putBy at h
  split at h
  ·rcases Xl.1 h with h|h
   ·exact .inr (h ▸ Xi)
   ·exact (Zay h).imp id (Xh _)
  ·split at h
   ·exact (Xl.1 h).imp id (Xh _)
   ·exact Xl.1 h
def Lacks(b:T)(l:List α):Prop:=∀ y∈l,key y≠b
theorem Zbk{x:α}:∀ {l:List α},Lacks key (key x) l->(putBy key x l).Perm (l++[x])
 | [],_=>.refl _
 | y::ys,h=>by
  have h2:Lacks key (key x) ys:=fun z hz=>h z (Xh _ hz)
  unfold putBy
  split
  ·exact (Zbk h2).cons y
  ·rw[Xu (by rw[Zad (h y Xi)];simp)]
   exact (List.perm_append_comm (l₁:=[x]) (l₂:=y::ys))
theorem Zar{x:α}:∀ {l:List α},Asc key l->Asc key (putBy key x l)
 | [],_=>Xbp _ _
 | y::ys,h=>by
  have h1:=Xad.1 h
  unfold putBy
  split
  ·rename_i hlt
   refine Xad.2 ⟨fun z hz=>?_,Zar h1.2⟩
   rcases Zay key hz with rfl|hz
   ·exact hlt
   ·exact h1.1 z hz
  ·rename_i hlt
   split
   ·rename_i he
    have e:=(Zac _ _).1 he
    exact Xad.2 ⟨fun z hz=>by rw[<- e];exact h1.1 z hz,h1.2⟩
   ·rename_i he
    have hne:key y≠key x:=fun e=>he ((Zac _ _).2 e)
    have hxy:sLt (key x) (key y)=true:=by
     cases q:sLt (key x) (key y) with
     | true=>rfl
     | false=>exact absurd (Zhw (by simpa using hlt) q) hne
    refine Xad.2 ⟨fun z hz=>?_,h⟩
    rcases Xl.1 hz with rfl|hz
    ·exact hxy
    ·exact Zb4 hxy (h1.1 z hz)
theorem Zcr{x y:α}:∀ {l:List α} {i:Nat},Asc key l->l[i]?=some y->key y=key x->putBy key x l=l.set i x
 | [],i,_,h,_=>by simp at h
 | z::l,i,ha,h,he=>by
  have h1:=Xad.1 ha
  cases i with
  | zero =>
   simp at h
   subst h
   rw[putBy,Xu (by rw[he,Zao];simp),Xr (by rw[he];exact sEq_self _)]
   rfl
  | succ i =>
   have hl:l[i]?=some y:=by simpa using h
   have:=h1.1 y (Xe hl)
   rw[he]at this
   rw[putBy,Xr this,Zcr h1.2 hl he]
   rfl
theorem Zr4{l:List α}(h:Asc key l){i j:Nat}{x y:α}(hi:l[i]?=some x)(hj:l[j]?=some y)(he:key x=key y):i=j:=by
 have hpw:=Xbs.1 h
 obtain⟨li,xi⟩:=Xa.1 hi
 obtain⟨lj,yj⟩:=Xa.1 hj
 rcases Xcj i j with q|q|q
 ·have:=hpw i j li lj q
  rw[xi,yj,he,Zao]at this
  cases this
 ·exact q
 ·have:=hpw j i lj li q
  rw[xi,yj,he,Zao]at this
  cases this
end
/-! ### Sorting -/
theorem Zf3{c:Nat}:∀ {xs:List (List AV)},Diff c xs->(∀ r∈xs,∃ s,keyAt c r=some s)->keysApart c xs=true
 | [],_,_=>rfl
 | r::rs,h,hk=>by
  have h1:=Xad.1 h
  simp only[keysApart,Xc,Xao,Xv]
  obtain⟨s,hs⟩:=hk r Xi
  exact⟨by rw[hs];rfl,fun x hx=>Zad (h1.1 x hx),Zf3 h1.2 fun x hx=>hk x (Xh _ hx)⟩
theorem Zbw{α:Type}(f:α->List AV)(key:α->T)(c:Nat)(hf:∀ a,keyAt c (f a)=some (key a)){xs ys:List α}(hp:ys.Perm xs)(ha:Asc key ys):keysApart c (xs.map f)=true/\sortRows c (xs.map f)=ys.map f:=by
 have hd:Diff c (ys.map f):=by
  unfold Diff
  rw[List.pairwise_map]
  refine ha.imp fun {a b} h=>?_
  rw[hf,hf]
  exact Zk3 h
 have hd2:Diff c (xs.map f):=(List.Perm.pairwise_iff (fun h e=>h e.symm) (hp.map f)).1 hd
 have hs:(ys.map f).Pairwise (fun a b=>rowLt c a b=true):=by
  rw[List.pairwise_map]
  refine ha.imp fun {a b} h=>?_
  unfold rowLt
  rw[hf,hf]
  exact h
 refine⟨Zf3 hd2 fun r hr=>?_,Zfp ((Zbu c _).trans (hp.map f).symm) (Zb5 hd2) hs⟩
 obtain⟨a,_,rfl⟩:=Xap.1 hr
 exact⟨_,hf a⟩
end Go.Proofs.YtgdfelbedghhnaaGreatDoor
namespace Go.Proofs.YtgdfelbedghhnaaGreatDoor
open Go
set_option linter.unusedSimpArgs false
set_option maxRecDepth 100000
/-! ### Grants -/
/-! ### Places -/
/-! ### Books -/
def Land.refs(n:Nat)(l:Land):List AV:=[.int .i64 l.time,.ref n,.ref (n+1)]
def Land.arrs(l:Land):List AO:=[.arr 5 (l.grants.map Grant.c),.arr 3 (l.places.map (Place.c .own))]
/-! ### Parcels -/
def seenAt(b:T)(ps:List Place):Int:=match ps[ltCount (·.berth) b ps]? with
 | some p=>if sEq p.berth b then IntKind.i64.wrap (p.seen+1) else 1
 | none=>1
def putPlace(b:T)(ws:List Want)(ps:List Place):List Place:=putBy (·.berth) ⟨b,seenAt b ps,ws⟩ ps
def landPut(l:Land)(b:T)(ws:List Want):Land:={ l with places:=putPlace b ws l.places }
def matePut(l:Land)(b:T)(ws:List Want):Land×Int :=
 if landOk l then (if isName b && wantsOk ws then (if landOk (landPut l b ws) then (landPut l b ws,0) else (l,3)) else (l,2)) else (.zero,1)
theorem Zf7:∀ (r pre:List Place),Asc (·.berth) pre->placesGo pre r=true->Asc (·.berth) (pre++r)
 | [],pre,h,_=>by simpa using h
 | p::r,pre,h,k=>by
  simp only[placesGo,Xc]at k
  have e:ascP pre p=ascL (fun x:Place=>x.berth) pre p:=by unfold ascP ascL;cases pre.getLast?<;>rfl
  have h2:=(Zcv (fun x:Place=>x.berth) pre p h).1 (by rw[<- e];exact k.2.1)
  have:=Zf7 r (pre++[p]) h2 k.2.2.2
  simpa using this
theorem Zcm{l:Land}(h:landOk l=true):Asc (·.berth) l.places/\l.places.length<=4/\l.grants.length<=40:=by
 simp only[landOk,Xc,Xj]at h
 have:=Zf7 l.places [] (Asc.nil _) h.2.2.2.2.2
 exact⟨by simpa using this,h.2.2.2.1,h.2.2.1⟩
def head72(l:Land)(m:Md)(b:T)(ws:List Want)(k:Nat):St :=
 hd [(1,.str b),(2,.sl .bor 7 (ws.map Want.c)),(3,.ptr 0 0 0),(6,.ptr 1 0 0),(8,.ptr 2 0 0),(9,.int .i64 k)]
  [.box (l.c .bor m),.box zeroL,.box [.int .i64 l.time,.ref 3,.ref 4],.arr 5 (l.grants.map Grant.c),.arr 3 (l.places.map (Place.c .own))] 0
theorem law72(l:Land)(m:Md)(b:T)(ws:List Want)(hl:l.small)(hw:ws.length<=1048576):F 72 [.agg (l.c .bor m),.str b,.sl .bor 7 (ws.map Want.c)] []=some (.tup [.agg ((matePut l b ws).1.c .own .own),.int .i64 (matePut l b ws).2],[]):=by
 refine Zae fn72 rfl ?_
 have w1:=law24 l m hl
 have w2:=law7 ws (by unfold big;omega)
 have w3:=law121 l m hl
 simp only[Land.c]at w1 w3
 unfold matePut
 cases q1:landOk l
 ·simp[c72,w1,q1,Land.zero]
 cases q2:isName b
 ·simp[c72,w1,w3,q1,q2]
 cases q3:wantsOk ws
 ·simp[c72,w1,w2,w3,q1,q2,q3]
 obtain⟨hasc,hp4,hg40⟩:=Zcm q1
 have hb:ws.length*72<=140737488355328:=by omega
 have hb2:ws.length<=140737488355328:=by omega
 simp[c72,w1,w2,w3,q1,q2,q3]
 have hK:=Zco (fun p:Place=>p.berth) b l.places
 have hat:=fun i y=>Zcn (fun p:Place=>p.berth) (b:=b) (l:=l.places) (i:=i) (y:=y)
 have hst:=fun y=>Zbn (fun p:Place=>p.berth) (b:=b) (l:=l.places) (y:=y)
 have hpt:=Zcs (fun p:Place=>p.berth) ⟨b,seenAt b l.places,ws⟩ l.places
 have hse:seenAt b l.places=match l.places[ltCount (fun p:Place=>p.berth) b l.places]? with
  | some p=>if sEq p.berth b then IntKind.i64.wrap (p.seen+1) else 1
  | none=>1:=rfl
 have hhit:hitAt (fun p:Place=>p.berth) b l.places=match l.places[ltCount (fun p:Place=>p.berth) b l.places]? with
  | some y=>sEq y.berth b
  | none=>false:=by unfold hitAt;cases l.places[ltCount (fun p:Place=>p.berth) b l.places]?<;>rfl
 generalize ltCount (fun p:Place=>p.berth) b l.places=K at *
 refine (Zaz (σ:=Nat) (fun k=>head72 l m b ws k) (fun k=>k<=K) (fun k=>K-k) (fun _=>_) (fun k Y hk hY=>?_) 0 ?_ (Xp _) ?_).trans rfl
 ·have hw1:IntKind.i64.wrap ((k:Int)+1)=(k:Int)+1:=i64w (by omega) (by omega)
  rcases Xck k K with h|h
  ·have hkl:k<l.places.length:=by omega
   have hklI:(k:Int)<l.places.length:=by omega
   have hx:l.places[k]?=some l.places[k]:=Xd hkl
   have hlt:=hat k _ h hx
   simp[head72,c72b0,zeroL,hklI,hkl,hlt]
   refine hY (k+1) _ (by omega) (by omega) ?_
   simp[head72,zeroL,hw1]
  ·obtain rfl:k=K:=by omega
   have f1:k*48<=140737488355328:=by omega
   have f2:k<=140737488355328:=by omega
   have f3:(k+1)*48<=140737488355328:=by omega
   have f4:k+1<=140737488355328:=by omega
   have hklI:(k:Int)<=l.places.length:=by omega
   have hfin:∀ (x:Land),landPut l b ws=x->F 24 [.agg (x.c .bor .own)] []=some (.bool (landOk x),[]):=fun x hx=>law24 x .own ⟨by rw[<- hx];exact hl.grants,by rw[<- hx];have:=Za7 (fun p:Place=>p.berth) ⟨b,seenAt b l.places,ws⟩ l.places;simp only[landPut,putPlace];omega,fun p hp=>by
    rw[<- hx]at hp
    rcases Zay (fun p:Place=>p.berth) hp with rfl|hp
    ·exact⟨hw⟩
    ·exact hl.each p hp⟩
   cases hx:l.places[k]? with
   | none =>
    have hlen:l.places.length=k:=by have:=Xbr.1 hx;omega
    have t1:(l.places.map (Place.c .own)).take l.places.length=l.places.map (Place.c .own):=Xae (by simp)
    have t2:(l.places.map (Place.c .own)).drop l.places.length=[]:=List.drop_of_length_le (by simp)
    rw[hx]at hse hhit
    simp only at hse hhit
    rw[hhit,hse]at hpt
    have hpl:landPut l b ws=⟨l.time,l.grants,l.places++[⟨b,1,ws⟩]⟩:=by
     simp only[landPut,putPlace,hse,hpt]
     simp[<- hlen]
    have w24:=hfin _ hpl
    rw[hpl]
    generalize hq:landOk ⟨l.time,l.grants,l.places++[⟨b,1,ws⟩]⟩=q at w24
    simp only[Land.c,Xb8,Xx,Xt,Place.c]at w24
    subst hlen
    simp[head72,c72b0,zeroL,takeRows,hb,hb2,slBounds,f1,f2,f3,f4,t1,t2,w24]
    cases q<;>simp[w3]
   | some y =>
    have hkl:k<l.places.length:=(Xa.1 hx).1
    have hy:=(Xa.1 hx).2
    have hns:=hst y hx
    have hpos:0<l.places.length-k:=by omega
    have hposI:(0:Int)<((l.places.length-k:Nat):Int):=by omega
    have g1:(k+1+(l.places.length-k))*48<=140737488355328:=by omega
    have g2:k+1+(l.places.length-k)<=140737488355328:=by omega
    have g3:(k+1+(l.places.length-k-1))*48<=140737488355328:=by omega
    have g4:k+1+(l.places.length-k-1)<=140737488355328:=by omega
    have hkle:k<=l.places.length:=by omega
    have hmin:min k l.places.length=k:=Xbt hkle
    have hsum:k+(l.places.length-k)=l.places.length:=by omega
    have t3:((l.places.map (Place.c .own)).drop k).take (l.places.length-k)=(l.places.map (Place.c .own)).drop k:=Xae (by simp)
    have t4:∀ (r:List AV) (Y:List (List AV)),(List.replicate k r++Y).drop k=Y:=fun r Y=>List.drop_left' (by simp)
    rw[hx]at hse hhit
    simp only at hse hhit
    rw[hhit]at hpt
    cases hc:sEq y.berth b
    ·rw[hc]at hse hpt
     simp only[Xq,Xaj]at hse hpt
     rw[hse]at hpt
     have hpl:landPut l b ws=⟨l.time,l.grants,l.places.take k++⟨b,1,ws⟩::l.places.drop k⟩:=by
      simp only[landPut,putPlace,hse,hpt]
     have w24:=hfin _ hpl
     rw[hpl]
     generalize hq:landOk ⟨l.time,l.grants,l.places.take k++⟨b,1,ws⟩::l.places.drop k⟩=q at w24
     simp only[Land.c,Xb8,Xx,List.map_take,List.map_drop,Place.c]at w24
     simp[head72,c72b0,zeroL,takeRows,hb,hb2,slBounds,f1,f2,f3,f4,hklI,hkl,hy,hns,hc,hpos,hposI,g1,g2,hsum,t3,t4,hkle,hmin,w24]
     cases q<;>simp[w3]
    ·rw[hc]at hse hpt
     simp only[Xag]at hse hpt
     rw[hse]at hpt
     have hpl:landPut l b ws=⟨l.time,l.grants,l.places.take k++⟨b,IntKind.i64.wrap (y.seen+1),ws⟩::l.places.drop (k+1)⟩:=by
      simp only[landPut,putPlace,hse,hpt]
     have w24:=hfin _ hpl
     rw[hpl]
     generalize hq:landOk ⟨l.time,l.grants,l.places.take k++⟨b,IntKind.i64.wrap (y.seen+1),ws⟩::l.places.drop (k+1)⟩=q at w24
     simp only[Land.c,Xb8,Xx,List.map_take,List.map_drop,Place.c]at w24
     have g5:(k+1+(l.places.length-(k+1)))*48<=140737488355328:=by omega
     have g6:k+1+(l.places.length-(k+1))<=140737488355328:=by omega
     have h1I:(1:Int)<=((l.places.length-k:Nat):Int):=by omega
     have hsum2:k+1+(l.places.length-k-1)=l.places.length:=by omega
     have t5:((l.places.map (Place.c .own)).drop (k+1)).take (l.places.length-k-1)=(l.places.map (Place.c .own)).drop (k+1):=Xae (by simp;omega)
     have t6:∀ (r:List AV),(List.replicate k r++(l.places.map (Place.c .own)).drop k).drop (k+1)=(l.places.map (Place.c .own)).drop (k+1):=fun r=>by
      rw[List.drop_append]
      simp
     simp[head72,c72b0,zeroL,takeRows,hb,hb2,slBounds,f1,f2,f3,f4,hklI,hkl,hy,hns,hc,hpos,hposI,g1,g2,g3,g4,g5,g6,hsum,hsum2,t3,t4,t5,t6,h1I,hkle,hmin,w24]
     cases q<;>simp[w3]
 ·simp[head72,zeroL]
 ·unfold big;omega
def lastAt(b:T):List Place->Nat->Int->Int
 | [],_,a=>a
 | p::r,i,a=>lastAt b r (i+1) (if sEq p.berth b then i else a)
theorem Zf5(b:T):∀ (ps:List Place) (i:Nat) (a:Int),(lastAt b ps i a=a/\∀ p∈ps,p.berth≠b)\/∃ j p,ps[j]?=some p/\p.berth=b/\lastAt b ps i a=((i+j:Nat):Int)
 | [],i,a=>.inl ⟨rfl,fun p hp=>by simp at hp⟩
 | p::r,i,a=>by
  unfold lastAt
  rcases Zf5 b r (i+1) (if sEq p.berth b then i else a) with ⟨h1,h2⟩|⟨j,q,h1,h2,h3⟩
  ·by_cases hp:p.berth=b
   ·exact .inr ⟨0,p,rfl,hp,by rw[h1,hp,sEq_self];simp⟩
   ·refine .inl ⟨by rw[h1,Zad hp];simp,fun x hx=>?_⟩
    rcases Xl.1 hx with rfl|hx
    ·exact hp
    ·exact h2 x hx
  ·exact .inr ⟨j+1,q,by simpa using h1,h2,by rw[h3];congr 1;omega⟩
def head70(l:Land)(m:Md)(b:T)(ws:List Want)(i:Nat)(at_:Int):St :=
 hd [(1,.str b),(3,.ptr 0 0 0),(6,.ptr 1 0 0),(8,.ptr 2 0 0),(9,.ptr 3 0 0),(10,.int .i64 at_),(34,.int .i64 l.places.length),(35,.int .i64 i)]
  [.box (l.c .bor m),.box zeroL,.box [.int .i64 l.time,.ref 4,.ref 5],.box [.str b,.int .i64 1,.ref 6],.arr 5 (l.grants.map Grant.c),.arr 3 (l.places.map (Place.c .own)),.arr 7 (ws.map Want.c)] 0
theorem Zol{b:T}{ps:List Place}{j:Nat}{p:Place}(ha:Asc (·.berth) ps)(hj:ps[j]?=some p)(hp:p.berth=b):seenAt b ps=IntKind.i64.wrap (p.seen+1):=by
 have hlt:j<=ltCount (fun p:Place=>p.berth) b ps/\ps[ltCount (fun p:Place=>p.berth) b ps]?=some p:=by
  induction ps generalizing j with
  | nil=>simp at hj
  | cons q r ih =>
   have h1:=Xad.1 ha
   cases j with
   | zero =>
    simp at hj
    subst hj
    simp[ltCount,hp,Zao]
   | succ j =>
    have hj':r[j]?=some p:=by simpa using hj
    have h2:=h1.1 p (Xe hj')
    simp only at h2
    rw[hp]at h2
    obtain⟨h3,h4⟩:=ih h1.2 hj'
    simp[ltCount,h2,h3,h4]
 unfold seenAt
 rw[hlt.2]
 simp[hp]
theorem Zmj{b:T}{ps:List Place}(h:∀ p∈ps,p.berth≠b):seenAt b ps=1:=by
 unfold seenAt
 split
 ·rename_i p hp
  rw[Zad (h p (Xe hp))]
  rfl
 ·rfl
theorem law70(l:Land)(m:Md)(b:T)(ws:List Want)(hl:l.small)(hw:ws.length<=1048576):F 70 [.agg (l.c .bor m),.str b,.sl .bor 7 (ws.map Want.c)] []=some (.tup [.agg ((matePut l b ws).1.c .own .own),.int .i64 (matePut l b ws).2],[]):=by
 refine Zae fn70 rfl ?_
 have w1:=law23 l m hl
 have w2:=law6 ws (by unfold big;omega)
 have w3:=law122 l m hl
 simp only[Land.c]at w1 w3
 unfold matePut
 cases q1:landOk l
 ·simp[c70,w1,q1,Land.zero]
 cases q2:isName b
 ·simp[c70,w1,w3,q1,q2]
 cases q3:wantsOk ws
 ·simp[c70,w1,w2,w3,q1,q2,q3]
 obtain⟨hasc,hp4,hg40⟩:=Zcm q1
 have hb:ws.length*72<=140737488355328:=by omega
 have hb2:ws.length<=140737488355328:=by omega
 have hfin:∀ (x:Land),landPut l b ws=x->F 23 [.agg (x.c .bor .own)] []=some (.bool (landOk x),[]):=fun x hx=>law23 x .own ⟨by rw[<- hx];exact hl.grants,by rw[<- hx];have:=Za7 (fun p:Place=>p.berth) ⟨b,seenAt b l.places,ws⟩ l.places;simp only[landPut,putPlace];omega,fun p hp=>by
  rw[<- hx]at hp
  rcases Zay (fun p:Place=>p.berth) hp with rfl|hp
  ·exact⟨hw⟩
  ·exact hl.each p hp⟩
 simp[c70,w1,w2,w3,q1,q2,q3,takeRows,hb,hb2]
 refine (Zaa l.places (fun i (a:Int)=>head70 l m b ws i a) (fun i a=>lastAt b (l.places.drop i) i a=lastAt b l.places 0 (-1)) (fun _ _ _=>_) (fun a Y hinv=>?_) (fun i p r a Y hp hi hr hinv hY=>?_) (-1) ?_ rfl ?_).trans rfl
 ·rw[Xcq]at hinv
  simp only[lastAt]at hinv
  rcases Zf5 b l.places 0 (-1) with ⟨h1,h2⟩|⟨j,p,h1,h2,h3⟩
  ·rw[h1]at hinv
   subst hinv
   have hse:=Zmj h2
   have hpl:landPut l b ws=⟨l.time,l.grants,putBy (fun p:Place=>p.berth) ⟨b,1,ws⟩ l.places⟩:=by
    simp only[landPut,putPlace,hse]
   have w23:=hfin _ hpl
   rw[hpl]
   have hsort:=Zbw (Place.c .own) (fun p:Place=>p.berth) 0 (fun _=>rfl) (Zbk (fun p:Place=>p.berth) (x:=⟨b,1,ws⟩) (l:=l.places) h2) (Zar (fun p:Place=>p.berth) hasc)
   simp only[Xb8,Xx,Xt,Place.c]at hsort
   obtain⟨s1,s2⟩:=hsort
   generalize hpp:putBy (fun p:Place=>p.berth) ⟨b,1,ws⟩ l.places=pp at *
   generalize hq:landOk ⟨l.time,l.grants,pp⟩=q at w23
   simp only[Land.c]at w23
   have e1:(l.places.length+1)*48<=140737488355328:=by omega
   have e2:l.places.length+1<=140737488355328:=by omega
   have e3:l.places.length+1<=1000000000:=by omega
   simp[head70,c70b0,zeroL,takeRows,e1,e2,e3,isRef,sortTab,s1,s2,w23]
   cases q<;>simp[w3]
  ·rw[h3]at hinv
   simp only[Xbe]at hinv
   subst hinv
   obtain⟨hj,hg⟩:=Xa.1 h1
   have hse:=Zol hasc h1 h2
   have hpl:landPut l b ws=⟨l.time,l.grants,l.places.set j ⟨b,IntKind.i64.wrap (p.seen+1),ws⟩⟩:=by
    simp only[landPut,putPlace,hse]
    rw[Zcr (fun p:Place=>p.berth) hasc h1 h2]
   have w23:=hfin _ hpl
   rw[hpl]
   generalize hq:landOk ⟨l.time,l.grants,l.places.set j ⟨b,IntKind.i64.wrap (p.seen+1),ws⟩⟩=q at w23
   simp only[Land.c,Xa3,Place.c]at w23
   have hj0:(0:Int)<=(j:Int):=by omega
   simp[head70,c70b0,zeroL,hj,hg,hj0,w23]
   cases q<;>simp[w3,Xa3]
 ·have hw1:IntKind.i64.wrap ((i:Int)+1)=(i:Int)+1:=i64w (by omega) (by omega)
  obtain⟨_,hg⟩:=Xa.1 hp
  have hiI:(i:Int)<l.places.length:=by omega
  have hd:l.places.drop i=p::l.places.drop (i+1):=by rw[Xah hi,hg]
  rw[hd]at hinv
  simp only[lastAt]at hinv
  cases hc:sEq p.berth b
  ·rw[hc]at hinv
   simp[head70,c70b0,zeroL,hiI,hi,hg,hc]
   refine hY a _ (by simpa using hinv) ?_
   simp[head70,zeroL,hw1]
  ·rw[hc]at hinv
   simp[head70,c70b0,zeroL,hiI,hi,hg,hc]
   refine hY i _ (by simpa using hinv) ?_
   simp[head70,zeroL,hw1]
 ·simp[head70,zeroL]
 ·unfold big;omega
def head182(ws:List Want)(n:T)(i:Nat):St:=hd [(1,.str n),(4,.ptr 0 0 0),(8,.sl .bor 7 (ws.map Want.c)),(9,.int .i64 ws.length),(10,.int .i64 i)] [.box Want.zero.c] 0
theorem law182(ws:List Want)(n:T)(hl:ws.length<big):F 182 [.sl .bor 7 (ws.map Want.c),.str n] []=some (.tup [.agg ((findW ws n).getD .zero).c,.bool (findW ws n).isSome],[]):=by
 refine Zae fn182 rfl ?_
 have hm:ws.length<=9223372036854775807:=by unfold big at hl;omega
 simp[c182]
 refine (Zaa ws (fun i (_:Unit)=>head182 ws n i) (fun _ _=>True) (fun _ r l=>(AV.tup [.agg ((findW r n).getD .zero).c,.bool (findW r n).isSome],([]:List (Option AO)))) (fun acc Y _=>?_) (fun i a r acc Y ha hi hr _ hY=>?_) () ?_ trivial ?_).trans rfl
 ·simp[head182,c182b0,findW,Want.zero]
 ·have hw:IntKind.i64.wrap ((i:Int)+1)=(i:Int)+1:=i64w (by omega) (by omega)
  obtain⟨_,hg⟩:=Xa.1 ha
  have hiI:(i:Int)<ws.length:=by omega
  cases q:sEq a.copy n
  ·simp[head182,c182b0,hi,hiI,hg,findW,Want.zero,q]
   refine hY () _ trivial ?_
   simp[head182,hw,Want.zero]
  ·simp[head182,c182b0,hi,hiI,hg,findW,Want.zero,q]
 ·simp[head182,Want.zero]
 ·exact hl
def findG(h:T):Nat->List Grant->Int
 | _,[]=>-1
 | i,g::r=>if sEq g.hold h then i else findG h (i+1) r
def head139(l:Land)(m:Md)(h:T)(i:Nat):St:=hd [(1,.str h),(2,.ptr 0 0 0),(5,.int .i64 i)] [.box (l.c .bor m)] 0
theorem law139(l:Land)(m:Md)(h:T)(hl:l.small):F 139 [.agg (l.c .bor m),.str h] []=some (.int .i64 (findG h 0 l.grants),[]):=by
 refine Zae fn139 rfl ?_
 have hm:=hl.grants
 simp[c139]
 refine (Zaa l.grants (fun i (_:Unit)=>head139 l m h i) (fun _ _=>True) (fun i r _=>(AV.int .i64 (findG h i r),([]:List (Option AO)))) (fun acc Y _=>?_) (fun i a r acc Y ha hi hr _ hY=>?_) () ?_ trivial ?_).trans rfl
 ·simp[head139,c139b0,findG]
 ·have hw:IntKind.i64.wrap ((i:Int)+1)=(i:Int)+1:=i64w (by omega) (by omega)
  obtain⟨_,hg⟩:=Xa.1 ha
  have hiI:(i:Int)<l.grants.length:=by omega
  cases q:sEq a.hold h
  ·simp[head139,c139b0,hi,hiI,hg,findG,q]
   refine hY () _ trivial ?_
   simp[head139,hw]
  ·simp[head139,c139b0,hi,hiI,hg,findG,q]
 ·simp[head139]
 ·unfold big;omega
def wantsHold(b c h:T)(p:Place):Bool:=p.wants.any fun w=>sEq p.berth b && (sEq w.copy c && sEq w.hold h)
def head159(l:Land)(m:Md)(b c h:T)(i:Nat):St:=hd [(1,.str b),(2,.str c),(3,.str h),(4,.ptr 0 0 0),(9,.int .i64 i)] [.box (l.c .bor m)] 0
def head159b(l:Land)(m:Md)(b c h:T)(i j:Nat):St:=hd [(1,.str b),(2,.str c),(3,.str h),(4,.ptr 0 0 0),(9,.int .i64 i),(10,.int .i64 j)] [.box (l.c .bor m)] 0
theorem law159(l:Land)(m:Md)(b c h:T)(hl:l.small):F 159 [.agg (l.c .bor m),.str b,.str c,.str h] []=some (.bool (l.places.any (wantsHold b c h)),[]):=by
 refine Zae fn159 rfl ?_
 have hm:=hl.places
 simp[c159]
 refine (Zaa l.places (fun i (_:Unit)=>head159 l m b c h i) (fun _ _=>True) (fun i r _=>(AV.bool (r.any (wantsHold b c h)),([]:List (Option AO)))) (fun acc Y _=>?_) (fun i p r acc Y ha hi hr _ hY=>?_) () ?_ trivial ?_).trans rfl
 ·simp[head159,c159b1]
 ·have hw:IntKind.i64.wrap ((i:Int)+1)=(i:Int)+1:=i64w (by omega) (by omega)
  obtain⟨_,hg⟩:=Xa.1 ha
  have hiI:(i:Int)<l.places.length:=by omega
  have hps:=hl.each p (Xe ha)
  have hpl:=hps.wants
  simp[head159,c159b1,hi,hiI,hg]
  refine (Zaa p.wants (fun j (_:Unit)=>head159b l m b c h i j) (fun _ _=>True) (fun j r2 _=>(AV.bool ((r2.any fun w=>sEq p.berth b && (sEq w.copy c && sEq w.hold h)) || r.any (wantsHold b c h)),([]:List (Option AO)))) (fun acc Y2 _=>?_) (fun j x r2 acc Y2 hx hj hr2 _ hY2=>?_) () ?_ trivial ?_).trans ?_
  ·simp[head159b,c159b0,hi,hiI,hg]
   refine hY () _ trivial ?_
   simp[head159,hw]
  ·have hw2:IntKind.i64.wrap ((j:Int)+1)=(j:Int)+1:=i64w (by omega) (by omega)
   obtain⟨_,hg2⟩:=Xa.1 hx
   have hjI:(j:Int)<p.wants.length:=by omega
   cases q1:sEq p.berth b
   ·simp[head159b,c159b0,hi,hiI,hg,hj,hjI,hg2,q1]
    rw[hY2 () _ trivial (by simp[head159b,hw2])]
    simp[q1]
   ·cases q2:sEq x.copy c
    ·simp[head159b,c159b0,hi,hiI,hg,hj,hjI,hg2,q1,q2]
     rw[hY2 () _ trivial (by simp[head159b,hw2])]
     simp[q1]
    ·cases q3:sEq x.hold h
     ·simp[head159b,c159b0,hi,hiI,hg,hj,hjI,hg2,q1,q2,q3]
      rw[hY2 () _ trivial (by simp[head159b,hw2])]
      simp[q1]
     ·simp[head159b,c159b0,hi,hiI,hg,hj,hjI,hg2,q1,q2,q3]
  ·simp[head159b,hg]
  ·unfold big;omega
  ·simp[wantsHold]
 ·simp[head159]
 ·unfold big;omega
def Grant.k(g:Grant):T:=g.hold
def newGrant(t:Int)(p:Parcel):Grant:=⟨p.hold,p.berth,p.copy,p.at_,t+32⟩
def insG(x:Grant)(gs:List Grant):List Grant:=gs.take (ltCount Grant.k x.hold gs)++x::gs.drop (ltCount Grant.k x.hold gs)
def grantOf(h:T)(gs:List Grant):Option Grant:=gs.find? fun g=>sEq g.hold h
def blocks(t:Int)(p:Parcel)(g:Grant):Bool:=decide (t<g.til) && !(sEq g.berth p.berth && (sEq g.copy p.copy && decide (g.at_<=p.at_)))
def lives40(t:Int)(gs:List Grant):List Grant:=if 40<=gs.length then gs.filter fun g=>decide (t<g.til) else gs
def landGive(l:Land)(p:Parcel):Option Land :=
 if l.places.any (wantsHold p.berth p.copy p.hold) then
  match grantOf p.hold l.grants with
  | some g=>if blocks l.time p g then none else some { l with grants:=putBy Grant.k (newGrant l.time p) l.grants }
  | none=>if 40<=(lives40 l.time l.grants).length then none else some { l with grants:=putBy Grant.k (newGrant l.time p) (lives40 l.time l.grants) }
 else none
theorem Zby(h:T):∀ (gs:List Grant) (i:Nat),(findG h i gs = -1/\grantOf h gs=none/\Lacks Grant.k h gs)\/∃ j g,gs[j]?=some g/\g.hold=h/\findG h i gs=((i+j:Nat):Int)/\grantOf h gs=some g
 | [],i=>.inl ⟨rfl,rfl,fun y hy=>by simp at hy⟩
 | g::r,i=>by
  unfold findG grantOf
  rw[List.find?_cons]
  by_cases q:sEq g.hold h=true
  ·rw[Xr q,q]
   exact .inr ⟨0,g,rfl,(Zac _ _).1 q,by simp,rfl⟩
  ·rw[Xu q]
   simp only[q]
   rcases Zby h r (i+1) with ⟨h1,h2,h3⟩|⟨j,g',h1,h2,h3,h4⟩
   ·refine .inl ⟨h1,h2,fun y hy=>?_⟩
    rcases Xl.1 hy with rfl|hy
    ·exact fun e=>q ((Zac _ _).2 e)
    ·exact h3 y hy
   ·exact .inr ⟨j+1,g',by simpa using h1,h2,by rw[h3];congr 1;omega,h4⟩
theorem Zfj{x:Grant}{gs:List Grant}(h:Lacks Grant.k x.hold gs):insG x gs=putBy Grant.k x gs:=by
 rw[Zcs]
 have:hitAt Grant.k (Grant.k x) gs=false:=by
  unfold hitAt
  split
  ·rename_i y hy
   exact Zad (h y (Xe hy))
  ·rfl
 rw[this]
 rfl
theorem Ziv{x g:Grant}:∀ {gs:List Grant} {j:Nat},Asc Grant.k gs->gs[j]?=some g->g.hold=x.hold->insG x (gs.take j++gs.drop (j+1))=putBy Grant.k x gs
 | [],j,_,h,_=>by simp at h
 | z::gs,j,ha,h,he=>by
  have h1:=Xad.1 ha
  cases j with
  | zero =>
   simp at h
   subst h
   have hl:Lacks Grant.k x.hold gs:=fun y hy e=>by
    have:=h1.1 y hy
    unfold Grant.k at this e
    rw[e,he,Zao]at this
    cases this
   simp only[List.take_zero,Xa8,Xbe,List.drop_one,List.tail_cons]
   rw[Zfj hl,putBy,Xu (by unfold Grant.k;rw[he,Zao];simp),Xr (by unfold Grant.k;rw[he];exact sEq_self _)]
   cases gs with
   | nil=>rfl
   | cons y ys =>
    have:=h1.1 y Xi
    unfold Grant.k at this
    rw[he]at this
    have q1:¬ sLt (Grant.k y) (Grant.k x)=true:=fun q=>by
     have:=Zb4 this q
     unfold Grant.k at this
     rw[Zao]at this
     cases this
    have q2:¬ sEq (Grant.k y) (Grant.k x)=true:=fun q=>hl y Xi ((Zac _ _).1 q)
    rw[putBy,Xu q1,Xu q2]
  | succ j =>
   have hg:gs[j]?=some g:=by simpa using h
   have hlt:=h1.1 g (Xe hg)
   unfold Grant.k at hlt
   rw[he]at hlt
   have ih:=Ziv h1.2 hg he
   simp only[List.take_succ_cons,List.drop_succ_cons,Xa1]
   rw[putBy,Xr (by unfold Grant.k;exact hlt),<- ih]
   have e1:∀ r,ltCount Grant.k x.hold (z::r)=ltCount Grant.k x.hold r+1:=fun r=>by simp[ltCount,Grant.k,hlt]
   unfold insG
   rw[e1]
   simp
def tl142:CCode:=(.seq (.block 2
  (.loop [2,3,4,10] c142b1))
 (jR [xe 128 3 4,xc 129 128,xe 130 3 1,xc 131 130,xe 132 3 5,xc 133 132,xe 134 3 6,xc 135 134,xe 136 2 0,xc 137 136,xu 138 137 32,⟨some 139,.build [.str ⟨#[]⟩,.str ⟨#[]⟩,.str ⟨#[]⟩,.int .i64 0,.int .i64 0] [(0,1,.tmp 129),(1,1,.tmp 131),(2,1,.tmp 133),(3,1,.tmp 135),(4,1,.tmp 138)],none⟩,⟨some 11,.alloc [.str ⟨#[]⟩,.str ⟨#[]⟩,.str ⟨#[]⟩,.int .i64 0,.int .i64 0],none⟩,xg 11 139 5] [2,4,10,11]
 (.seq (.loud [⟨some 140,.bslice 5 [.str ⟨#[]⟩,.str ⟨#[]⟩,.str ⟨#[]⟩,.int .i64 0,.int .i64 0] 0 [],none⟩,xe 141 2 1,xc 142 141,xd 143 10,ul 144 5 142 143,x9 145 5 64 140 144,xf 146 11 5,⟨some 147,.bslice 5 [.str ⟨#[]⟩,.str ⟨#[]⟩,.str ⟨#[]⟩,.int .i64 0,.int .i64 0] 1 [(0,.tmp 146)],none⟩,x9 148 5 64 145 147,xe 149 2 1,xc 150 149,xd 151 10,ug 152 5 150 151,x9 153 5 64 148 152,xe 154 2 1,xg 154 153 1] [0,0,2,0,14,31,0,64,255,0,512,0,3584,8191,16383,32767] [2,4])
 (jR [xf 155 2 3,xg 4 155 3,yh 5] [4,5]
 .ret))))
theorem c142_cut:c142=⟨156,[.cell 4 3 true,.tmp 5],
 (jR [yi 2 0,yi 3 1,uw 4,xm 5] [2,3,4]
 (.seq (jR [xf 12 2 3,xe 13 3 1,xc 14 13,xe 15 3 5,xc 16 15,xe 17 3 4,xc 18 17,⟨some 19,.call 159 [false,false,false,false] [.tmp 12,.tmp 14,.tmp 16,.tmp 18],none⟩,yb 20 19] [2,3,4,20]
 (.cond (.tmp 20)
  (jR [⟨some 21,.blank 3 (.tmp 2),none⟩,xg 4 21 3,xm 5] [4,5]
  .ret)
  .skip))
 (jR [xf 22 2 3,xe 23 3 4,xc 24 23,xz 25 139 22 24,xd 6 25] [2,3,4,6]
 (.seq (jR [xd 26 6,qr 27 26 0] [2,3,4,6,27]
 (.cond (.tmp 27)
  (jR [xe 28 2 1,xc 29 28,xd 30 6,xp 31 5 29 30,xf 32 31 5,⟨some 7,.alloc [.str ⟨#[]⟩,.str ⟨#[]⟩,.str ⟨#[]⟩,.int .i64 0,.int .i64 0],none⟩,xg 7 32 5] [2,3,4,6,7]
  (.seq (jR [xe 33 7 4,xc 34 33,xe 35 2 0,xc 36 35,⟨some 37,.bin .gtr (.tmp 34) (.tmp 36),none⟩,xd 38 37,xn 39 7 1 38,xh 40 39 38,xn 41 3 1 38,xh 42 41 38,yw 43 40 42 38,x7 44 43 38,xn 45 7 2 44,xh 46 45 44,xn 47 3 5 44,xh 48 47 44,yw 49 46 48 44,wl 50 44 49 38,x7 51 50 38,xn 52 7 3 51,xh 53 52 51,xn 54 3 6 51,xh 55 54 51,⟨some 56,.bin .leq (.tmp 53) (.tmp 55),some (51,true)⟩,wl 57 51 56 38,⟨some 58,.un .not (.tmp 57),some (38,true)⟩,xl 59 38 58] [2,3,4,6,59]
  (.cond (.tmp 59)
   (jR [⟨some 60,.blank 3 (.tmp 2),none⟩,xg 4 60 3,xm 5] [4,5]
   .ret)
   .skip))
  (.loud [⟨some 61,.bslice 5 [.str ⟨#[]⟩,.str ⟨#[]⟩,.str ⟨#[]⟩,.int .i64 0,.int .i64 0] 0 [],none⟩,xe 62 2 1,xc 63 62,xd 64 6,ul 65 5 63 64,x9 66 5 64 61 65,xe 67 2 1,xc 68 67,xd 69 6,xu 70 69 1,ug 71 5 68 70,x9 72 5 64 66 71,xe 73 2 1,xg 73 72 1] [0,0,2,0,14,31,0,64,0,256,960,2047,4095,8191] [2,3,4])))
  .skip))
 (.seq (jR [xe 74 2 1,xc 75 74,xv 76 75,qr 77 76 40] [2,3,4,77]
 (.cond (.tmp 77)
  (jR [⟨some 78,.bslice 5 [.str ⟨#[]⟩,.str ⟨#[]⟩,.str ⟨#[]⟩,.int .i64 0,.int .i64 0] 0 [],none⟩,xd 8 78] [2,3,4,8]
  (.seq (jR [x8 9] [2,3,4,8,9]
  (.block 0
   (.loop [2,3,4,8,9] c142b0)))
  (.region [xd 103 8,xe 104 2 1,xg 104 103 1] [2,3,4])))
  .skip))
 (.seq (jR [xe 105 2 1,xc 106 105,xv 107 106,qr 108 107 40] [2,3,4,108]
 (.cond (.tmp 108)
  (jR [⟨some 109,.blank 3 (.tmp 2),none⟩,xg 4 109 3,xm 5] [4,5]
  .ret)
  .skip))
 (jR [x8 10] [2,3,4,10]
 tl142)))))))⟩:=rfl
theorem Zak{k:Nat}{xs:List (List AV)}(h:rowsPlain xs=true):rowsPlain (xs.take k)=true:=by
 unfold rowsPlain at *
 rw[Xao]at *
 exact fun x hx=>h x (Xbf hx)
theorem Zaj{k:Nat}{xs:List (List AV)}(h:rowsPlain xs=true):rowsPlain (xs.drop k)=true:=by
 unfold rowsPlain at *
 rw[Xao]at *
 exact fun x hx=>h x (Xbq hx)
theorem Zeq:rowsPlain []=true:=rfl
theorem Zd0(a b c:T)(m n:Int):rowsPlain [[.str a,.str b,.str c,.int .i64 m,.int .i64 n]]=true:=by simp[rowsPlain]
def head142(t:Int)(g0 gs:List Grant)(P:List (List AV))(p:Parcel)(fr:Bool)(k:Nat):St :=
 hd [(2,.ptr 2 0 0),(3,.ptr 3 0 0),(4,.ptr 4 0 0),(10,.int .i64 k)]
  ([.arr 5 (g0.map Grant.c),.arr 3 P,.box [.int .i64 t,.ref (if fr then 5 else 0),.ref 1],.box (p.c .bor),.box zeroL]++(if fr then [.arr 5 (gs.map Grant.c)] else [])) 2
theorem Zmm(t:Int)(ht:0<=t/\t<=2000000)(g0 gs:List Grant)(P:List (List AV))(p:Parcel)(fr:Bool)(hf:fr=false->g0=gs)(hl:gs.length<=1048576)(s:St)(hs:s.norm [2,3,4,10]=head142 t g0 gs P p fr 0) :
  fin [.cell 4 3 true,.tmp 5] 2 (X F [.code tl142] (.normal,s))=some (.tup [.agg [.int .i64 t,.sl .own 5 ((insG (newGrant t p) gs).map Grant.c),.sl .own 3 P],.bool true],[some (.arr 5 (g0.map Grant.c)),none]):=by
 have hw32:IntKind.i64.wrap (t+32)=t+32:=i64w (by omega) (by omega)
 have hK:=Zco Grant.k p.hold gs
 have hat:=fun i y=>Zcn Grant.k (b:=p.hold) (l:=gs) (i:=i) (y:=y)
 have hst:=fun y=>Zbn Grant.k (b:=p.hold) (l:=gs) (y:=y)
 have hins:insG (newGrant t p) gs=gs.take (ltCount Grant.k p.hold gs)++newGrant t p::gs.drop (ltCount Grant.k p.hold gs):=rfl
 rw[hins]
 generalize ltCount Grant.k p.hold gs=K at *
 simp[tl142]
 refine (Zaz (σ:=Nat) (fun k=>head142 t g0 gs P p fr k) (fun k=>k<=K) (fun k=>K-k) (fun _=>_) (fun k Y hk hY=>?_) 0 hs (Xp _) ?_).trans rfl
 ·have hw1:IntKind.i64.wrap ((k:Int)+1)=(k:Int)+1:=i64w (by omega) (by omega)
  rcases Xck k K with h|h
  ·have hkl:k<gs.length:=by omega
   have hklI:(k:Int)<gs.length:=by omega
   have hx:gs[k]?=some gs[k]:=Xd hkl
   have hlt:=hat k _ h hx
   unfold Grant.k at hlt
   cases fr
   ·obtain rfl:=hf rfl
    simp[head142,c142b1,zeroL,hklI,hkl,hlt]
    refine hY (k+1) _ (by omega) (by omega) ?_
    simp[head142,zeroL,hw1,List.range,List.range.loop]
   ·simp[head142,c142b1,zeroL,hklI,hkl,hlt]
    refine hY (k+1) _ (by omega) (by omega) ?_
    simp[head142,zeroL,hw1,List.range,List.range.loop]
  ·obtain rfl:k=K:=by omega
   have f1:k*64<=140737488355328:=by omega
   have f2:k<=140737488355328:=by omega
   have f3:(k+1)*64<=140737488355328:=by omega
   have f4:k+1<=140737488355328:=by omega
   have f5:(k+1+(gs.length-k))*64<=140737488355328:=by omega
   have f6:k+1+(gs.length-k)<=140737488355328:=by omega
   have hklI:(k:Int)<=gs.length:=by omega
   have hmin:min k gs.length=k:=Xbt hK
   have hsum:k+(gs.length-k)=gs.length:=by omega
   have t3:((gs.map Grant.c).drop k).take (gs.length-k)=(gs.map Grant.c).drop k:=Xae (by simp)
   rcases Xck k gs.length with hkl|hkl
   ·have hx:gs[k]?=some gs[k]:=Xd hkl
    have hns:=hst _ hx
    unfold Grant.k at hns
    have hkI:(k:Int)<gs.length:=by omega
    cases fr
    ·obtain rfl:=hf rfl
     simp[head142,c142b1,zeroL,takeRows,Zeq,Zd0,Zak,Zaj,hK,slBounds,newGrant,hw32,hkI,hkl,hns,f1,f2,f3,f4,f5,f6,hklI,hmin,hsum,t3]
    ·simp[head142,c142b1,zeroL,takeRows,Zeq,Zd0,Zak,Zaj,hK,slBounds,newGrant,hw32,hkI,hkl,hns,f1,f2,f3,f4,f5,f6,hklI,hmin,hsum,t3]
   ·have hkI:¬ (k:Int)<gs.length:=by omega
    obtain rfl:gs.length=k:=by omega
    cases fr
    ·obtain rfl:=hf rfl
     simp[head142,c142b1,zeroL,takeRows,Zeq,Zd0,Zak,Zaj,hK,slBounds,newGrant,hw32,f1,f2,f3,f4,f5,f6]
    ·simp[head142,c142b1,zeroL,takeRows,Zeq,Zd0,Zak,Zaj,hK,slBounds,newGrant,hw32,f1,f2,f3,f4,f5,f6]
 ·unfold big;omega
def head142b(l:Land)(p:Parcel)(acc:List Grant)(i:Nat):St :=
 hd [(2,.ptr 2 0 0),(3,.ptr 3 0 0),(4,.ptr 4 0 0),(8,.ref 5),(9,.int .i64 i)]
  [.arr 5 (l.grants.map Grant.c),.arr 3 (l.places.map (Place.c .own)),.box [.int .i64 l.time,.ref 0,.ref 1],.box (p.c .bor),.box zeroL,.arr 5 (acc.map Grant.c)] 2
def res142(l:Land)(p:Parcel)(gs:List Grant):AV×List (Option AO):=if 40<=gs.length then (.tup [.agg [.any,.any,.any],.bool false],[some (.arr 5 (l.grants.map Grant.c)),some (.arr 3 (l.places.map (Place.c .own)))])
 else (.tup [.agg [.int .i64 l.time,.sl .own 5 ((putBy Grant.k (newGrant l.time p) gs).map Grant.c),.sl .own 3 (l.places.map (Place.c .own))],.bool true],[some (.arr 5 (l.grants.map Grant.c)),none])
theorem law142(l:Land)(p:Parcel)(ht:0<=l.time/\l.time<=2000000)(hl:l.small)(hg:l.grants.length<=40)(ha:Asc Grant.k l.grants) :
  F 142 [.agg (l.refs 0),.agg (p.c .bor)] l.arrs=some (match landGive l p with
   | some x=>(.tup [.agg (x.c .own .own),.bool true],[some (.arr 5 (l.grants.map Grant.c)),none])
   | none=>(.tup [.agg [.any,.any,.any],.bool false],[some (.arr 5 (l.grants.map Grant.c)),some (.arr 3 (l.places.map (Place.c .own)))])):=by
 refine Zae fn142 rfl ?_
 have w1:=law159 l .own p.berth p.copy p.hold hl
 have w2:=law139 l .own p.hold hl
 simp only[Land.c]at w1 w2
 unfold landGive
 cases q1:l.places.any (wantsHold p.berth p.copy p.hold)
 ·rw[q1]at w1
  simp[c142_cut,w1,Land.refs,Land.arrs]
 rw[q1]at w1
 rcases Zby p.hold l.grants 0 with ⟨h1,h2,h3⟩|⟨j,g,h1,h2,h3,h4⟩
 ·rw[h1]at w2
  rw[h2]
  by_cases hlen:40<=l.grants.length
  ·have hlenI:(40:Int)<=l.grants.length:=by omega
   have hl40:lives40 l.time l.grants=l.grants.filter fun g=>decide (l.time<g.til):=by unfold lives40;rw[Xr hlen]
   rw[hl40]
   simp[c142_cut,w1,w2,Land.refs,Land.arrs,hlen,hlenI]
   refine (Zaa l.grants (fun i (acc:List Grant)=>head142b l p acc i) (fun i acc=>acc.length<=i/\Lacks Grant.k p.hold acc) (fun _ r acc=>res142 l p (acc++r.filter fun g=>decide (l.time<g.til))) (fun acc Y hacc=>?_) (fun i g r acc Y hgi hi hr hacc hY=>?_) [] ?_ ⟨Xo _,fun y hy=>by simp at hy⟩ ?_).trans ?_
   ·have tl:=Zmm l.time ht l.grants acc (l.places.map (Place.c .own)) p true (by simp) (by have:=hacc.1;omega)
    rw[Zfj (x:=newGrant l.time p) hacc.2]at tl
    by_cases h40:40<=acc.length
    ·have h40I:(40:Int)<=acc.length:=by omega
     simp[head142b,c142b0,zeroL,h40,h40I,res142]
    ·have h40I:¬ (40:Int)<=acc.length:=by omega
     simp[head142b,c142b0,zeroL,h40,h40I,res142]
     refine (tl _ ?_).trans ?_
     ·simp[head142,zeroL,List.range,List.range.loop]
     ·simp[newGrant]
   ·have hw:IntKind.i64.wrap ((i:Int)+1)=(i:Int)+1:=i64w (by omega) (by omega)
    obtain⟨_,hg2⟩:=Xa.1 hgi
    have hiI:(i:Int)<l.grants.length:=by omega
    have hc1:(acc.length+1)*64<=140737488355328:=by have:=hacc.1;omega
    have hc2:acc.length+1<=140737488355328:=by have:=hacc.1;omega
    by_cases hti:l.time<g.til
    ·simp[head142b,c142b0,zeroL,hi,hiI,hg2,hti,takeRows,Zd0,hc1,hc2]
     rw[hY (acc++[g]) _ ⟨by simp;exact hacc.1,fun y hy=>by
      rcases Xg.1 hy with hy|hy
      ·exact hacc.2 y hy
      ·rw[Xn.1 hy];exact h3 g (Xe hgi)⟩ (by simp[head142b,zeroL,hw,List.range,List.range.loop])]
     simp
    ·simp[head142b,c142b0,zeroL,hi,hiI,hg2,hti]
     rw[hY acc _ ⟨by have:=hacc.1;omega,hacc.2⟩ (by simp[head142b,zeroL,hw,List.range,List.range.loop])]
   ·simp[head142b,zeroL,List.range,List.range.loop]
   ·unfold big;omega
   ·by_cases h40:40<=(l.grants.filter fun g=>decide (l.time<g.til)).length<;>simp[res142,h40]
  ·have hlenI:¬ (40:Int)<=l.grants.length:=by omega
   have tl:=Zmm l.time ht l.grants l.grants (l.places.map (Place.c .own)) p false (by simp) (by omega)
   rw[Zfj (x:=newGrant l.time p) h3]at tl
   have hl40:lives40 l.time l.grants=l.grants:=by unfold lives40;rw[Xu hlen]
   rw[hl40,Xu hlen]
   simp[c142_cut,w1,w2,Land.refs,Land.arrs,hlen,hlenI]
   refine (tl _ ?_).trans ?_
   ·simp[head142,zeroL,List.range,List.range.loop]
   ·simp[newGrant]
 ·rw[h3]at w2
  rw[h4]
  obtain⟨hj,hgj⟩:=Xa.1 h1
  have hjI:(j:Int)<l.grants.length:=by omega
  simp only[Xbe]at w2
  have hb:blocks l.time p g=(decide (l.time<g.til) && !(sEq g.berth p.berth && (sEq g.copy p.copy && decide (g.at_<=p.at_)))):=rfl
  cases qb:blocks l.time p g
  ·have hgive:∀ c:Bool,(decide (l.time<g.til)=false\/(sEq g.berth p.berth && (sEq g.copy p.copy && decide (g.at_<=p.at_)))=true):=fun _=>by
    rw[qb]at hb
    cases x1:decide (l.time<g.til)
    ·exact .inl rfl
    ·rw[x1]at hb
     simpa using hb.symm
   have hlen:¬ (40<=j+(l.grants.length-(j+1))):=by omega
   have hlenI:¬ ((40:Int)<=(j:Int)+((l.grants.length-(j+1):Nat):Int)):=by omega
   have f1:j*64<=140737488355328:=by omega
   have f2:j<=140737488355328:=by omega
   have f3:(j+(l.grants.length-(j+1)))*64<=140737488355328:=by omega
   have f4:j+(l.grants.length-(j+1))<=140737488355328:=by omega
   have hmin:min j l.grants.length=j:=Xbt (by omega)
   have hjle:j<=l.grants.length:=by omega
   have hj1:j+1<=l.grants.length:=by omega
   have hj1I:(j:Int)+1<=l.grants.length:=by omega
   have hw1:IntKind.i64.wrap ((j:Int)+1)=(j:Int)+1:=i64w (by omega) (by omega)
   have h0I:(0:Int)<=(j:Int)+1:=by omega
   have t3:((l.grants.map Grant.c).drop (j+1)).take (l.grants.length-(j+1))=(l.grants.map Grant.c).drop (j+1):=Xae (by simp)
   have tl:=Zmm l.time ht l.grants (l.grants.take j++l.grants.drop (j+1)) (l.places.map (Place.c .own)) p true (by simp) (by simp;omega)
   rw[Ziv ha h1 h2]at tl
   rcases hgive true with x1|x1
   ·simp only[Xa6]at x1
    simp[c142_cut,w1,w2,Land.refs,Land.arrs,hj,hgj,hjI,x1,Zeq,Zak,Zaj,slBounds,takeRows,hlen,hlenI,f1,f2,f3,f4,hmin,hjle,hj1,hj1I,hw1,t3,h0I,qb]
    refine (tl _ ?_).trans ?_
    ·simp[head142,zeroL,List.range,List.range.loop]
    ·simp[newGrant]
   ·simp only[Xc,Xj]at x1
    obtain⟨x1,x2,x3⟩:=x1
    by_cases x0:l.time<g.til
    ·simp[c142_cut,w1,w2,Land.refs,Land.arrs,hj,hgj,hjI,x0,x1,x2,x3,Zeq,Zak,Zaj,slBounds,takeRows,hlen,hlenI,f1,f2,f3,f4,hmin,hjle,hj1,hj1I,hw1,t3,h0I,qb]
     refine (tl _ ?_).trans ?_
     ·simp[head142,zeroL,List.range,List.range.loop]
     ·simp[newGrant]
    ·simp[c142_cut,w1,w2,Land.refs,Land.arrs,hj,hgj,hjI,x0,Zeq,Zak,Zaj,slBounds,takeRows,hlen,hlenI,f1,f2,f3,f4,hmin,hjle,hj1,hj1I,hw1,t3,h0I,qb]
     refine (tl _ ?_).trans ?_
     ·simp[head142,zeroL,List.range,List.range.loop]
     ·simp[newGrant]
  ·rw[qb]at hb
   simp only[Xc,Xj,Xv,Bool.true_eq]at hb
   obtain⟨e1,e2⟩:=hb
   cases u1:sEq g.berth p.berth
   ·simp[c142_cut,w1,w2,Land.refs,Land.arrs,hj,hgj,hjI,e1,u1,qb]
   cases u2:sEq g.copy p.copy
   ·simp[c142_cut,w1,w2,Land.refs,Land.arrs,hj,hgj,hjI,e1,u1,u2,qb]
   rw[u1,u2]at e2
   simp at e2
   simp[c142_cut,w1,w2,Land.refs,Land.arrs,hj,hgj,hjI,e1,u1,u2,e2,qb]
theorem Zfv(h:T):∀ (l:List Ask) (i:Nat),(askAtGo h l i = -1/\∀ a∈l,sEq a.hold h=false)\/∃ k,∃ hk:k<l.length,askAtGo h l i=((i+k:Nat):Int)/\sEq (l[k]'hk).hold h=true/\∀ j (hj:j<k),sEq (l[j]'(by omega)).hold h=false
 | [],i=>.inl ⟨rfl,by simp⟩
 | a::l,i=>by
  simp only[askAtGo]
  by_cases q:sEq a.hold h=true
  ·right
   refine⟨0,by simp,by rw[Xr q];rfl,by simpa using q,fun j hj=>absurd hj (Nat.not_lt_zero _)⟩
  ·rw[Xu q]
   rcases Zfv h l (i+1) with ⟨h1,h2⟩|⟨k,hk,h1,h2,h3⟩
   ·left
    refine⟨h1,fun b hb=>?_⟩
    rcases Xl.1 hb with rfl|hb
    ·simpa using q
    ·exact h2 b hb
   ·right
    refine⟨k+1,by simpa using hk,by rw[h1];congr 1;omega,by simpa using h2,fun j hj=>?_⟩
    rcases j with _|j
    ·simpa using q
    ·simpa using h3 j (by omega)
theorem Zbg(l:List Ask)(h:T):(askAt l h = -1/\∀ a∈l,sEq a.hold h=false)\/∃ k,∃ hk:k<l.length,askAt l h=(k:Int)/\sEq (l[k]'hk).hold h=true/\∀ j (hj:j<k),sEq (l[j]'(by omega)).hold h=false:=by
 have:=Zfv h l 0
 simpa [askAt] using this
def dropAt(l:List Ask)(i:Nat):List Ask:=l.take i++l.drop (i+1)
def dropHold(l:List Ask)(h:T):List Ask:=l.filter fun a=>!sEq a.hold h
theorem law137(l:List Ask)(i:Nat)(hi:i<l.length)(hl:l.length<=1048576):F 137 [.sl .bor 4 (l.map Ask.c),.int .i64 i] []=some (.sl .own 4 ((dropAt l i).map Ask.c),[]):=by
 refine Zae fn137 rfl ?_
 have hw:IntKind.i64.wrap ((i:Int)+1)=((i+1:Nat):Int):=i64w (by omega) (by omega)
 have h1:(i:Int)<=l.length:=by omega
 have h2:((i+1:Nat):Int)<=l.length:=by omega
 have h3:i<=l.length:=by omega
 have h4:i+1<=l.length:=by omega
 have e1:min i l.length=i:=by omega
 have p1:rowsPlain ((List.map Ask.c l).take i)=true:=by rw[<- List.map_take];exact plain_ask _
 have p2:rowsPlain ((List.map Ask.c l).drop (i+1))=true:=by rw[<- List.map_drop];exact plain_ask _
 have b1:i*48<=140737488355328:=by omega
 have b2:i<=140737488355328:=by omega
 have b3:(i+(l.length-(i+1)))*48<=140737488355328:=by omega
 have b4:i+(l.length-(i+1))<=140737488355328:=by omega
 have t2:List.take (l.length-(i+1)) (List.drop (i+1) (List.map Ask.c l))=List.drop (i+1) (List.map Ask.c l):=Xae (by simp)
 simp only[show ((i+1:Nat):Int)=(i:Int)+1 from rfl]at *
 have t3:((i:Int)+1).toNat=i+1:=by omega
 have t4:(0:Int)<=(i:Int)+1:=by omega
 simp[c137,slBounds,hw,h1,h2,h3,h4,t2,t3,t4,takeRows,p1,p2,e1,b1,b2,b3,b4,dropAt]
 done
def head136(l:List Ask)(h:T)(i:Nat)(acc:List Ask):St:=hd [(0,.sl .bor 4 (l.map Ask.c)),(1,.str h),(5,.ref 0),(6,.int .i64 i)] [.arr 4 (acc.map Ask.c)] 0
theorem law136(l:List Ask)(h:T)(hl:l.length<=1048576):F 136 [.sl .bor 4 (l.map Ask.c),.str h] []=some (.sl .own 4 ((dropHold l h).map Ask.c),[]):=by
 refine Zae fn136 rfl ?_
 simp[c136]
 refine (Zaa l (fun i (acc:List Ask)=>head136 l h i acc) (fun i acc=>acc.length<=i) (fun _ r acc=>(.sl .own 4 ((acc++dropHold r h).map Ask.c),[])) (fun acc Y hacc=>?_) (fun i a r acc Y ha hi hr hacc hY=>?_) [] ?_ (Xo _) ?_).trans (by simp)
 ·simp[head136,c136b0,dropHold]
 ·have hw:IntKind.i64.wrap ((i:Int)+1)=(i:Int)+1:=i64w (by omega) (by omega)
  obtain⟨_,hg⟩:=Xa.1 ha
  have hb3:(acc.length+1)*48<=140737488355328:=by omega
  have hb4:acc.length+1<=140737488355328:=by omega
  simp only[dropHold,List.filter_cons]
  simp[head136,c136b0,hi,hg,takeRows,rowsPlain,hb3,hb4]
  cases q:sEq a.hold h<;>simp
  ·exact (hY (acc++[a]) _ (by simp;omega) (by simp[head136,hw])).trans (by simp[dropHold])
  ·exact (hY acc _ (by omega) (by simp[head136,hw])).trans (by simp[dropHold])
 ·simp[head136]
 ·unfold big;omega
theorem Zgs{c:Int}:∀ (r pre:List Ask),asksGo c pre r=true->(∀ p,pre.getLast?=some p->∀ q∈pre,q=p\/sLt q.hold p.hold=true)->∀ a∈r,∀ q∈pre,sLt q.hold a.hold=true
 | [],_,_,_,a,ha=>by simp at ha
 | b::r,pre,h,hp,a,ha=>by
  simp only[asksGo,Xc]at h
  obtain⟨_,h2,h3⟩:=h
  have hb:∀ q∈pre,sLt q.hold b.hold=true:=by
   intro q hq
   unfold ascA at h2
   cases hl:pre.getLast? with
   | none=>rw[List.getLast?_eq_none_iff]at hl;rw[hl]at hq;simp at hq
   | some p =>
    rw[hl]at h2
    rcases hp p hl q hq with rfl|h4
    ·exact h2
    ·exact Zb4 h4 h2
  rcases Xl.1 ha with rfl|ha
  ·exact hb
  ·intro q hq
   refine Zgs r (pre++[b]) h3 ?_ a ha q (Xg.2 (.inl hq))
   intro p hpl q hq
   rw[List.getLast?_concat]at hpl
   obtain rfl:=Xf hpl
   rcases Xg.1 hq with hq|hq
   ·exact .inr (hb q hq)
   ·simp at hq;exact .inl hq
theorem Zll{c:Int}{l:List Ask}(h:asksOk l c=true):l.Pairwise fun a b=>sLt a.hold b.hold=true:=by
 unfold asksOk at h
 rw[Xc]at h
 have go:∀ (r pre:List Ask),asksGo c pre r=true->(∀ p,pre.getLast?=some p->∀ q∈pre,q=p\/sLt q.hold p.hold=true)->r.Pairwise fun a b=>sLt a.hold b.hold=true:=by
  intro r
  induction r with
  | nil=>intro _ _ _;exact .nil
  | cons b r ih =>
   intro pre hg hp
   have hg0:=hg
   simp only[asksGo,Xc]at hg
   obtain⟨_,h2,h3⟩:=hg
   have hlast:∀ p,(pre++[b]).getLast?=some p->∀ q∈pre++[b],q=p\/sLt q.hold p.hold=true:=by
    intro p hpl q hq
    rw[List.getLast?_concat]at hpl
    obtain rfl:=Xf hpl
    rcases Xg.1 hq with hq|hq
    ·exact .inr (Zgs (b::r) pre hg0 hp b Xi q hq)
    ·simp at hq;exact .inl hq
   refine Xad.2 ⟨fun a ha=>?_,ih _ h3 hlast⟩
   exact Zgs r (pre++[b]) h3 hlast a ha b (by simp)
 exact go l [] h.2 (by simp)
theorem Zo9{c:Int}{l:List Ask}(h:asksOk l c=true){k:Nat}(hk:k<l.length):dropHold l l[k].hold=dropAt l k:=by
 have hs:=Zll h
 have e:l=l.take k++l[k]::l.drop (k+1):=by rw[<- Xah hk,List.take_append_drop]
 generalize hx:l[k]=x at e
 rw[e]at hs
 obtain⟨_,h2,h3⟩:=Xa5.1 hs
 rw[Xad]at h2
 unfold dropHold dropAt
 have f1:(l.take k).filter (fun a=>!sEq a.hold x.hold)=l.take k:=by
  rw[Xcl]
  intro a ha
  rw[Zad (Zk3 (h3 a ha x Xi))];rfl
 have f2:(l.drop (k+1)).filter (fun a=>!sEq a.hold x.hold)=l.drop (k+1):=by
  rw[Xcl]
  intro a ha
  rw[Zad (Ne.symm (Zk3 (h2.1 a ha)))];rfl
 calc l.filter (fun a=>!sEq a.hold x.hold)=(l.take k++x::l.drop (k+1)).filter (fun a=>!sEq a.hold x.hold):=by rw[<- e]
  _=_:=by rw[List.filter_append,List.filter_cons,f1,f2];simp
def giveRun(p:Parcel)(r:Run):Run:=if sEq r.want.hold p.hold && (sEq r.want.copy p.copy && decide (r.til<IntKind.i64.wrap (p.at_+16))) then { r with til:=IntKind.i64.wrap (p.at_+16) } else r
def askFits(a:Ask)(p:Parcel):Bool:=sEq a.copy p.copy && (decide (a.first<=p.at_) && decide (p.at_<=a.at_))
def takeGiven(m:Mate)(p:Parcel):Mate:=match m.asks.find? (fun a=>sEq a.hold p.hold) with
 | some a=>if askFits a p then { m with runs:=m.runs.map (giveRun p) } else m
 | none=>m
def takeBack'(m:Mate)(p:Parcel):Mate:=match m.gives.find? (fun a=>sEq a.hold p.hold) with
 | some a=>if a.at_ == p.at_ then { m with gives:=dropHold m.gives p.hold } else m
 | none=>m
def takeTold(m:Mate)(p:Parcel):Mate:=if (!m.known || decide (m.seen<p.seen)) && (wantsOk p.wants && inR p.seen 1 1000000) then { m with known:=true,seen:=p.seen,wants:=p.wants } else m
def takeKind(m:Mate)(p:Parcel):Mate:=if p.kind=1 then takeTold m p else if p.kind=3 then takeGiven m p else if p.kind=5 then takeBack' m p else m
def mateTake(m:Mate)(p:Parcel):Mate:=if mateValid m then (if m.up && sEq p.berth m.name then takeKind m p else m) else .zero
theorem Zjl{l:List Ask}{h:T}{k:Nat}(hk:k<l.length)(h1:sEq l[k].hold h=true)(h2:∀ j (hj:j<k),sEq (l[j]'(by omega)).hold h=false):l.find? (fun a=>sEq a.hold h)=some l[k]:=by
 rw[List.find?_eq_some_iff_getElem]
 refine⟨h1,k,hk,rfl,fun j hj=>?_⟩
 rw[h2 j hj];rfl
def head61(m:Mate)(p:Parcel)(i:Nat):St:=hd [(2,.ptr 0 0 0),(3,.ptr 1 0 0),(4,.ptr 2 0 0),(101,.ref 3),(102,.int .i64 m.runs.length),(103,.int .i64 i)]
 [.box [.str m.name,.bool m.up,.int .i64 m.clock,.bool m.known,.int .i64 m.seen,.ref 4,.ref 3,.ref 5,.ref 6],.box (p.c .bor),.box zeroCells,.arr 11 (mixU Run.c m.runs (m.runs.map (giveRun p)) i),.arr 7 (m.wants.map Want.c),.arr 4 (m.asks.map Ask.c),.arr 4 (m.gives.map Ask.c)] 0
theorem Zop{m:Mate}(h:mateValid m=true):asksOk m.asks m.clock=true/\asksOk m.gives m.clock=true:=by
 unfold mateValid mateParts at h
 simp only[Xc]at h
 exact⟨h.1.2.2.2.2.2.2.1,h.1.2.2.2.2.2.2.2⟩
theorem law61(m:Mate)(p:Parcel)(hm:m.small)(hp:p.wants.length<=1048576):F 61 [.agg (m.c .bor),.agg (p.c .bor)] []=some (.agg ((mateTake m p).c .own),[]):=by
 refine Zae fn61 rfl ?_
 have w1:=law28 m hm
 have w2:=law117 m hm
 simp only[Mate.c]at w1 w2
 have hr:=hm.runs
 simp[c61,w1,mateTake]
 cases hv:mateValid m<;>simp
 ·simp[Mate.zero]
 simp[w2]
 cases q1:m.up<;>simp[q1]
 cases q2:sEq p.berth m.name<;>simp[q1]
 unfold takeKind
 by_cases k1:p.kind=1
 ·have w6:=law6 p.wants (by unfold big;omega)
  have e1:p.wants.length*72<=140737488355328:=by omega
  have e2:p.wants.length<=140737488355328:=by omega
  simp[k1,w6,takeTold,takeRows,e1,e2]
  cases q3:m.known<;>simp[q1,q3]
  ·cases q5:wantsOk p.wants<;>simp[q1,q3]
   cases q6:inR p.seen 1 1000000<;>simp[q1,q3]
  ·by_cases q4:m.seen<p.seen<;>simp[q4,q1,q3]
   cases q5:wantsOk p.wants<;>simp[q1,q3]
   cases q6:inR p.seen 1 1000000<;>simp[q1,q3]
 ·by_cases k3:p.kind=3
  ·have w113:=law113 m.asks p.hold hm.asks
   rcases Zbg m.asks p.hold with ⟨e,hno⟩|⟨k,hk,e,hk1,hk2⟩
   ·have hf:m.asks.find? (fun a=>sEq a.hold p.hold)=none:=by
     rw[Xbw];intro a ha;rw[hno a ha];simp
    simp[k1,k3,w113,takeGiven,e,hf,q1]
   ·have hf:=Zjl hk hk1 hk2
    simp only[takeGiven,hf,askFits]
    simp[k1,k3,w113,e,hk]
    cases q3:sEq m.asks[k].copy p.copy<;>simp[q1]
    by_cases q4:p.at_<m.asks[k].first
    ·have q4':¬ (m.asks[k].first<=p.at_):=by omega
     simp[q4,q4',q1]
    have q4':m.asks[k].first<=p.at_:=by omega
    simp[q4,q4']
    by_cases q5:m.asks[k].at_<p.at_
    ·have q5':¬ (p.at_<=m.asks[k].at_):=by omega
     simp[q5,q5',q1]
    have q5':p.at_<=m.asks[k].at_:=by omega
    simp[q5,q5']
    refine (Zaa m.runs (fun i (_:Unit)=>head61 m p i) (fun _ _=>True) (fun _ _ _=>(.agg (({ m with runs:=m.runs.map (giveRun p) }:Mate).c .own),[])) (fun acc Y _=>?_) (fun i a r acc Y ha hi hr _ hY=>?_) () ?_ trivial ?_).trans (by simp[q1])
    ·simp[head61,c61b0,zeroCells,Zm8,q1]
    ·have hw:IntKind.i64.wrap ((i:Int)+1)=(i:Int)+1:=i64w (by omega) (by omega)
     obtain⟨_,hga⟩:=Xa.1 ha
     have hms:(m.runs.map (giveRun p))[i]?=some (giveRun p a):=by simp[ha]
     have hln:=Zgm Run.c (ws:=m.runs) (ms:=m.runs.map (giveRun p)) (i:=i) (by simp) (by omega)
     have hg:=Zl9 Run.c (ms:=m.runs.map (giveRun p)) ha (by simp) (by rw[hln];exact hi)
     have hs:=Zjv Run.c (ws:=m.runs) hms (by simp)
     simp only[Run.c]at hg
     have hY':∀ s',s'.norm [2,3,4,101,102,103]=head61 m p (i+1)->fin [CRes.cell 4 9 true] 0 (Y s')=some (.agg (({ m with runs:=m.runs.map (giveRun p) }:Mate).c .own),[]):=fun s' h=>hY () s' trivial h
     simp[head61,c61b0,zeroCells,hi,hln,hg]
     have hsame:giveRun p a=a->mixU Run.c m.runs (m.runs.map (giveRun p)) i=mixU Run.c m.runs (m.runs.map (giveRun p)) (i+1):=fun h=>Zkr Run.c ha (by simp[ha,h]) (by simp)
     cases r1:sEq a.want.hold p.hold<;>simp
     ·have hs2:=hsame (by simp[giveRun,r1])
      exact (hY' _ (by simp[head61,hw,zeroCells,hs2,q1,k3])).trans (by simp[q1])
     cases r2:sEq a.want.copy p.copy<;>simp
     ·have hs2:=hsame (by simp[giveRun,r1,r2])
      exact (hY' _ (by simp[head61,hw,zeroCells,hs2,q1,k3])).trans (by simp[q1])
     by_cases r3:a.til<IntKind.i64.wrap (p.at_+16)<;>simp[r3]
     ·have hga2:giveRun p a={ a with til:=IntKind.i64.wrap (p.at_+16) }:=by simp[giveRun,r1,r2,r3]
      rw[hga2]at hs
      simp only[Run.c]at hs
      exact (hY' _ (by simp[head61,hw,zeroCells,hs,q1,k3])).trans (by simp[q1])
     ·have hs2:=hsame (by simp[giveRun,r1,r2,r3])
      exact (hY' _ (by simp[head61,hw,zeroCells,hs2,q1,k3])).trans (by simp[q1])
    ·simp[head61,zeroCells,Zks,q1,k3]
    ·unfold big;omega
  ·by_cases k5:p.kind=5
   ·have w113:=law113 m.gives p.hold hm.gives
    rcases Zbg m.gives p.hold with ⟨e,hno⟩|⟨k,hk,e,hk1,hk2⟩
    ·have hf:m.gives.find? (fun a=>sEq a.hold p.hold)=none:=by
      rw[Xbw];intro a ha;rw[hno a ha];simp
     simp[k1,k3,k5,w113,takeBack',e,hf,q1]
    ·have hf:=Zjl hk hk1 hk2
     have w137:=law137 m.gives k hk hm.gives
     have hd:=Zo9 (Zop hv).2 hk
     rw[(Zac _ _).1 hk1]at hd
     simp only[takeBack',hf]
     simp[k1,k3,k5,w113,e,hk]
     by_cases q3:m.gives[k].at_=p.at_
     ·simp[q3,w137,hd,q1]
     ·simp[q3,q1]
   ·simp[k1,k3,k5,q1]
def head64(m:Mate)(p:Parcel)(i:Nat):St:=hd [(3,.ptr 0 0 0),(4,.ptr 1 0 0),(5,.ptr 2 0 0),(7,.int .i64 i)]
 [.box (p.c .bor),.box zeroCells,.box [.str m.name,.bool m.up,.int .i64 m.clock,.bool m.known,.int .i64 m.seen,.ref 3,.ref 4,.ref 5,.ref 6],.arr 7 (m.wants.map Want.c),.arr 11 (mixU Run.c m.runs (m.runs.map (giveRun p)) i),.arr 4 (m.asks.map Ask.c),.arr 4 (m.gives.map Ask.c)] 0
theorem law64(m:Mate)(p:Parcel)(hm:m.small)(hp:p.wants.length<=1048576):F 64 [.agg (m.c .bor),.agg (p.c .bor)] []=some (.agg ((mateTake m p).c .own),[]):=by
 refine Zae fn64 rfl ?_
 have w1:=law29 m hm
 have w2:=law120 m hm
 simp only[Mate.c]at w1 w2
 have hr:=hm.runs
 simp[c64,w1,mateTake]
 cases hv:mateValid m<;>simp
 ·simp[Mate.zero]
 simp[w2]
 cases q1:m.up<;>simp[q1]
 cases q2:sEq p.berth m.name<;>simp[q1]
 unfold takeKind
 by_cases k1:p.kind=1
 ·have w6:=law7 p.wants (by unfold big;omega)
  have e1:p.wants.length*72<=140737488355328:=by omega
  have e2:p.wants.length<=140737488355328:=by omega
  simp[k1,w6,takeTold,takeRows,e1,e2]
  cases q5:wantsOk p.wants<;>simp[q1]
  cases q6:inR p.seen 1 1000000<;>simp[q1]
  cases q3:m.known<;>simp[q1,q3]
  by_cases q4:m.seen<p.seen<;>simp[q4,q1,q3]
 ·by_cases k3:p.kind=3
  ·have w113:=law110 m.asks p.hold hm.asks
   rcases Zbg m.asks p.hold with ⟨e,hno⟩|⟨k,hk,e,hk1,hk2⟩
   ·have hf:m.asks.find? (fun a=>sEq a.hold p.hold)=none:=by
     rw[Xbw];intro a ha;rw[hno a ha];simp
    simp[k1,k3,w113,takeGiven,e,hf,q1]
   ·have hf:=Zjl hk hk1 hk2
    simp only[takeGiven,hf,askFits]
    simp[k1,k3,w113,e,hk,inR]
    cases q3:sEq m.asks[k].copy p.copy<;>simp[q1]
    by_cases q4:p.at_<m.asks[k].first
    ·have q4':¬ (m.asks[k].first<=p.at_):=by omega
     simp[q4,q4',q1]
    have q4':m.asks[k].first<=p.at_:=by omega
    simp[q4,q4']
    by_cases q5:m.asks[k].at_<p.at_
    ·have q5':¬ (p.at_<=m.asks[k].at_):=by omega
     simp[q5,q5',q1]
    have q5':p.at_<=m.asks[k].at_:=by omega
    simp[q5,q5']
    refine (Zaa m.runs (fun i (_:Unit)=>head64 m p i) (fun _ _=>True) (fun _ _ _=>(.agg (({ m with runs:=m.runs.map (giveRun p) }:Mate).c .own),[])) (fun acc Y _=>?_) (fun i a r acc Y ha hi hr _ hY=>?_) () ?_ trivial ?_).trans (by simp[q1])
    ·have hln:=Zgm Run.c (ws:=m.runs) (ms:=m.runs.map (giveRun p)) (i:=m.runs.length) (by simp) (by omega)
     simp[head64,c64b0,zeroCells,hln]
     simp[Zm8,q1]
    ·have hw:IntKind.i64.wrap ((i:Int)+1)=(i:Int)+1:=i64w (by omega) (by omega)
     obtain⟨_,hga⟩:=Xa.1 ha
     have hms:(m.runs.map (giveRun p))[i]?=some (giveRun p a):=by simp[ha]
     have hln:=Zgm Run.c (ws:=m.runs) (ms:=m.runs.map (giveRun p)) (i:=i) (by simp) (by omega)
     have hg:=Zl9 Run.c (ms:=m.runs.map (giveRun p)) ha (by simp) (by rw[hln];exact hi)
     have hs:=Zjv Run.c (ws:=m.runs) hms (by simp)
     simp only[Run.c]at hg
     have hY':∀ s',s'.norm [3,4,5,7]=head64 m p (i+1)->fin [CRes.cell 4 9 true] 0 (Y s')=some (.agg (({ m with runs:=m.runs.map (giveRun p) }:Mate).c .own),[]):=fun s' h=>hY () s' trivial h
     simp[head64,c64b0,zeroCells,hi,hln,hg]
     have hsame:giveRun p a=a->mixU Run.c m.runs (m.runs.map (giveRun p)) i=mixU Run.c m.runs (m.runs.map (giveRun p)) (i+1):=fun h=>Zkr Run.c ha (by simp[ha,h]) (by simp)
     cases r1:sEq a.want.hold p.hold<;>simp
     ·have hs2:=hsame (by simp[giveRun,r1])
      exact (hY' _ (by simp[head64,hw,zeroCells,hs2,q1,k3])).trans (by simp[q1])
     cases r2:sEq a.want.copy p.copy<;>simp
     ·have hs2:=hsame (by simp[giveRun,r1,r2])
      exact (hY' _ (by simp[head64,hw,zeroCells,hs2,q1,k3])).trans (by simp[q1])
     by_cases r3:a.til<IntKind.i64.wrap (p.at_+16)<;>simp[r3]
     ·have hga2:giveRun p a={ a with til:=IntKind.i64.wrap (p.at_+16) }:=by simp[giveRun,r1,r2,r3]
      rw[hga2]at hs
      simp only[Run.c]at hs
      exact (hY' _ (by simp[head64,hw,zeroCells,hs,q1,k3])).trans (by simp[q1])
     ·have hs2:=hsame (by simp[giveRun,r1,r2,r3])
      exact (hY' _ (by simp[head64,hw,zeroCells,hs2,q1,k3])).trans (by simp[q1])
    ·simp[head64,zeroCells,Zks,q1,k3]
    ·unfold big;omega
  ·by_cases k5:p.kind=5
   ·have w113:=law110 m.gives p.hold hm.gives
    rcases Zbg m.gives p.hold with ⟨e,hno⟩|⟨k,hk,e,hk1,hk2⟩
    ·have hf:m.gives.find? (fun a=>sEq a.hold p.hold)=none:=by
      rw[Xbw];intro a ha;rw[hno a ha];simp
     simp[k1,k3,k5,w113,takeBack',e,hf,q1]
    ·have hf:=Zjl hk hk1 hk2
     have w136:=law136 m.gives p.hold hm.gives
     simp only[takeBack',hf]
     simp[k1,k3,k5,w113,e,hk]
     by_cases q3:m.gives[k].at_=p.at_
     ·simp[q3,w136,q1]
     ·simp[q3,q1]
   ·simp[k1,k3,k5,q1]
def Ask.k(a:Ask):T:=a.hold
theorem law219(l:List Ask)(a:Ask)(hl:l.length<=1000)(ha:Asc Ask.k l)(hk:Lacks Ask.k a.hold l):F 219 [.ref 0,.agg a.c] [.arr 4 (l.map Ask.c)]=some (.sl .own 4 ((putBy Ask.k a l).map Ask.c),[none]):=by
 refine Zae fn219 rfl ?_
 obtain⟨s1,s2⟩:=Zbw Ask.c Ask.k 0 (fun _=>rfl) (Zbk Ask.k (x:=a) (l:=l) hk) (Zar Ask.k ha)
 simp only[Xb8,Xx,Xt,Ask.c]at s1 s2
 have e1:(l.length+1)*48<=140737488355328:=by omega
 have e2:l.length+1<=140737488355328:=by omega
 have e3:l.length+1<=1000000000:=by omega
 have e4:rowsPlain [[AV.str a.hold,.str a.copy,.int .i64 a.first,.int .i64 a.at_]]=true:=by simp[rowsPlain]
 simp[c219,takeRows,e1,e2,e3,e4,isRef,sortTab,s1,s2]
def head241(l:List Ask)(a:Ask)(k:Nat):St:=hd [(0,.sl .bor 4 (l.map Ask.c)),(3,.ptr 0 0 0),(5,.int .i64 k)] [.box a.c] 0
theorem law241(l:List Ask)(a:Ask)(hl:l.length<=1000):F 241 [.sl .bor 4 (l.map Ask.c),.agg a.c] []=some (.sl .own 4 ((putBy Ask.k a l).map Ask.c),[]):=by
 refine Zae fn241 rfl ?_
 simp[c241]
 have hK:=Zco Ask.k a.hold l
 have hat:=fun i y=>Zcn Ask.k (b:=a.hold) (l:=l) (i:=i) (y:=y)
 have hst:=fun y=>Zbn Ask.k (b:=a.hold) (l:=l) (y:=y)
 have hpt:putBy Ask.k a l=l.take (ltCount Ask.k a.hold l)++a::l.drop (if hitAt Ask.k a.hold l then ltCount Ask.k a.hold l+1 else ltCount Ask.k a.hold l):=Zcs Ask.k a l
 have hhit:hitAt Ask.k a.hold l=match l[ltCount Ask.k a.hold l]? with
  | some y=>sEq y.hold a.hold
  | none=>false:=by unfold hitAt;cases l[ltCount Ask.k a.hold l]?<;>rfl
 obtain⟨R,hR⟩:∃ R,R=(putBy Ask.k a l).map Ask.c:=⟨_,rfl⟩
 rw[<- hR]
 rw[hpt]at hR
 generalize ltCount Ask.k a.hold l=K at *
 refine (Zaz (σ:=Nat) (fun k=>head241 l a k) (fun k=>k<=K) (fun k=>K-k) (fun _=>_) (fun k Y hk hY=>?_) 0 ?_ (Xp _) ?_).trans rfl
 ·have hw1:IntKind.i64.wrap ((k:Int)+1)=(k:Int)+1:=i64w (by omega) (by omega)
  rcases Xck k K with h|h
  ·have hkl:k<l.length:=by omega
   have hklI:(k:Int)<l.length:=by omega
   have hx:l[k]?=some l[k]:=Xd hkl
   have hlt:=hat k _ h hx
   unfold Ask.k at hlt
   simp[head241,c241b0,hklI,hkl,hlt]
   refine hY (k+1) _ (by omega) (by omega) ?_
   simp[head241,hw1]
  ·obtain rfl:k=K:=by omega
   have f1:k*48<=140737488355328:=by omega
   have f2:k<=140737488355328:=by omega
   have f3:(k+1)*48<=140737488355328:=by omega
   have f4:k+1<=140737488355328:=by omega
   have hklI:(k:Int)<=l.length:=by omega
   have hmin:min k l.length=k:=Xbt hK
   have r1:rowsPlain [[AV.str a.hold,.str a.copy,.int .i64 a.first,.int .i64 a.at_]]=true:=by simp[rowsPlain]
   rcases Xck k l.length with hkl|hkl
   ·have hx:l[k]?=some l[k]:=Xd hkl
    have hns:=hst _ hx
    unfold Ask.k at hns
    have hkI:(k:Int)<l.length:=by omega
    rw[hx]at hhit
    simp only at hhit
    rw[hhit]at hR
    have g5:(k+1+(l.length-(k+1)))*48<=140737488355328:=by omega
    have g6:k+1+(l.length-(k+1))<=140737488355328:=by omega
    have hpos:0<l.length-k:=by omega
    have hposI:(0:Int)<((l.length-k:Nat):Int):=by omega
    have h1I:(1:Int)<=((l.length-k:Nat):Int):=by omega
    have g1:(k+1+(l.length-k))*48<=140737488355328:=by omega
    have g2:k+1+(l.length-k)<=140737488355328:=by omega
    have g3:(k+1+(l.length-k-1))*48<=140737488355328:=by omega
    have g4:k+1+(l.length-k-1)<=140737488355328:=by omega
    have t3:((l.map Ask.c).drop k).take (l.length-k)=(l.map Ask.c).drop k:=Xae (by simp)
    have t5:((l.map Ask.c).drop (k+1)).take (l.length-k-1)=(l.map Ask.c).drop (k+1):=Xae (by simp;omega)
    cases hc:sEq l[k].hold a.hold
    ·rw[hc]at hR
     simp[head241,c241b0,takeRows,Zeq,r1,Zak,Zaj,slBounds,hK,hkI,hkl,hns,hc,hpos,hposI,f1,f2,f3,f4,g1,g2,hklI,hmin,t3,hR]
    ·rw[hc]at hR
     simp[head241,c241b0,takeRows,Zeq,r1,Zak,Zaj,slBounds,hK,hkI,hkl,hns,hc,hpos,hposI,h1I,f1,f2,f3,f4,g1,g2,g3,g4,g5,g6,hklI,hmin,t3,t5,hR]
   ·have hkI:¬ (k:Int)<l.length:=by omega
    obtain rfl:l.length=k:=by omega
    have hx:l[l.length]?=none:=by simp
    rw[hx]at hhit
    simp only at hhit
    rw[hhit]at hR
    have t7:(l.map Ask.c).take l.length=l.map Ask.c:=Xae (by simp)
    simp[head241,c241b0,takeRows,Zeq,r1,Zak,Zaj,slBounds,f1,f2,f3,f4,hR,t7]
 ·simp[head241]
 ·unfold big;omega
def Run.k(r:Run):T:=r.want.copy
structure Sane(r:Run):Prop where
 left:0<=r.left/\r.left<=100
 falls:0<=r.falls/\r.falls<=1000
structure LV where
 runs:List Run
 asks:List Ask
 gives:List Ask
def liveOf(c:Int)(ws:List Want)(r:Run):Option Run:=mateLive r ((findW ws r.want.copy).getD .zero) (findW ws r.want.copy).isSome c
def askOf(h:T)(l:List Ask):Option Ask:=l.find? fun a=>sEq a.hold h
def giveUp(h:T)(s:LV):LV:=if sEq h ⟨#[]⟩ then s else match askOf h s.asks with
 | none=>s
 | some a=>⟨s.runs,dropHold s.asks h,if s.gives.length<40 then putBy Ask.k a s.gives else s.gives⟩
def liveStep(c:Int)(ws:List Want)(s:LV)(r:Run):LV:=match liveOf c ws r with
 | some n=>⟨s.runs++[n],s.asks,s.gives⟩
 | none=>giveUp r.want.hold s
def newRun(w:Want):Run:=⟨w,1,w.pull,0,0⟩
def addRun(rs:List Run)(w:Want):List Run:=if 20<=rs.length || rs.any (fun r=>sEq r.want.copy w.copy) then rs else putBy Run.k (newRun w) rs
def livesOf(m:Mate):LV:=m.runs.foldl (liveStep m.clock m.wants) ⟨[],m.asks,m.gives⟩
def mLives(m:Mate):Mate:={ m with runs:=m.wants.foldl addRun (livesOf m).runs,asks:=(livesOf m).asks,gives:=(livesOf m).gives }
theorem Zdk(l:List Ask)(h:T):(askAt l h = -1/\askOf h l=none)\/∃ k,∃ hk:k<l.length,askAt l h=(k:Int)/\askOf h l=some (l[k]'hk)/\(l[k]'hk).hold=h:=by
 unfold askAt askOf
 have key:∀ (l:List Ask) (i:Nat),(askAtGo h l i = -1/\l.find? (fun a=>sEq a.hold h)=none)\/∃ k,∃ hk:k<l.length,askAtGo h l i=((i+k:Nat):Int)/\l.find? (fun a=>sEq a.hold h)=some (l[k]'hk)/\(l[k]'hk).hold=h:=by
  intro l
  induction l with
  | nil=>intro i;exact .inl ⟨rfl,rfl⟩
  | cons a r ih =>
   intro i
   unfold askAtGo
   rw[List.find?_cons]
   cases q:sEq a.hold h
   ·rcases ih (i+1) with ⟨h1,h2⟩|⟨k,hk,h1,h2,h3⟩
    ·exact .inl ⟨by simpa using h1,by simpa using h2⟩
    ·refine .inr ⟨k+1,by simpa using hk,?_,by simpa using h2,by simpa using h3⟩
     simp only[Xq,Xaj,h1]
     congr 1
     omega
   ·exact .inr ⟨0,by simp,by simp,by simp,by simpa using (Zac _ _).1 q⟩
 simpa using key l 0
theorem Ze3{rs:List Run}{w:Want}(h:rs.length<=20):(addRun rs w).length<=20:=by
 unfold addRun
 by_cases h1:(20<=rs.length || rs.any fun r=>sEq r.want.copy w.copy)=true
 ·simp[h1,h]
 ·simp only[h1,Xq,Xaj]
  simp only[Xas,Xj,not_or]at h1
  have:=Za7 Run.k (newRun w) rs
  omega
theorem Ze2{rs:List Run}{w:Want}(h:Asc Run.k rs):Asc Run.k (addRun rs w):=by
 unfold addRun
 split
 ·exact h
 ·exact Zar Run.k h
theorem Zkm{α:Type}(key:α->T)(b:T):∀ {l:List α},Asc key l->hitAt key b l=l.any fun y=>sEq (key y) b
 | [],_=>rfl
 | y::ys,h=>by
  have h1:=Xad.1 h
  by_cases h2:sLt (key y) b=true
  ·have e1:ltCount key b (y::ys)=ltCount key b ys+1:=by simp[ltCount,h2]
   have e2:hitAt key b (y::ys)=hitAt key b ys:=by simp[hitAt,e1]
   rw[e2,Xbc,Zkm key b h1.2,Zad (fun e=>by rw[e,Zao]at h2;cases h2)]
   rfl
  ·have e1:ltCount key b (y::ys)=0:=by simp[ltCount,h2]
   have e2:hitAt key b (y::ys)=sEq (key y) b:=by simp[hitAt,e1]
   have e3:(ys.any fun z=>sEq (key z) b)=false:=by
    rw[Xbo]
    intro z hz e
    have:=h1.1 z hz
    rw[(Zac _ _).1 e]at this
    exact h2 this
   rw[e2,Xbc,e3,Bool.or_false]
def tl238:CCode:=(jR [xd 152 3,xe 153 1 6,xg 153 152 1] [1,2]
 (jR [xf 154 1 9,xg 2 154 9] [2]
 .ret))
theorem c238_cut:c238=⟨155,[.cell 2 9 true],
 (jR [yi 1 0,uh 2] [1,2]
 (jR [⟨some 14,.bslice 11 [.str ⟨#[]⟩,.int .i64 0,.str ⟨#[]⟩,.int .i64 0,.int .i64 0,.int .i64 0,.int .i64 0,.int .i64 0,.int .i64 0,.int .i64 0,.int .i64 0] 0 [],none⟩,xd 3 14] [1,2,3]
 (.seq (jR [x8 4] [1,2,3,4]
 (.block 0
  (.loop [1,2,3,4] c238b0)))
 (.seq (jR [x8 11] [1,2,3,11]
 (.block 2
  (.loop [1,2,3,11] c238b2)))
 tl238))))⟩:=rfl
def md238:CCode:=(.seq (jQ [xd 117 3,xv 118 117,qr 119 118 20,xd 120 119,ya 121 13 120,ya 122 3 120,yy 123 122 120,⟨some 124,.bin .lss (.tmp 121) (.tmp 123),some (120,false)⟩,ya 125 124 120,x7 126 3 125,x7 127 13 125,yk 128 11 126 127 125,xn 129 128 0 125,xn 130 129 0 125,xh 131 130 125,xn 132 12 0 125,xh 133 132 125,yw 134 131 133 125,yf 135 125 134 120,xj 136 120 135] [1,2,3,11,12,13,136]
  (.cond (.tmp 136)
   (.exit 3)
   .skip))
  (.loud [⟨some 137,.bslice 11 [.str ⟨#[]⟩,.int .i64 0,.str ⟨#[]⟩,.int .i64 0,.int .i64 0,.int .i64 0,.int .i64 0,.int .i64 0,.int .i64 0,.int .i64 0,.int .i64 0] 0 [],none⟩,xd 138 3,xd 139 13,ul 140 11 138 139,x9 141 11 104 137 140,xf 142 12 7,xe 143 12 3,xc 144 143,⟨some 145,.build [.str ⟨#[]⟩,.int .i64 0,.str ⟨#[]⟩,.int .i64 0,.int .i64 0,.int .i64 0,.int .i64 0,.int .i64 0,.int .i64 0,.int .i64 0,.int .i64 0] [(0,7,.tmp 142),(7,1,.const (.int .i64 1)),(8,1,.tmp 144)],none⟩,ub 146 145,x9 147 11 104 141 146,xd 148 3,xd 149 13,ug 150 11 148 149,x9 151 11 104 147 150,xd 3 151] [0,0,0,6,15,0,0,64,224,480,1023,0,0,6144,16383,32767] [1,2,3,11]))
def en238:CCode:=(.region [xd 93 11,xu 94 93 1,xd 11 94] [1,2,3,11])
def zeroM:List AV:=[.str ⟨#[]⟩,.bool false,.int .i64 0,.bool false,.int .i64 0,.sl .own 7 [],.sl .own 11 [],.sl .own 4 [],.sl .own 4 []]
inductive Wr where
 | no
 | asks
 | both
def mcells(n:Nat)(f:Wr)(m:Mate):List AV:=[.str m.name,.bool m.up,.int .i64 m.clock,.bool m.known,.int .i64 m.seen,.ref 0,.ref 1,match f with|.no=>.ref 2|_=>.ref n,match f with|.both=>.ref (n+1)|_=>.ref 3]
def marrs(f:Wr)(as gs:List Ask):List AO:=match f with
 | .no=>[]
 | .asks=>[.arr 4 (as.map Ask.c)]
 | .both=>[.arr 4 (as.map Ask.c),.arr 4 (gs.map Ask.c)]
def head238a(m:Mate)(f:Wr)(s:LV)(i:Nat):St :=
 hd [(1,.ptr 4 0 0),(2,.ptr 5 0 0),(3,.ref 6),(4,.int .i64 i)] (m.arrs++[.box (mcells 7 f m),.box zeroM,.arr 11 (s.runs.map Run.c)]++marrs f s.asks s.gives) 4
def head238b(m:Mate)(f:Wr)(as gs:List Ask)(rs:List Run)(i:Nat):St :=
 hd [(1,.ptr 4 0 0),(2,.ptr 5 0 0),(3,.ref 6),(11,.int .i64 i)] (m.arrs++[.box (mcells 7 f m),.box zeroM,.arr 11 (rs.map Run.c)]++marrs f as gs) 4
def head238c(m:Mate)(f:Wr)(as gs:List Ask)(rs:List Run)(w:Want)(i j:Nat):St :=
 hd [(1,.ptr 4 0 0),(2,.ptr 5 0 0),(3,.ref 6),(11,.int .i64 i),(12,.ptr 7 0 0),(13,.int .i64 j)] (m.arrs++[.box (mcells 8 f m),.box zeroM,.arr 11 (rs.map Run.c),.box w.c]++marrs f as gs) 4
def Kept(m:Mate)(f:Wr)(as gs:List Ask):Prop:=(f=.no/\as=m.asks/\gs=m.gives)\/(f=.asks/\gs=m.gives)\/f=.both
theorem Ztk{m:Mate}{as gs:List Ask}:Kept m .both as gs:=.inr (.inr rfl)
def Res238(m:Mate)(r:AV×List (Option AO)):Prop:=∃ f:Wr,r=(.agg ((mLives m).c .own),[none,some (.arr 11 (m.runs.map Run.c)),match f with|.no=>none|_=>some (.arr 4 (m.asks.map Ask.c)),match f with|.both=>some (.arr 4 (m.gives.map Ask.c))|_=>none])
theorem Zd8(c:Int)(ws:List Want):∀ (rs:List Run) (s:LV),(rs.foldl (liveStep c ws) s).runs.length<=s.runs.length+rs.length
 | [],s=>by simp
 | r::rs,s=>by
  have h1:(liveStep c ws s r).runs.length<=s.runs.length+1:=by
   unfold liveStep
   split
   ·simp
   ·unfold giveUp
    split
    ·omega
    ·split<;>simp
  have:=Zd8 c ws rs (liveStep c ws s r)
  simp only[Xbl,Xaa]
  omega
theorem Zjs{r n:Run}{w:Want}{b:Bool}{c:Int}(h:mateLive r w b c=some n):n.want=r.want:=by
 unfold mateLive at h
 split at h
 ·split at h
  ·obtain rfl:=Xf h;rfl
  ·cases h
 split at h
 ·obtain rfl:=Xf h;rfl
 split at h
 ·obtain rfl:=Xf h;rfl
 split at h
 ·split at h
  ·obtain rfl:=Xf h;rfl
  ·obtain rfl:=Xf h;rfl
 split at h
 ·cases h
 split at h
 ·obtain rfl:=Xf h
  unfold beginR
  split<;>rfl
 ·obtain rfl:=Xf h;rfl
theorem Zem(c:Int)(ws:List Want):∀ (rs:List Run) (s:LV),∃ l:List Run,(rs.foldl (liveStep c ws) s).runs=s.runs++l/\(l.map Run.k).Sublist (rs.map Run.k)
 | [],s=>⟨[],by simp,Xb4 _⟩
 | r::rs,s=>by
  obtain⟨l,h1,h2⟩:=Zem c ws rs (liveStep c ws s r)
  simp only[Xbl,Xx]
  cases ho:liveOf c ws r with
  | some n =>
   have e:(liveStep c ws s r).runs=s.runs++[n]:=by unfold liveStep;rw[ho]
   rw[e]at h1
   refine⟨n::l,by rw[h1];simp,?_⟩
   have hk:Run.k n=Run.k r:=by unfold Run.k;rw[Zjs ho]
   rw[Xx,hk]
   exact h2.cons_cons _
  | none =>
   have e:(liveStep c ws s r).runs=s.runs:=by
    unfold liveStep
    rw[ho]
    simp only
    unfold giveUp
    split
    ·rfl
    ·split<;>rfl
   rw[e]at h1
   exact⟨l,h1,h2.cons _⟩
theorem Zgr{α:Type}{key:α->T}{l:List α}:Asc key l↔(l.map key).Pairwise (fun a b=>sLt a b=true):=by
 unfold Asc
 rw[List.pairwise_map]
theorem Zc1{m:Mate}(h:Asc Run.k m.runs):Asc Run.k (livesOf m).runs:=by
 obtain⟨l,h1,h2⟩:=Zem m.clock m.wants m.runs ⟨[],m.asks,m.gives⟩
 unfold livesOf
 rw[h1,Xa8]
 exact Zgr.2 ((Zgr.1 h).sublist h2)
set_option maxHeartbeats 0 in
/-- The second loop: those begin that are wanted. -/
theorem Zsk(m:Mate)(_:m.small)(hwl:m.wants.length<=1000)(f:Wr)(as gs:List Ask)(rs:List Run)(hk:Kept m f as gs)(hr:rs.length<=20)(ha:Asc Run.k rs)(hs:livesOf m=⟨rs,as,gs⟩)(st:St)(hst:st.norm [1,2,3,11]=head238b m f as gs rs 0) :
  Ends (fin [.cell 2 9 true] 4 (X F [.code (.loop [1,2,3,11] c238b2),.blk 2,.code tl238] (.normal,st))) (Res238 m):=by
 refine Za8 (σ:=Nat×List Run) (fun z=>head238b m f as gs z.2 z.1) (fun z=>z.1<=m.wants.length/\z.2=(m.wants.take z.1).foldl addRun rs/\z.2.length<=20/\Asc Run.k z.2) (fun z=>m.wants.length-z.1) (fun z Y hinv hY=>?_) (0,rs) hst ⟨by omega,rfl,hr,ha⟩ (by unfold big;simp only;omega)
 obtain⟨i,xs⟩:=z
 obtain⟨g1,g2,g3,g4⟩:=hinv
 simp only at g1 g2 g3 g4 hY ⊢
 by_cases hi:i<m.wants.length
 ·have hiI:(i:Int)<m.wants.length:=by omega
  have hw:IntKind.i64.wrap ((i:Int)+1)=(i:Int)+1:=i64w (by omega) (by omega)
  obtain⟨w,hgw⟩:∃ w,m.wants[i]=w:=⟨_,rfl⟩
  have hwi:m.wants[i]?=some w:=by rw[<- hgw];exact Xd hi
  have htk:m.wants.take (i+1)=m.wants.take i++[w]:=by rw[Xax,hwi];rfl
  have hnx:(m.wants.take (i+1)).foldl addRun rs=addRun xs w:=by rw[htk,Xci,<- g2];rfl
  have hK:=Zco Run.k w.copy xs
  have hat:=fun i y=>Zcn Run.k (b:=w.copy) (l:=xs) (i:=i) (y:=y)
  have hst:=fun y=>Zbn Run.k (b:=w.copy) (l:=xs) (y:=y)
  have hpt:putBy Run.k (newRun w) xs=xs.take (ltCount Run.k w.copy xs)++newRun w::xs.drop (if hitAt Run.k w.copy xs then ltCount Run.k w.copy xs+1 else ltCount Run.k w.copy xs):=Zcs Run.k (newRun w) xs
  have hhit:hitAt Run.k w.copy xs=match xs[ltCount Run.k w.copy xs]? with
   | some y=>sEq y.want.copy w.copy
   | none=>false:=by unfold hitAt;cases xs[ltCount Run.k w.copy xs]?<;>rfl
  have hany:hitAt Run.k w.copy xs=xs.any fun r=>sEq r.want.copy w.copy:=Zkm Run.k w.copy g4
  have hadd:addRun xs w=if 20<=xs.length || hitAt Run.k w.copy xs then xs else putBy Run.k (newRun w) xs:=by rw[hany];rfl
  have hal:=Ze3 (w:=w) g3
  have haa:=Ze2 (w:=w) g4
  generalize ltCount Run.k w.copy xs=K at *
  generalize hitAt Run.k w.copy xs=H at *
  have mid:∀ st,st.norm [1,2,3,11,12,13]=head238c m f as gs xs w i 0->Ends (fin [.cell 2 9 true] 4 (X F [.code (.loop [1,2,3,11,12,13] c238b1),.blk 4,.code md238,.blk 3,.code en238,.back Y,.blk 2,.code tl238] (.normal,st))) (Res238 m):=fun st hst2=>by
   refine Za8 (σ:=Nat) (fun k=>head238c m f as gs xs w i k) (fun k=>k<=K) (fun k=>K-k) (fun k Y2 hk hY2=>?_) 0 hst2 (Xp _) (by unfold big;omega)
   have hw1:IntKind.i64.wrap ((k:Int)+1)=(k:Int)+1:=i64w (by omega) (by omega)
   rcases Xck k K with h|h
   ·have hkl:k<xs.length:=by omega
    have hklI:(k:Int)<xs.length:=by omega
    have hx:xs[k]?=some xs[k]:=Xd hkl
    have hlt:=hat k _ h hx
    unfold Run.k at hlt
    cases f<;>simp[head238c,mcells,marrs,Mate.arrs,c238b1,hklI,hkl,hlt]<;>refine hY2 (k+1) _ (by omega) (by omega) ?_<;>simp[head238c,mcells,marrs,Mate.arrs,zeroM,hw1,List.range,List.range.loop]
   ·obtain rfl:k=K:=by omega
    have hskip:addRun xs w=xs->∀ st,st.norm [1,2,3,11]=head238b m f as gs xs (i+1)->Ends (fin [.cell 2 9 true] 4 (Y st)) (Res238 m):=fun h st hn=>hY (i+1,xs) st ⟨by simp only;omega,by rw[hnx,h],g3,g4⟩ (by simp only;omega) hn
    by_cases hkl:k<xs.length
    ·have hklI:(k:Int)<xs.length:=by omega
     have hx:xs[k]?=some xs[k]:=Xd hkl
     have hns:=hst _ hx
     unfold Run.k at hns
     rw[hx]at hhit
     simp only at hhit
     by_cases h20:20<=xs.length
     ·have h20I:(20:Int)<=xs.length:=by omega
      have hs0:=hskip (by rw[hadd];simp[h20])
      cases f<;>simp[head238c,mcells,marrs,Mate.arrs,c238b1,md238,en238,hklI,hkl,hns,h20I]<;>refine hs0 _ ?_<;>simp[head238b,mcells,marrs,Mate.arrs,zeroM,hw,List.range,List.range.loop]
     ·have h20I:¬ (20:Int)<=xs.length:=by omega
      cases hc:sEq xs[k].want.copy w.copy
      ·rw[hc]at hhit
       subst hhit
       have hput:addRun xs w=xs.take k++newRun w::xs.drop k:=by rw[hadd,hpt];simp[h20]
       have e1:k*104<=140737488355328:=by omega
       have e2:k<=140737488355328:=by omega
       have e3:(k+1)*104<=140737488355328:=by omega
       have e4:k+1<=140737488355328:=by omega
       have e5:(k+1+(xs.length-k))*104<=140737488355328:=by omega
       have e6:k+1+(xs.length-k)<=140737488355328:=by omega
       have hkle:k<=xs.length:=by omega
       have hkleI:(k:Int)<=xs.length:=by omega
       have hmin:min k xs.length=k:=Xbt hkle
       have hsum:k+(xs.length-k)=xs.length:=by omega
       have t3:((xs.map Run.c).drop k).take (xs.length-k)=(xs.map Run.c).drop k:=Xae (by simp)
       have rp:rowsPlain [[AV.str w.copy,.int .i64 w.version,.str w.hold,.int .i64 w.pull,.int .i64 w.start,.int .i64 w.dies,.int .i64 w.grace,.int .i64 1,.int .i64 w.pull,.int .i64 0,.int .i64 0]]=true:=plain_run [newRun w]
       have hs0:=hY (i+1,addRun xs w)
       cases f<;>simp[head238c,mcells,marrs,Mate.arrs,c238b1,md238,en238,hklI,hkl,hns,h20I,hc,takeRows,Zeq,rp,Zak,Zaj,slBounds,e1,e2,e3,e4,e5,e6,hkle,hkleI,hmin,hsum,t3]<;>refine hs0 _ ⟨by simp only;omega,by rw[hnx],hal,haa⟩ (by simp only;omega) ?_<;>simp[head238b,mcells,marrs,Mate.arrs,zeroM,hw,List.range,List.range.loop,hput,newRun]
      ·rw[hc]at hhit
       subst hhit
       have hs0:=hskip (by rw[hadd];simp)
       cases f<;>simp[head238c,mcells,marrs,Mate.arrs,c238b1,md238,en238,hklI,hkl,hns,h20I,hc]<;>refine hs0 _ ?_<;>simp[head238b,mcells,marrs,Mate.arrs,zeroM,hw,List.range,List.range.loop]
    ·have hklI:¬ (k:Int)<xs.length:=by omega
     have hkx:xs.length=k:=by omega
     have hx:xs[k]?=none:=by rw[<- hkx];simp
     rw[hx]at hhit
     simp only at hhit
     subst hhit
     by_cases h20:20<=xs.length
     ·have h20I:(20:Int)<=xs.length:=by omega
      have hs0:=hskip (by rw[hadd];simp[h20])
      cases f<;>simp[head238c,mcells,marrs,Mate.arrs,c238b1,md238,en238,hklI,h20I]<;>refine hs0 _ ?_<;>simp[head238b,mcells,marrs,Mate.arrs,zeroM,hw,List.range,List.range.loop]
     ·have h20I:¬ (20:Int)<=xs.length:=by omega
      have hput:addRun xs w=xs++[newRun w]:=by rw[hadd,hpt,<- hkx];simp[h20]
      have hk20:(k:Int)<20:=by omega
      have e1:k*104<=140737488355328:=by omega
      have e2:k<=140737488355328:=by omega
      have e3:(k+1)*104<=140737488355328:=by omega
      have e4:k+1<=140737488355328:=by omega
      have rp:rowsPlain [[AV.str w.copy,.int .i64 w.version,.str w.hold,.int .i64 w.pull,.int .i64 w.start,.int .i64 w.dies,.int .i64 w.grace,.int .i64 1,.int .i64 w.pull,.int .i64 0,.int .i64 0]]=true:=plain_run [newRun w]
      have t7:(xs.map Run.c).take k=xs.map Run.c:=Xae (by simp;omega)
      have t8:(xs.map Run.c).drop k=[]:=List.drop_of_length_le (by simp;omega)
      have hs0:=hY (i+1,addRun xs w)
      cases f<;>simp[head238c,mcells,marrs,Mate.arrs,c238b1,md238,en238,hklI,h20I,hk20,hkx,takeRows,Zeq,rp,Zak,Zaj,slBounds,e1,e2,e3,e4,t7,t8]<;>refine hs0 _ ⟨by simp only;omega,by rw[hnx],hal,haa⟩ (by simp only;omega) ?_<;>simp[head238b,mcells,marrs,Mate.arrs,zeroM,hw,List.range,List.range.loop,hput,newRun]
  cases f<;>simp[head238b,mcells,marrs,Mate.arrs,c238b2,hi,hiI,hgw]<;>refine mid _ ?_<;>simp[head238c,mcells,marrs,Mate.arrs,zeroM,List.range,List.range.loop]
 ·have hiI:¬ (i:Int)<m.wants.length:=by omega
  obtain rfl:i=m.wants.length:=by omega
  rw[Xbg]at g2
  have hml:mLives m={ m with runs:=xs,asks:=as,gives:=gs }:=by unfold mLives;rw[hs,g2]
  rcases hk with ⟨rfl,rfl,rfl⟩|⟨rfl,rfl⟩|rfl
  ·simp[head238b,mcells,marrs,Mate.arrs,c238b2,tl238,zeroM]
   exact⟨.no,by simp[hml]⟩
  ·simp[head238b,mcells,marrs,Mate.arrs,c238b2,tl238,zeroM]
   exact⟨.asks,by simp[hml]⟩
  ·simp[head238b,mcells,marrs,Mate.arrs,c238b2,tl238,zeroM]
   exact⟨.both,by simp[hml]⟩
set_option maxHeartbeats 0 in
theorem law238(m:Mate)(hm:m.small)(hwl:m.wants.length<=1000)(hr:m.runs.length<=20)(ha:Asc Run.k m.runs)(hsane:∀ r∈m.runs,Sane r)(hal:m.asks.length<=100)(hgl:m.gives.length<=40):Ends (F 238 [.agg (m.refs 0)] m.arrs) (Res238 m):=by
 refine Zce fn238 rfl ?_
 simp[c238_cut,Mate.refs,Mate.arrs]
 refine Za8 (σ:=Nat×Wr×LV) (fun z=>head238a m z.2.1 z.2.2 z.1) (fun z=>z.1<=m.runs.length/\z.2.2=(m.runs.take z.1).foldl (liveStep m.clock m.wants) ⟨[],m.asks,m.gives⟩/\Kept m z.2.1 z.2.2.asks z.2.2.gives/\z.2.2.runs.length<=z.1/\z.2.2.asks.length<=100/\z.2.2.gives.length<=40) (fun z=>m.runs.length-z.1) (fun z Y hinv hY=>?_) (0,.no,⟨[],m.asks,m.gives⟩) ?_ ⟨by omega,rfl,.inl ⟨rfl,rfl,rfl⟩,by simp,hal,hgl⟩ (by unfold big;simp only;omega)
 ·obtain⟨i,f,rs,as',gv⟩:=z
  obtain⟨g1,g2,g3,g4,g5,g6⟩:=hinv
  simp only at g1 g2 g3 g4 g5 g6 hY ⊢
  have gk:=g3
  by_cases hi:i<m.runs.length
  ·have hiI:(i:Int)<m.runs.length:=by omega
   have hw:IntKind.i64.wrap ((i:Int)+1)=(i:Int)+1:=i64w (by omega) (by omega)
   obtain⟨r,hgr⟩:∃ r,m.runs[i]=r:=⟨_,rfl⟩
   have hri:m.runs[i]?=some r:=by rw[<- hgr];exact Xd hi
   have hsr:=hsane r (Xe hri)
   have htk:m.runs.take (i+1)=m.runs.take i++[r]:=by rw[Xax,hri];rfl
   have hnx:(m.runs.take (i+1)).foldl (liveStep m.clock m.wants) ⟨[],m.asks,m.gives⟩=liveStep m.clock m.wants ⟨rs,as',gv⟩ r:=by rw[htk,Xci,<- g2];rfl
   have w161:=law161 m.wants r.want.copy (by unfold big;omega)
   have hsl:=hsr.left
   have hsf:=hsr.falls
   have w15:=law15 r ((findW m.wants r.want.copy).getD .zero) (findW m.wants r.want.copy).isSome m.clock ⟨by omega,by omega⟩ ⟨by omega,by omega⟩
   have hlv:liveOf m.clock m.wants r=mateLive r ((findW m.wants r.want.copy).getD .zero) (findW m.wants r.want.copy).isSome m.clock:=rfl
   unfold liveRes at w15
   rw[<- hlv]at w15
   generalize (findW m.wants r.want.copy).getD .zero=w at w161 w15
   generalize (findW m.wants r.want.copy).isSome=b at w161 w15
   simp only[Want.c,Run.c]at w161 w15
   have hc1:(rs.length+1)*104<=140737488355328:=by omega
   have hc2:rs.length+1<=140737488355328:=by omega
   cases hlo:liveOf m.clock m.wants r with
   | some n =>
    have hst:liveStep m.clock m.wants ⟨rs,as',gv⟩ r=⟨rs++[n],as',gv⟩:=by unfold liveStep;rw[hlo]
    rw[hlo]at w15
    simp only[Xbb,Option.isSome_some]at w15
    have rp:rowsPlain [[AV.str n.want.copy,.int .i64 n.want.version,.str n.want.hold,.int .i64 n.want.pull,.int .i64 n.want.start,.int .i64 n.want.dies,.int .i64 n.want.grace,.int .i64 n.state,.int .i64 n.left,.int .i64 n.falls,.int .i64 n.til]]=true:=plain_run [n]
    rcases g3 with ⟨rfl,rfl,rfl⟩|⟨rfl,rfl⟩|rfl
    all_goals
     simp[head238a,mcells,marrs,Mate.arrs,c238b0,hi,hiI,hgr,w161,w15,takeRows,rp,hc1,hc2]
     refine hY (i+1,_,⟨rs++[n],_,_⟩) _ ⟨by simp only;omega,by rw[hnx,hst],gk,by simp;omega,g5,g6⟩ (by simp only;omega) ?_
     simp[head238a,mcells,marrs,Mate.arrs,zeroM,hw,List.range,List.range.loop]
   | none =>
    have hst:liveStep m.clock m.wants ⟨rs,as',gv⟩ r=giveUp r.want.hold ⟨rs,as',gv⟩:=by unfold liveStep;rw[hlo]
    rw[hlo]at w15
    simp[Run.zero]at w15
    have w110:=law110 as' r.want.hold (by omega)
    have hdl:(dropHold as' r.want.hold).length<=as'.length:=Xcf _ _
    have w136:=law136 as' r.want.hold (by omega)
    cases q:sEq r.want.hold ⟨#[]⟩
    ·rcases Zdk as' r.want.hold with ⟨e,hno⟩|⟨k,hkl,e,hso,hsh⟩
     ·have hgu:giveUp r.want.hold ⟨rs,as',gv⟩=⟨rs,as',gv⟩:=by unfold giveUp;rw[q,hno];rfl
      rw[e]at w110
      rcases g3 with ⟨rfl,rfl,rfl⟩|⟨rfl,rfl⟩|rfl
      all_goals
       simp[head238a,mcells,marrs,Mate.arrs,c238b0,hi,hiI,hgr,w161,w15,q,w110]
       refine hY (i+1,_,⟨rs,_,_⟩) _ ⟨by simp only;omega,by rw[hnx,hst,hgu],gk,by simp only;omega,g5,g6⟩ (by simp only;omega) ?_
       simp[head238a,mcells,marrs,Mate.arrs,zeroM,hw,List.range,List.range.loop]
     ·rw[e]at w110
      have hgu:giveUp r.want.hold ⟨rs,as',gv⟩=⟨rs,dropHold as' r.want.hold,if gv.length<40 then putBy Ask.k as'[k] gv else gv⟩:=by unfold giveUp;rw[q,hso];rfl
      obtain⟨ask,hask⟩:∃ ask,as'[k]=ask:=⟨_,rfl⟩
      rw[hask]at hgu
      by_cases hlt:gv.length<40
      ·have hltI:(gv.length:Int)<40:=by omega
       rw[Xr hlt]at hgu
       have w241:=law241 gv ask (by omega)
       have hpl:=Za7 Ask.k ask gv
       simp only[Ask.c]at w241
       rcases g3 with ⟨rfl,rfl,rfl⟩|⟨rfl,rfl⟩|rfl
       all_goals
        simp[head238a,mcells,marrs,Mate.arrs,c238b0,hi,hiI,hgr,w161,w15,q,w110,hkl,hask,hlt,hltI,w241,w136]
        refine hY (i+1,.both,⟨rs,dropHold _ r.want.hold,putBy Ask.k ask _⟩) _ ⟨by simp only;omega,by rw[hnx,hst,hgu],Ztk,by simp only;omega,Xac hdl g5,Xac hpl hlt⟩ (by simp only;omega) ?_
        simp[head238a,mcells,marrs,Mate.arrs,zeroM,hw,List.range,List.range.loop]
      ·have hltI:¬ (gv.length:Int)<40:=by omega
       rw[Xu hlt]at hgu
       rcases g3 with ⟨rfl,rfl,rfl⟩|⟨rfl,rfl⟩|rfl
       ·simp[head238a,mcells,marrs,Mate.arrs,c238b0,hi,hiI,hgr,w161,w15,q,w110,hkl,hask,hlt,hltI,w136]
        refine hY (i+1,.asks,⟨rs,dropHold _ r.want.hold,_⟩) _ ⟨by simp only;omega,by rw[hnx,hst,hgu],by simp[Kept],by simp only;omega,Xac hdl g5,g6⟩ (by simp only;omega) ?_
        simp[head238a,mcells,marrs,Mate.arrs,zeroM,hw,List.range,List.range.loop]
       ·simp[head238a,mcells,marrs,Mate.arrs,c238b0,hi,hiI,hgr,w161,w15,q,w110,hkl,hask,hlt,hltI,w136]
        refine hY (i+1,.asks,⟨rs,dropHold _ r.want.hold,_⟩) _ ⟨by simp only;omega,by rw[hnx,hst,hgu],by simp[Kept],by simp only;omega,Xac hdl g5,g6⟩ (by simp only;omega) ?_
        simp[head238a,mcells,marrs,Mate.arrs,zeroM,hw,List.range,List.range.loop]
       ·simp[head238a,mcells,marrs,Mate.arrs,c238b0,hi,hiI,hgr,w161,w15,q,w110,hkl,hask,hlt,hltI,w136]
        refine hY (i+1,.both,⟨rs,dropHold _ r.want.hold,gv⟩) _ ⟨by simp only;omega,by rw[hnx,hst,hgu],by simp[Kept],by simp only;omega,Xac hdl g5,g6⟩ (by simp only;omega) ?_
        simp[head238a,mcells,marrs,Mate.arrs,zeroM,hw,List.range,List.range.loop]
    ·have hgu:giveUp r.want.hold ⟨rs,as',gv⟩=⟨rs,as',gv⟩:=by unfold giveUp;rw[q];rfl
     rcases g3 with ⟨rfl,rfl,rfl⟩|⟨rfl,rfl⟩|rfl
     all_goals
      simp[head238a,mcells,marrs,Mate.arrs,c238b0,hi,hiI,hgr,w161,w15,q,w110]
      refine hY (i+1,_,⟨rs,_,_⟩) _ ⟨by simp only;omega,by rw[hnx,hst,hgu],gk,by simp only;omega,g5,g6⟩ (by simp only;omega) ?_
      simp[head238a,mcells,marrs,Mate.arrs,zeroM,hw,List.range,List.range.loop]
  ·have hiI:¬ (i:Int)<m.runs.length:=by omega
   obtain rfl:i=m.runs.length:=by omega
   rw[Xbg]at g2
   have hlv:livesOf m=⟨rs,as',gv⟩:=g2.symm
   have hra:=Zc1 ha
   rw[hlv]at hra
   have key:=Zsk m hm hwl f as' gv rs g3 (by omega) hra hlv
   cases f<;>simp[head238a,mcells,marrs,Mate.arrs,c238b0]<;>refine key _ ?_<;>simp[head238b,mcells,marrs,Mate.arrs,zeroM,List.range,List.range.loop]
 ·simp[head238a,mcells,marrs,Mate.arrs,zeroM,List.range,List.range.loop]
def asksHold(ws:List Want)(gives:List Ask)(r:Run):Bool:=(match findW ws r.want.copy with
 | some w=>eqWant w r.want
 | none=>false) && (!sEq r.want.hold ⟨#[]⟩ && (askOf r.want.hold gives).isNone)
def freshAsk(c:Int)(r:Run)(as:List Ask):Option Ask:=match askOf r.want.hold as with
 | some a=>if sEq a.copy r.want.copy then (if c<IntKind.i64.wrap (a.at_+6) then none else some ⟨r.want.hold,r.want.copy,a.first,c⟩) else some ⟨r.want.hold,r.want.copy,c,c⟩
 | none=>some ⟨r.want.hold,r.want.copy,c,c⟩
def asked(name:T)(c:Int)(r:Run):Parcel:=⟨2,name,0,[],r.want.hold,r.want.copy,c⟩
def askStep(m:Mate)(s:List Ask×List Parcel)(r:Run):List Ask×List Parcel:=if asksHold m.wants m.gives r then match freshAsk m.clock r s.1 with
  | some a=>(putBy Ask.k a s.1,s.2++[asked m.name m.clock r])
  | none=>s
 else s
def asksOf(m:Mate):List Ask×List Parcel:=m.runs.foldl (askStep m) (m.asks,[])
def mAsks(m:Mate):Mate:={ m with asks:=(asksOf m).1 }
def Roomy(m:Mate):Prop:=∀ i,((m.runs.take i).foldl (askStep m) (m.asks,[])).1.length<=39
def acells(f:Bool)(m:Mate):List AV:=[.str m.name,.bool m.up,.int .i64 m.clock,.bool m.known,.int .i64 m.seen,.ref 0,.ref 1,if f then .ref 7 else .ref 2,.ref 3]
def aarrs(f:Bool)(as:List Ask):List AO:=if f then [.arr 4 (as.map Ask.c)] else []
def head237(m:Mate)(f:Bool)(as:List Ask)(out:List Parcel)(i:Nat):St :=
 hd [(1,.ptr 4 0 0),(2,.ptr 5 0 0),(4,.ref 6),(5,.int .i64 i)] (m.arrs++[.box (acells f m),.box zeroM,.arr 7 (out.map (Parcel.c .own))]++aarrs f as) 4
def Res237(m:Mate)(r:AV×List (Option AO)):Prop:=∃ f:Bool,r=(.tup [.agg ((mAsks m).c .own),.sl .own 7 ((asksOf m).2.map (Parcel.c .own))],[none,none,if f then some (.arr 4 (m.asks.map Ask.c)) else none,none])
set_option maxHeartbeats 0 in
theorem law237(m:Mate)(_:m.small)(hwl:m.wants.length<=1000)(hr:m.runs.length<=20)(hal:Roomy m)(hgl:m.gives.length<=100):Ends (F 237 [.agg (m.refs 0)] m.arrs) (Res237 m):=by
 refine Zce fn237 rfl ?_
 simp[c237,Mate.refs,Mate.arrs]
 refine Za8 (σ:=Nat×Bool×List Ask×List Parcel) (fun z=>head237 m z.2.1 z.2.2.1 z.2.2.2 z.1) (fun z=>z.1<=m.runs.length/\z.2.2=(m.runs.take z.1).foldl (askStep m) (m.asks,[])/\(z.2.1=false->z.2.2.1=m.asks)/\z.2.2.2.length<=z.1) (fun z=>m.runs.length-z.1) (fun z Y hinv hY=>?_) (0,false,m.asks,[]) ?_ ⟨by omega,rfl,fun _=>rfl,by simp⟩ (by unfold big;simp only;omega)
 ·obtain⟨i,f,as',out⟩:=z
  obtain⟨g1,g2,g3,g5⟩:=hinv
  simp only at g1 g2 g3 g5 hY ⊢
  have g4:as'.length<=39:=by have:=hal i;rw[<- g2]at this;exact this
  by_cases hi:i<m.runs.length
  ·have hiI:(i:Int)<m.runs.length:=by omega
   have hw:IntKind.i64.wrap ((i:Int)+1)=(i:Int)+1:=i64w (by omega) (by omega)
   obtain⟨r,hgr⟩:∃ r,m.runs[i]=r:=⟨_,rfl⟩
   have hri:m.runs[i]?=some r:=by rw[<- hgr];exact Xd hi
   have htk:m.runs.take (i+1)=m.runs.take i++[r]:=by rw[Xax,hri];rfl
   have hnx:(m.runs.take (i+1)).foldl (askStep m) (m.asks,[])=askStep m (as',out) r:=by rw[htk,Xci,<- g2];rfl
   have w161:=law161 m.wants r.want.copy (by unfold big;omega)
   have hc1:(out.length+1)*96<=140737488355328:=by omega
   have hc2:out.length+1<=140737488355328:=by omega
   have hah:asksHold m.wants m.gives r=((match findW m.wants r.want.copy with
    | some w=>eqWant w r.want
    | none=>false) && (!sEq r.want.hold ⟨#[]⟩ && (askOf r.want.hold m.gives).isNone)):=rfl
   have hno:asksHold m.wants m.gives r=false->askStep m (as',out) r=(as',out):=fun h=>by unfold askStep;rw[h];rfl
   cases hfw:findW m.wants r.want.copy with
   | none =>
    rw[hfw]at w161 hah
    have hst:=hno (by rw[hah];rfl)
    simp[Want.zero]at w161
    cases f
    ·obtain rfl:=g3 rfl
     simp[head237,acells,aarrs,Mate.arrs,c237b0,hi,hiI,hgr,w161,w161]
     refine hY (i+1,_,_,_) _ ⟨by simp only;omega,by rw[hnx,hst],g3,Xy g5⟩ (by simp only;omega) ?_
     simp[head237,acells,aarrs,Mate.arrs,zeroM,hw,List.range,List.range.loop]
    ·skip
     simp[head237,acells,aarrs,Mate.arrs,c237b0,hi,hiI,hgr,w161,w161]
     refine hY (i+1,_,_,_) _ ⟨by simp only;omega,by rw[hnx,hst],g3,Xy g5⟩ (by simp only;omega) ?_
     simp[head237,acells,aarrs,Mate.arrs,zeroM,hw,List.range,List.range.loop]
   | some w =>
    rw[hfw]at w161 hah
    simp at w161
    simp only at hah
    cases heq:eqWant w r.want
    ·rw[heq]at hah
     have hst:=hno (by rw[hah];rfl)
     cases f
     ·obtain rfl:=g3 rfl
      simp[head237,acells,aarrs,Mate.arrs,c237b0,hi,hiI,hgr,w161,heq]
      refine hY (i+1,_,_,_) _ ⟨by simp only;omega,by rw[hnx,hst],g3,Xy g5⟩ (by simp only;omega) ?_
      simp[head237,acells,aarrs,Mate.arrs,zeroM,hw,List.range,List.range.loop]
     ·skip
      simp[head237,acells,aarrs,Mate.arrs,c237b0,hi,hiI,hgr,w161,heq]
      refine hY (i+1,_,_,_) _ ⟨by simp only;omega,by rw[hnx,hst],g3,Xy g5⟩ (by simp only;omega) ?_
      simp[head237,acells,aarrs,Mate.arrs,zeroM,hw,List.range,List.range.loop]
    ·rw[heq]at hah
     obtain rfl:=(Zfd _ _).1 heq
     have heqc:eqWant r.want r.want=true:=heq
     cases q:sEq r.want.hold ⟨#[]⟩
     ·have w110g:=law110 m.gives r.want.hold (by omega)
      rcases Zdk m.gives r.want.hold with ⟨e,hgo⟩|⟨k,hkl,e,hgo,_⟩
      ·rw[e]at w110g
       have hyes:asksHold m.wants m.gives r=true:=by rw[hah,q,hgo];rfl
       have hyst:askStep m (as',out) r=match freshAsk m.clock r as' with
        | some a=>(putBy Ask.k a as',out++[asked m.name m.clock r])
        | none=>(as',out):=by unfold askStep;rw[hyes];rfl
       have w110a:=law110 as' r.want.hold (by omega)
       have w241:=fun first=>law241 as' ⟨r.want.hold,r.want.copy,first,m.clock⟩ (by omega)
       simp only[Ask.c]at w241
       rcases Zdk as' r.want.hold with ⟨e2,hao⟩|⟨k,hkl,e2,hao,_⟩
       ·rw[e2]at w110a
        have hfr:freshAsk m.clock r as'=some ⟨r.want.hold,r.want.copy,m.clock,m.clock⟩:=by unfold freshAsk;rw[hao]
        have hst:=hyst
        rw[hfr]at hst
        simp only at hst
        specialize w241 m.clock
        have hlt:¬ (40:Int)<=as'.length:=by omega
        cases f
        ·obtain rfl:=g3 rfl
         simp[head237,acells,aarrs,Mate.arrs,c237b0,hi,hiI,hgr,w161,heqc,q,w110g,w110a,hlt,w241,takeRows,hc1,hc2]
         refine hY (i+1,true,putBy Ask.k _ _,out++[asked m.name m.clock r]) _ ⟨by simp only;omega,by rw[hnx,hst],(fun h=>nomatch h),by simp;omega⟩ (by simp only;omega) ?_
         simp[head237,acells,aarrs,Mate.arrs,zeroM,hw,List.range,List.range.loop,asked]
        ·skip
         simp[head237,acells,aarrs,Mate.arrs,c237b0,hi,hiI,hgr,w161,heqc,q,w110g,w110a,hlt,w241,takeRows,hc1,hc2]
         refine hY (i+1,true,putBy Ask.k _ _,out++[asked m.name m.clock r]) _ ⟨by simp only;omega,by rw[hnx,hst],(fun h=>nomatch h),by simp;omega⟩ (by simp only;omega) ?_
         simp[head237,acells,aarrs,Mate.arrs,zeroM,hw,List.range,List.range.loop,asked]
       ·rw[e2]at w110a
        obtain⟨a,hak⟩:∃ a,as'[k]=a:=⟨_,rfl⟩
        rw[hak]at hao
        have h0k:¬ (k:Int)<0:=by omega
        cases q2:sEq a.copy r.want.copy
        ·have hfr:freshAsk m.clock r as'=some ⟨r.want.hold,r.want.copy,m.clock,m.clock⟩:=by unfold freshAsk;rw[hao];simp only[q2];rfl
         have hst:=hyst
         rw[hfr]at hst
         simp only at hst
         specialize w241 m.clock
         cases f
         ·obtain rfl:=g3 rfl
          simp[head237,acells,aarrs,Mate.arrs,c237b0,hi,hiI,hgr,w161,heqc,q,w110g,w110a,hkl,hak,q2,h0k,w241,takeRows,hc1,hc2]
          refine hY (i+1,true,putBy Ask.k _ _,out++[asked m.name m.clock r]) _ ⟨by simp only;omega,by rw[hnx,hst],(fun h=>nomatch h),by simp;omega⟩ (by simp only;omega) ?_
          simp[head237,acells,aarrs,Mate.arrs,zeroM,hw,List.range,List.range.loop,asked]
         ·skip
          simp[head237,acells,aarrs,Mate.arrs,c237b0,hi,hiI,hgr,w161,heqc,q,w110g,w110a,hkl,hak,q2,h0k,w241,takeRows,hc1,hc2]
          refine hY (i+1,true,putBy Ask.k _ _,out++[asked m.name m.clock r]) _ ⟨by simp only;omega,by rw[hnx,hst],(fun h=>nomatch h),by simp;omega⟩ (by simp only;omega) ?_
          simp[head237,acells,aarrs,Mate.arrs,zeroM,hw,List.range,List.range.loop,asked]
        ·by_cases q3:m.clock<IntKind.i64.wrap (a.at_+6)
         ·have hfr:freshAsk m.clock r as'=none:=by unfold freshAsk;rw[hao];simp only[q2,q3,Xag]
          have hst:=hyst
          rw[hfr]at hst
          simp only at hst
          cases f
          ·obtain rfl:=g3 rfl
           simp[head237,acells,aarrs,Mate.arrs,c237b0,hi,hiI,hgr,w161,heqc,q,w110g,w110a,hkl,hak,q2,q3,h0k]
           refine hY (i+1,_,_,_) _ ⟨by simp only;omega,by rw[hnx,hst],g3,Xy g5⟩ (by simp only;omega) ?_
           simp[head237,acells,aarrs,Mate.arrs,zeroM,hw,List.range,List.range.loop]
          ·skip
           simp[head237,acells,aarrs,Mate.arrs,c237b0,hi,hiI,hgr,w161,heqc,q,w110g,w110a,hkl,hak,q2,q3,h0k]
           refine hY (i+1,_,_,_) _ ⟨by simp only;omega,by rw[hnx,hst],g3,Xy g5⟩ (by simp only;omega) ?_
           simp[head237,acells,aarrs,Mate.arrs,zeroM,hw,List.range,List.range.loop]
         ·have hfr:freshAsk m.clock r as'=some ⟨r.want.hold,r.want.copy,a.first,m.clock⟩:=by unfold freshAsk;rw[hao];simp only[q2,q3,Xag,Xaj]
          have hst:=hyst
          rw[hfr]at hst
          simp only at hst
          specialize w241 a.first
          cases f
          ·obtain rfl:=g3 rfl
           simp[head237,acells,aarrs,Mate.arrs,c237b0,hi,hiI,hgr,w161,heqc,q,w110g,w110a,hkl,hak,q2,q3,h0k,w241,takeRows,hc1,hc2]
           refine hY (i+1,true,putBy Ask.k _ _,out++[asked m.name m.clock r]) _ ⟨by simp only;omega,by rw[hnx,hst],(fun h=>nomatch h),by simp;omega⟩ (by simp only;omega) ?_
           simp[head237,acells,aarrs,Mate.arrs,zeroM,hw,List.range,List.range.loop,asked]
          ·skip
           simp[head237,acells,aarrs,Mate.arrs,c237b0,hi,hiI,hgr,w161,heqc,q,w110g,w110a,hkl,hak,q2,q3,h0k,w241,takeRows,hc1,hc2]
           refine hY (i+1,true,putBy Ask.k _ _,out++[asked m.name m.clock r]) _ ⟨by simp only;omega,by rw[hnx,hst],(fun h=>nomatch h),by simp;omega⟩ (by simp only;omega) ?_
           simp[head237,acells,aarrs,Mate.arrs,zeroM,hw,List.range,List.range.loop,asked]
      ·rw[e]at w110g
       have hst:=hno (by rw[hah,hgo];simp)
       cases f
       ·obtain rfl:=g3 rfl
        simp[head237,acells,aarrs,Mate.arrs,c237b0,hi,hiI,hgr,w161,heqc,q,w110g]
        refine hY (i+1,_,_,_) _ ⟨by simp only;omega,by rw[hnx,hst],g3,Xy g5⟩ (by simp only;omega) ?_
        simp[head237,acells,aarrs,Mate.arrs,zeroM,hw,List.range,List.range.loop]
       ·skip
        simp[head237,acells,aarrs,Mate.arrs,c237b0,hi,hiI,hgr,w161,heqc,q,w110g]
        refine hY (i+1,_,_,_) _ ⟨by simp only;omega,by rw[hnx,hst],g3,Xy g5⟩ (by simp only;omega) ?_
        simp[head237,acells,aarrs,Mate.arrs,zeroM,hw,List.range,List.range.loop]
     ·have hst:=hno (by rw[hah,q];simp)
      cases f
      ·obtain rfl:=g3 rfl
       simp[head237,acells,aarrs,Mate.arrs,c237b0,hi,hiI,hgr,w161,heqc,q]
       refine hY (i+1,_,_,_) _ ⟨by simp only;omega,by rw[hnx,hst],g3,Xy g5⟩ (by simp only;omega) ?_
       simp[head237,acells,aarrs,Mate.arrs,zeroM,hw,List.range,List.range.loop]
      ·skip
       simp[head237,acells,aarrs,Mate.arrs,c237b0,hi,hiI,hgr,w161,heqc,q]
       refine hY (i+1,_,_,_) _ ⟨by simp only;omega,by rw[hnx,hst],g3,Xy g5⟩ (by simp only;omega) ?_
       simp[head237,acells,aarrs,Mate.arrs,zeroM,hw,List.range,List.range.loop]
  ·have hiI:¬ (i:Int)<m.runs.length:=by omega
   obtain rfl:i=m.runs.length:=by omega
   rw[Xbg]at g2
   have hlv:asksOf m=(as',out):=g2.symm
   cases f
   ·have e:=g3 rfl
    simp[head237,acells,aarrs,Mate.arrs,c237b0,zeroM]
    exact⟨false,by simp[mAsks,hlv,e]⟩
   ·simp[head237,acells,aarrs,Mate.arrs,c237b0,zeroM]
    exact⟨true,by simp[mAsks,hlv]⟩
 ·simp[head237,acells,aarrs,Mate.arrs,zeroM,List.range,List.range.loop]
def backP(n:T)(a:Ask):Parcel:=⟨4,n,0,[],a.hold,a.copy,a.at_⟩
def hereP(m:Mate):Parcel:=⟨6,m.name,m.seen,[],⟨#[]⟩,⟨#[]⟩,0⟩
def tickOn(m:Mate)(rate:Int):Mate:={ m with clock:=m.clock+rate,runs:=m.runs.map (wd (m.clock+rate)) }
def tickRuns(m:Mate):Mate:=if m.known then mLives m else m
def tickOut(m:Mate):List Parcel:=(asksOf m).2++m.gives.map (backP m.name)++[hereP m]
def mateTick(m:Mate)(rate:Int):Mate×List Parcel :=
 if mateValid m then
  if inR rate 1 4 then
   if 1000000<m.clock+rate then ({ mateFall m true with clock:=1000000 },[])
   else if m.up then (mAsks (tickRuns (tickOn m rate)),tickOut (tickRuns (tickOn m rate))) else (tickOn m rate,[])
  else (m,[])
 else (.zero,[])
structure ValidIs(m:Mate):Prop where
 clock:0<=m.clock/\m.clock<=1000000
 wants:m.wants.length<=10
 runs:m.runs.length<=20
 runsAsc:Asc Run.k m.runs
 sane:∀ r∈m.runs,Sane r
 asks:Asc Ask.k m.asks
 gives:Asc Ask.k m.gives
 apart:∀ a∈m.asks,∀ b∈m.gives,a.hold≠b.hold
 ngives:m.gives.length<=40
theorem Zh4{m:Mate}(h:mateValid m=true):ValidIs m:=by
 obtain⟨h1,h2,_⟩:=(Za4 m).1 h
 obtain⟨_,p2,_,p4,_,p6,p7,p8⟩:=(Zbt m).1 h1
 obtain⟨r1,r2,r3⟩:=(Zdr _ _).1 p6
 have w1:=(Zaq _).1 p4
 have a1:=(Ze7 _ _).1 p7
 have a2:=(Ze7 _ _).1 p8
 simp only[inR,Xc,Xj]at p2
 refine⟨p2,w1.1,r1,r3,fun r hr=>?_,a1.2.2,a2.2.2,fun a ha b hb e=>?_,a2.1⟩
 ·have:=r2 r hr
  simp only[runOk,inR,Xc,Xj]at this
  exact⟨this.2.2.1,this.2.2.2.2.1⟩
 ·unfold apartGo at h2
  have:=Xao.1 h2 a ha
  simp only[Xj]at this
  rcases Zbg m.gives a.hold with ⟨_,hno⟩|⟨k,hk,e1,_⟩
  ·have:=hno b hb
   rw[(Zac _ _).2 e.symm]at this
   cases this
  ·omega
theorem Zqd{c:Int}{r:Run}(h:Sane r):Sane (wd c r):=by
 unfold wd
 split
 ·exact⟨⟨by simp,by simp⟩,h.falls⟩
 ·exact h
theorem Zmr(c:Int)(r:Run):(wd c r).want=r.want:=by unfold wd;split<;>rfl
theorem wd_k(c:Int)(r:Run):Run.k (wd c r)=Run.k r:=by unfold Run.k;rw[Zmr]
theorem Zrp{c:Int}{l:List Run}(h:Asc Run.k l):Asc Run.k (l.map (wd c)):=by
 rw[Zgr]at h ⊢
 rw[List.map_map]
 have e:Run.k ∘ wd c=Run.k:=funext fun r=>wd_k c r
 rw[e];exact h
/-! ### Asks are few: each is for one of a few holds, or for one of a run's -/
def AskFew(S:List T)(R:List Run)(l:List Ask):Prop:=∀ a∈l,a.hold∈(⟨#[]⟩:T)::S\/∃ r∈R,r.want.hold=a.hold
def HoldsN(n:Nat)(m:Mate):Prop:=∃ S:List T,S.length<=n/\AskFew S m.runs m.asks
abbrev HoldsM (m:Mate):Prop:=HoldsN 12 m
theorem HoldsN.up{n k:Nat}{m:Mate}(h:HoldsN n m)(hk:n<=k):HoldsN k m:=by
 obtain⟨S,h1,h2⟩:=h
 exact⟨S,Xac h1 hk,h2⟩
theorem HoldsN.runs{n:Nat}{m x:Mate}(h:HoldsN n m)(ha:x.asks=m.asks)(hr:∀ r∈m.runs,∃ r'∈x.runs,r'.want.hold=r.want.hold):HoldsN n x:=by
 obtain⟨S,h1,h2⟩:=h
 refine⟨S,h1,fun a k=>?_⟩
 rw[ha]at k
 refine (h2 a k).imp_right fun ⟨r,k1,k2⟩=>?_
 obtain⟨r',k3,k4⟩:=hr r k1
 exact⟨r',k3,k4.trans k2⟩
structure Ready(m:Mate):Prop where
 small:m.small
 holds:HoldsM m
theorem Zpo{α:Type}(key:α->T):∀ (S:List T) (l:List α),l.Pairwise (fun a b=>key a≠key b)->(∀ a∈l,key a∈S)->l.length<=S.length
 | [],l,_,h=>by
  cases l with
  | nil=>simp
  | cons a l=>exact absurd (h a Xi) (by simp)
 | s::S,l,hp,h=>by
  have ih:=Zpo key S (l.filter fun a=>!sEq (key a) s) (hp.filter _) (fun a ha=>by
   obtain⟨h1,h2⟩:=Xb9.1 ha
   rcases Xl.1 (h a h1) with e|e
   ·rw[(Zac _ _).2 e]at h2;cases h2
   ·exact e)
  have hone:∀ l:List α,l.Pairwise (fun a b=>key a≠key b)->l.length<=(l.filter fun a=>!sEq (key a) s).length+1:=by
   intro l
   induction l with
   | nil=>intro _;simp
   | cons a l ih2 =>
    intro hp2
    obtain⟨p1,p2⟩:=Xad.1 hp2
    rw[List.filter_cons]
    cases q:sEq (key a) s
    ·have:=ih2 p2
     simp
     omega
    ·have hall:l.filter (fun a=>!sEq (key a) s)=l:=Xcl.2 fun b hb=>by
      have hne:=p1 b hb
      rw[(Zac _ _).1 q]at hne
      simp[Zad (Ne.symm hne)]
     simp[hall]
  have:=hone l hp
  rw[Xaa]
  omega
theorem Zou{α:Type}{key:α->T}{l:List α}(h:Asc key l):l.Pairwise (fun a b=>key a≠key b) :=
 List.Pairwise.imp (fun {a b} h e=>by rw[e,Zao]at h;cases h) h
theorem few{S:List T}{R:List Run}{l:List Ask}(h:Asc Ask.k l)(hS:AskFew S R l)(hn:S.length<=12)(hR:R.length<=20):l.length<=33:=by
 have:=Zpo Ask.k ((⟨#[]⟩::S)++R.map (·.want.hold)) l (Zou h) fun a ha=>Xg.2 ((hS a ha).imp_right fun ⟨r,h1,h2⟩=>Xap.2 ⟨r,h1,h2⟩)
 simp only[Xs,Xb1,Xaa]at this
 omega
theorem Zjo{c:Int}{r:Run}{l:List Ask}{a:Ask}(e:freshAsk c r l=some a):a.hold=r.want.hold:=by
 unfold freshAsk at e
 repeat' split at e
 all_goals first|(cases e;done)|(rw[<- Xf e])
theorem Zje(m:Mate)(S:List T):∀ (rs:List Run) (s:List Ask×List Parcel),(∀ r∈rs,r∈m.runs)->AskFew S m.runs s.1->Asc Ask.k s.1->AskFew S m.runs (rs.foldl (askStep m) s).1/\Asc Ask.k (rs.foldl (askStep m) s).1
 | [],_,_,h,k=>⟨h,k⟩
 | r::rs,s,hr,h,k=>by
  have h1:AskFew S m.runs (askStep m s r).1/\Asc Ask.k (askStep m s r).1:=by
   unfold askStep
   split
   ·split
    ·rename_i b e
     refine⟨fun a ha=>?_,Zar Ask.k k⟩
     rcases Zay Ask.k ha with rfl|ha
     ·exact .inr ⟨r,hr r Xi,(Zjo e).symm⟩
     ·exact h a ha
    ·exact⟨h,k⟩
   ·exact⟨h,k⟩
  exact Zje m S rs _ (fun x hx=>hr x (Xh _ hx)) h1.1 h1.2
theorem Zhi{n:Nat}{m:Mate}(h:HoldsN n m)(k:Asc Ask.k m.asks):HoldsN n (mAsks m):=by
 obtain⟨S,h1,h2⟩:=h
 exact⟨S,h1,(Zje m S m.runs (m.asks,[]) (fun _ h=>h) h2 k).1⟩
theorem Zsm{m:Mate}(hr:m.runs.length<=20)(k:Asc Ask.k m.asks)(h:HoldsM m):Roomy m:=fun i=>by
 obtain⟨S,hn,h⟩:=h
 obtain⟨h1,h2⟩:=Zje m S (m.runs.take i) (m.asks,[]) (fun r hr=>Xbf hr) h k
 exact Xac (few h2 h1 hn hr) (by decide)
theorem Zjt{r r':Run}{w:Want}{b:Bool}{c:Int}(e:mateLive r w b c=some r'):r'.want=r.want:=by
 have hb:(beginR r c).want=r.want:=by unfold beginR;split<;>rfl
 unfold mateLive at e
 repeat' split at e
 all_goals first|(cases e;done)|(obtain rfl:=Xf e;first|exact hb|rfl)
theorem Zkp(c:Int)(ws:List Want)(S:List T):∀ (rs:List Run) (s:LV),(∀ a∈s.asks,a.hold∈(⟨#[]⟩:T)::S\/(∃ r∈s.runs,r.want.hold=a.hold)\/∃ r∈rs,r.want.hold=a.hold)->Asc Ask.k s.asks->s.gives.length<=40 ->
  AskFew S (rs.foldl (liveStep c ws) s).runs (rs.foldl (liveStep c ws) s).asks/\Asc Ask.k (rs.foldl (liveStep c ws) s).asks/\(rs.foldl (liveStep c ws) s).gives.length<=40
 | [],s,h,k,g=>⟨fun a ha=>(h a ha).imp_right fun h=>h.elim id (fun ⟨_,h,_⟩=>by cases h),k,g⟩
 | r::rs,s,h,k,g=>by
  have key:(∀ a∈(liveStep c ws s r).asks,a.hold∈(⟨#[]⟩:T)::S\/(∃ x∈(liveStep c ws s r).runs,x.want.hold=a.hold)\/∃ x∈rs,x.want.hold=a.hold)/\Asc Ask.k (liveStep c ws s r).asks/\(liveStep c ws s r).gives.length<=40:=by
   unfold liveStep
   split
   ·rename_i n e
    refine⟨fun a ha=>?_,k,g⟩
    rcases h a ha with h1|⟨x,h1,h2⟩|⟨x,h1,h2⟩
    ·exact .inl h1
    ·exact .inr (.inl ⟨x,Xg.2 (.inl h1),h2⟩)
    ·rcases Xl.1 h1 with rfl|h1
     ·exact .inr (.inl ⟨n,by simp,by rw[Zjt e];exact h2⟩)
     ·exact .inr (.inr ⟨x,h1,h2⟩)
   ·unfold giveUp
    split
    ·rename_i q
     refine⟨fun a ha=>?_,k,g⟩
     rcases h a ha with h1|h1|⟨x,h1,h2⟩
     ·exact .inl h1
     ·exact .inr (.inl h1)
     ·rcases Xl.1 h1 with rfl|h1
      ·refine .inl ?_
       rw[<- h2,(Zac _ _).1 q];exact Xi
      ·exact .inr (.inr ⟨x,h1,h2⟩)
    ·have gone:∀ a∈s.asks,a.hold≠r.want.hold->a.hold∈(⟨#[]⟩:T)::S\/(∃ x∈s.runs,x.want.hold=a.hold)\/∃ x∈rs,x.want.hold=a.hold:=fun a ha hne=>by
      rcases h a ha with h1|h1|⟨x,h1,h2⟩
      ·exact .inl h1
      ·exact .inr (.inl h1)
      ·rcases Xl.1 h1 with rfl|h1
       ·exact absurd h2.symm hne
       ·exact .inr (.inr ⟨x,h1,h2⟩)
     split
     ·rename_i e
      refine⟨fun a ha=>gone a ha fun e2=>?_,k,g⟩
      unfold askOf at e
      exact Xbw.1 e a ha ((Zac _ _).2 e2)
     ·refine⟨fun a ha=>?_,k.sublist Xcm,?_⟩
      ·obtain⟨h1,h2⟩:=Xb9.1 ha
       exact gone a h1 fun e2=>by rw[(Zac _ _).2 e2]at h2;cases h2
      ·simp only
       split
       ·rename_i hl
        exact Xac (Za7 Ask.k _ _) hl
       ·exact g
  exact Zkp c ws S rs _ key.1 key.2.1 key.2.2
theorem Zkz{α:Type}(key:α->T){x:α}:∀ {l:List α} {z:α},z∈l->key z≠key x->z∈putBy key x l
 | y::ys,z,h,k=>by
  unfold putBy
  split
  ·rcases Xl.1 h with rfl|h
   ·exact Xi
   ·exact Xh _ (Zkz key h k)
  ·split
   ·rename_i q
    rcases Xl.1 h with rfl|h
    ·exact absurd ((Zac _ _).1 q) k
    ·exact Xh _ h
   ·exact Xh _ h
theorem Zgq:∀ (ws:List Want) (rs:List Run),∀ r∈rs,r∈ws.foldl addRun rs
 | [],_,r,h=>h
 | w::ws,rs,r,h=>Zgq ws _ r (by
  unfold addRun
  split
  ·exact h
  ·rename_i q
   refine Zkz Run.k h fun e=>q ?_
   rw[Xas]
   exact .inr (Xcp.2 ⟨r,h,(Zac _ _).2 e⟩))
theorem Ze4:∀ (ws:List Want) (rs:List Run),rs.length<=20->Asc Run.k rs->(ws.foldl addRun rs).length<=20/\Asc Run.k (ws.foldl addRun rs)
 | [],_,h,k=>⟨h,k⟩
 | w::ws,rs,h,k=>Ze4 ws (addRun rs w) (Ze3 h) (Ze2 k)
structure Fit(m:Mate):Prop where
 wants:m.wants.length<=10
 runs:m.runs.length<=20
 asc:Asc Run.k m.runs
 asks:Asc Ask.k m.asks
 gives:m.gives.length<=40
 holds:HoldsM m
theorem Fit.nasks{m:Mate}(h:Fit m):m.asks.length<=33:=by
 obtain⟨S,h1,h2⟩:=h.holds
 exact few h.asks h2 h1 h.runs
theorem Fit.roomy{m:Mate}(h:Fit m):Roomy m:=Zsm h.runs h.asks h.holds
theorem Fit.small{m:Mate}(h:Fit m):m.small:=⟨by have:=h.wants;omega,by have:=h.runs;omega,by have:=h.nasks;omega,by have:=h.gives;omega⟩
theorem Zgf{n:Nat}{m:Mate}{rate:Int}(hh:HoldsN n m):HoldsN n (tickOn m rate):=hh.runs rfl fun r h=>⟨wd (m.clock+rate) r,Xap.2 ⟨r,h,rfl⟩,by rw[Zmr]⟩
theorem ValidIs.tick{m:Mate}{rate:Int}(hv:ValidIs m)(hh:HoldsM m):Fit (tickOn m rate):=⟨hv.wants,by simp[tickOn];exact hv.runs,Zrp hv.runsAsc,hv.asks,hv.ngives,Zgf hh⟩
theorem Zi0{n:Nat}{m:Mate}(h:HoldsN n m)(k:Asc Ask.k m.asks)(g:m.gives.length<=40):HoldsN n (mLives m)/\Asc Ask.k (mLives m).asks/\(mLives m).gives.length<=40:=by
 obtain⟨S,hn,hS⟩:=h
 obtain⟨h2,h3,h5⟩:=Zkp m.clock m.wants S m.runs ⟨[],m.asks,m.gives⟩ (fun a ha=>(hS a ha).imp_right .inr) k g
 exact⟨⟨S,hn,fun a ha=>(h2 a ha).imp_right fun ⟨x,k1,k2⟩=>⟨x,Zgq _ _ x k1,k2⟩⟩,h3,h5⟩
theorem Zdn{m:Mate}(h:Fit m):Fit (mLives m):=by
 have h1:=Zd8 m.clock m.wants m.runs ⟨[],m.asks,m.gives⟩
 obtain⟨h2,h3,h5⟩:=Zi0 h.holds h.asks h.gives
 have h4:=Zc1 h.asc
 have r:=h.runs
 obtain⟨a1,a2⟩:=Ze4 m.wants (livesOf m).runs (by unfold livesOf;simp only[Xb7]at h1;omega) h4
 exact⟨h.wants,a1,a2,h3,h5,h2⟩
theorem Ze6(m:Mate):∀ (rs:List Run) (s:List Ask×List Parcel),(rs.foldl (askStep m) s).1.length<=s.1.length+rs.length/\(rs.foldl (askStep m) s).2.length<=s.2.length+rs.length/\((∀ p∈s.2,p.wants=[])->∀ p∈(rs.foldl (askStep m) s).2,p.wants=[])
 | [],s=>⟨Xo _,Xo _,fun h=>h⟩
 | r::rs,s=>by
  have h1:(askStep m s r).1.length<=s.1.length+1/\(askStep m s r).2.length<=s.2.length+1/\((∀ p∈s.2,p.wants=[])->∀ p∈(askStep m s r).2,p.wants=[]):=by
   unfold askStep
   split
   ·split
    ·refine⟨Za7 Ask.k _ _,by simp,fun h p hp=>?_⟩
     rcases Xg.1 hp with hp|hp
     ·exact h p hp
     ·rw[Xn.1 hp];rfl
    ·exact⟨Xca _,Xca _,fun h=>h⟩
   ·exact⟨Xca _,Xca _,fun h=>h⟩
  obtain⟨h2,h3,h4⟩:=Ze6 m rs (askStep m s r)
  simp only[Xbl,Xaa]
  exact⟨by omega,by omega,fun h=>h4 (h1.2.2 h)⟩
def head234(m:Mate)(out:List Parcel)(i:Nat):St :=
 hd [(4,.ptr 0 0 0),(6,.ref 1),(7,.ptr 2 0 0),(8,.int .i64 i)] [.box zeroM,.arr 7 (out.map (Parcel.c .own)),.box [.str m.name,.bool m.up,.int .i64 m.clock,.bool m.known,.int .i64 m.seen,.ref 3,.ref 4,.ref 5,.ref 6],.arr 7 (m.wants.map Want.c),.arr 11 (m.runs.map Run.c),.arr 4 (m.asks.map Ask.c),.arr 4 (m.gives.map Ask.c)] 0
def tl234:CCode:=(jR [xd 82 6,xe 83 7 0,xc 84 83,xe 85 7 4,xc 86 85,uy 87 6 84 2 86,qy 88 87,qd 89 7 96 82 88,xd 6 89] [4,6,7]
 (jR [xf 90 7 9,xt 91 120 90,xd 92 6,xg 4 91 9,xd 5 92] [4,5]
 .ret))
theorem c234_cut:c234=⟨93,[.cell 4 9 true,.tmp 5],
 (jR [yi 2 0,uh 4,ye 5 7] [1,2,4]
 (jR [⟨some 10,.bslice 7 [.int .i64 0,.str ⟨#[]⟩,.int .i64 0,.sl .own 7 [],.str ⟨#[]⟩,.str ⟨#[]⟩,.int .i64 0] 0 [],none⟩,xd 6 10] [1,2,4,6]
 (.seq (jR [xf 11 2 9,xt 12 29 11,yb 13 12] [1,2,4,6,13]
 (.cond (.tmp 13)
  (jR [⟨some 14,.build [.str ⟨#[]⟩,.bool false,.int .i64 0,.bool false,.int .i64 0,.sl .own 7 [],.sl .own 11 [],.sl .own 4 [],.sl .own 4 []] [],none⟩,xd 15 6,xg 4 14 9,xd 5 15] [4,5]
  .ret)
  .skip))
 (jR [xf 16 2 9,xt 17 120 16,uh 7,xg 7 17 9] [1,4,6,7]
 (.seq (jR [xd 18 1,yv 19 102 18 1 4,yb 20 19] [1,4,6,7,20]
 (.cond (.tmp 20)
  (jR [xf 21 7 9,xd 22 6,xg 4 21 9,xd 5 22] [4,5]
  .ret)
  .skip))
 (.seq (jR [xe 23 7 2,xc 24 23,xd 25 1,yo 26 24 25,yu 27 26 1000000] [1,4,6,7,27]
 (.cond (.tmp 27)
  (jR [xf 28 7 9,⟨some 29,.call 32 [false,false] [.tmp 28,.const (.bool true)],none⟩,xg 7 29 9] [4,6,7]
  (jR [xe 30 7 2,yt 30 1000000] [4,6,7]
  (jR [xf 31 7 9,xd 32 6,xg 4 31 9,xd 5 32] [4,5]
  .ret)))
  .skip))
 (jR [xe 33 7 2,xc 34 33,xd 35 1,yo 36 34 35,xe 37 7 2,xg 37 36 1] [4,6,7]
 (jR [xe 38 7 6,xc 39 38,xe 40 7 2,xc 41 40,xz 42 20 39 41,xe 43 7 6,xg 43 42 1] [4,6,7]
 (.seq (jR [xe 44 7 1,xc 45 44,yb 46 45] [4,6,7,46]
 (.cond (.tmp 46)
  (jR [xf 47 7 9,xd 48 6,xg 4 47 9,xd 5 48] [4,5]
  .ret)
  .skip))
 (.seq (jR [xe 49 7 3,xc 50 49] [4,7,50]
 (.cond (.tmp 50)
  (.region [xf 51 7 9,wc 52 238 51,xg 7 52 9] [4,7])
  .skip))
 (jR [xf 54 7 9,wc 55 237 54,xd 53 55,qg 56 53 0,qg 57 53 1,xg 7 56 9,xd 6 57] [4,6,7]
 (.seq (jR [x8 8] [4,6,7,8]
 (.block 0
  (.loop [4,6,7,8] c234b0)))
 tl234))))))))))))⟩:=rfl
theorem Zsp(m:Mate)(hm:m.small)(out:List Parcel)(ho:out.length<=1000)(hg:m.gives.length<=1000)(s:St)(hs:s.norm [4,6,7,8]=head234 m out 0) :
  fin [.cell 4 9 true,.tmp 5] 0 (X F [.code (.loop [4,6,7,8] c234b0),.blk 0,.code tl234] (.normal,s))=some (.tup [.agg (m.c .own),.sl .own 7 ((out++m.gives.map (backP m.name)++[hereP m]).map (Parcel.c .own))],[]):=by
 obtain⟨R,hR⟩:∃ R,R=(out++m.gives.map (backP m.name)++[hereP m]).map (Parcel.c .own):=⟨_,rfl⟩
 rw[<- hR]
 refine (Zaa m.gives (fun i (acc:List Parcel)=>head234 m acc i) (fun i acc=>acc=out++(m.gives.take i).map (backP m.name)) (fun _ _ _=>_) (fun acc Y hacc=>?_) (fun i a r acc Y ha hi hr hacc hY=>?_) out hs (by simp) ?_).trans rfl
 ·rw[Xbg]at hacc
  rw[<- hacc]at hR
  have w120:=law120 m hm
  simp only[Mate.c]at w120
  have hal:acc.length<=2000:=by rw[hacc];simp;omega
  have c1:(acc.length+1)*96<=140737488355328:=by omega
  have c2:acc.length+1<=140737488355328:=by omega
  simp[head234,c234b0,tl234,w120,zeroM,takeRows,c1,c2,hR,hereP]
 ·have hw:IntKind.i64.wrap ((i:Int)+1)=(i:Int)+1:=i64w (by omega) (by omega)
  obtain⟨_,hga⟩:=Xa.1 ha
  have hiI:(i:Int)<m.gives.length:=by omega
  have hal:acc.length<=2000:=by rw[hacc];simp;omega
  have c1:(acc.length+1)*96<=140737488355328:=by omega
  have c2:acc.length+1<=140737488355328:=by omega
  simp[head234,c234b0,hi,hiI,hga,zeroM,takeRows,c1,c2]
  refine hY (acc++[backP m.name a]) _ ?_ ?_
  ·rw[hacc,Xax,ha]
   simp
  ·simp[head234,zeroM,hw,backP]
 ·unfold big;omega
theorem law234(m:Mate)(rate:Int)(hm:m.small)(hh:HoldsM m)(_:I64 rate):F 234 [.agg (m.c .bor),.int .i64 rate] []=some (.tup [.agg ((mateTick m rate).1.c .own),.sl .own 7 ((mateTick m rate).2.map (Parcel.c .own))],[]):=by
 refine Zae fn234 rfl ?_
 have w1:=law29 m hm
 have w2:=law120 m hm
 simp only[Mate.c]at w1 w2
 unfold mateTick
 cases q1:mateValid m
 ·simp[c234_cut,w1,q1,Mate.zero]
 rw[q1]at w1
 have hv:=Zh4 q1
 obtain⟨hc0,hc1⟩:=hv.clock
 cases q2:inR rate 1 4
 ·simp[c234_cut,w1,w2,q2]
 have q2':=q2
 simp only[inR,Xc,Xj]at q2'
 have hw:IntKind.i64.wrap (m.clock+rate)=m.clock+rate:=i64w (by omega) (by omega)
 by_cases q3:1000000<m.clock+rate
 ·have w3:=law32 m true hm
  simp only[Mate.c]at w3
  simp[c234_cut,w1,w2,w3,q2,hw,q3]
 have w4:=law20 m.runs (m.clock+rate) hm.runs
 have hfit:Fit (tickOn m rate):=hv.tick hh
 have hsane:∀ r∈(tickOn m rate).runs,Sane r:=fun r hr=>by
  obtain⟨r',h1,rfl⟩:=Xap.1 hr
  exact Zqd (hv.sane r' h1)
 cases q4:m.up
 ·rw[q4]at w1 w2
  simp[c234_cut,w1,w2,w4,q2,hw,q3,q4,tickOn]
 rw[q4]at w1 w2
 have fin234:∀ (x:Mate),Fit x->∀ st,st.norm [4,6,7,8]=head234 (mAsks x) (asksOf x).2 0->fin [.cell 4 9 true,.tmp 5] 0 (X F [.code (.loop [4,6,7,8] c234b0),.blk 0,.code tl234] (.normal,st))=some (.tup [.agg ((mAsks x).c .own),.sl .own 7 ((tickOut x).map (Parcel.c .own))],[]):=fun x hx st hst=>by
  obtain⟨g1,g2,_⟩:=Ze6 x x.runs (x.asks,[])
  have h1:=hx.runs
  have h2:=hx.nasks
  have h3:=hx.gives
  have h4:=hx.wants
  have hs:(mAsks x).small:=⟨by simp[mAsks];omega,by simp[mAsks];omega,by simp only[mAsks,asksOf];simp only at g1;omega,by simp[mAsks];omega⟩
  exact Zsp (mAsks x) hs (asksOf x).2 (by simp only[asksOf];simp only[Xb7]at g2;omega) (by simp[mAsks];omega) st hst
 obtain⟨y,hy⟩:∃ y,y=tickOn m rate:=⟨_,rfl⟩
 have y1:y.name=m.name:=by rw[hy];rfl
 have y2:y.up=true:=by rw[hy];exact q4
 have y3:y.clock=m.clock+rate:=by rw[hy];rfl
 have y4:y.known=m.known:=by rw[hy];rfl
 have y5:y.seen=m.seen:=by rw[hy];rfl
 have y6:y.wants=m.wants:=by rw[hy];rfl
 have y7:m.runs.map (wd (m.clock+rate))=y.runs:=by rw[hy];rfl
 have y8:y.asks=m.asks:=by rw[hy];rfl
 have y9:y.gives=m.gives:=by rw[hy];rfl
 rw[y7]at w4
 rw[<- hy]at hfit hsane ⊢
 clear hy
 cases q5:m.known
 ·rw[q5]at w1 w2 y4
  have hk:tickRuns y=y:=by unfold tickRuns;rw[y4];rfl
  rw[hk]
  obtain⟨_,e1,f,rfl⟩:=law237 y hfit.small (by have:=hfit.wants;omega) hfit.runs hfit.roomy (by have:=hfit.gives;omega)
  have key:=fin234 y hfit
  simp only[Mate.refs,Mate.arrs,Mate.c,mAsks,y1,y2,y3,y4,y5,y6,y8,y9]at e1
  simp only[Mate.c,mAsks,y1,y2,y3,y4,y5,y6,y8,y9]at key
  cases f<;>simp[c234_cut,w1,w2,w4,q2,hw,q3,q4,q5,e1,AO.isArr,mAsks,y1,y2,y3,y4,y5,y6,y8,y9]<;>refine key _ ?_<;>simp[head234,mAsks,y1,y2,y3,y4,y5,y6,y8,y9,zeroM]
 ·rw[q5]at w1 w2 y4
  have hk:tickRuns y=mLives y:=by unfold tickRuns;rw[y4];rfl
  rw[hk]
  have hfit2:=Zdn hfit
  obtain⟨_,e1,f,rfl⟩:=law238 y hfit.small (by have:=hfit.wants;omega) hfit.runs hfit.asc hsane (by have:=hfit.nasks;omega) hfit.gives
  obtain⟨_,e2,f2,rfl⟩:=law237 (mLives y) hfit2.small (by have:=hfit2.wants;omega) hfit2.runs hfit2.roomy (by have:=hfit2.gives;omega)
  have key:=fin234 (mLives y) hfit2
  obtain⟨x,hx⟩:∃ x:Mate,x=mLives y:=⟨_,rfl⟩
  have x1:x.name=m.name:=by rw[hx];exact y1
  have x2:x.up=true:=by rw[hx];exact y2
  have x3:x.clock=m.clock+rate:=by rw[hx];exact y3
  have x4:x.known=true:=by rw[hx];exact y4
  have x5:x.seen=m.seen:=by rw[hx];exact y5
  have x6:x.wants=m.wants:=by rw[hx];exact y6
  rw[<- hx]at e1 e2 key ⊢
  clear hx
  simp only[Mate.refs,Mate.arrs,Mate.c,mAsks,x1,x2,x3,x4,x5,x6]at e2
  simp only[Mate.refs,Mate.arrs,Mate.c,x1,x2,x3,x4,x5,x6,y1,y2,y3,y4,y5,y6,y8,y9]at e1
  simp only[Mate.c,mAsks,x1,x2,x3,x4,x5,x6]at key
  cases f<;>cases f2<;>simp[c234_cut,w1,w2,w4,q2,hw,q3,q4,q5,e1,e2,AO.isArr,mAsks,x1,x2,x3,x4,x5,x6]<;>refine key _ ?_<;>simp[head234,mAsks,x1,x2,x3,x4,x5,x6,zeroM]
theorem HoldsN.more{n:Nat}{m x:Mate}(h:HoldsN n m)(ha:x.asks=m.asks)(hr:∀ r∈m.runs,r∈x.runs):HoldsN (n+1) x:=HoldsN.up (h.runs ha fun r k=>⟨r,hr r k,rfl⟩) (Xca _)
theorem HoldsN.same{n:Nat}{m x:Mate}(h:HoldsN n m)(ha:x.asks=m.asks)(hr:x.runs=m.runs):HoldsN (n+1) x:=h.more ha fun r k=>by rw[hr];exact k
theorem HoldsN.setRun{n k:Nat}{m:Mate}{r r':Run}(h:HoldsN n m)(hk:m.runs[k]?=some r):HoldsN (n+1) { m with runs:=m.runs.set k r' }:=by
 obtain⟨S,h1,h2⟩:=h
 refine⟨r.want.hold::S,by simpa using h1,fun a ha=>?_⟩
 rcases h2 a ha with h3|⟨x,h3,h4⟩
 ·refine .inl ?_
  simp only[Xl]at h3 ⊢
  exact h3.imp_right .inr
 ·obtain⟨i,hi⟩:=Xak h3
  by_cases hik:k=i
  ·subst hik
   rw[hk]at hi
   obtain rfl:=Xf hi
   exact .inl (by rw[h4];simp)
  ·exact .inr ⟨x,Xe (i:=i) (by rw[List.getElem?_set_ne hik];exact hi),h4⟩
theorem HoldsN.ask{n:Nat}{m:Mate}(h:HoldsN n m)(a:Ask):HoldsN (n+1) { m with asks:=m.asks++[a] }:=by
 obtain⟨S,h1,h2⟩:=h
 refine⟨a.hold::S,by simpa using h1,fun b hb=>?_⟩
 rcases Xg.1 hb with hb|hb
 ·refine (h2 b hb).imp_left fun h3=>?_
  simp only[Xl]at h3 ⊢
  exact h3.imp_right .inr
 ·rw[Xn.1 hb];exact .inl (by simp)
theorem law155{K:Nat}(bs:List Int)(p:Int)(m:Mate)(hb:Code bs)(h0:0<=p)(hp:p<=900000000)(hm:m.tameN K)(hclk : -10000000<=m.clock/\m.clock<=10000000)(hK:K<=100:=by omega):Ends (F 155 [.ptr 0 0 0,.agg (m.c .bor)] [rdBox bs p]) (Drew bs p 20 fun x=>∃ m':Mate,x=.agg (m'.c .own)/\(∀ n,HoldsN n m->HoldsN (n+1) m')/\m'.tameN (K+10)):=by
 have w0:=law120 m (hm.small (by omega))
 have hl:=hm.nruns
 have hl2:=hm.nasks
 have hl3:=hm.ngives
 obtain⟨a1,a2,a3⟩:=law89 bs p m.runs.length hb h0 (by omega) (by omega)
 obtain⟨b1,b2,b3⟩:=law89 bs (p+1) 12 hb (by omega) (by omega) (by omega)
 rw[show p+1+1=p+2 by omega]at b1
 have hu:=hm.up (show K<=K+10 by omega)
 obtain⟨t1,t2,t3,t4,t5,t6,t7,t8,t9,t10,t11⟩:=hu
 simp only[rdBox]at a1 b1
 simp only[Mate.c]at w0
 refine Zce fn155 rfl ?_
 by_cases k0:pickV bs (p+1) 12=0
 ·obtain⟨c1,c2,c3⟩:=law89 bs (p+2) 2 hb (by omega) (by omega) (by omega)
  have c4:=c3 (by omega)
  simp only[rdBox]at c1
  simp[c155,rdBox,w0,a1,b1,k0,c1,c2,c4]
  exact⟨_,p+2+1,rfl,by omega,by omega,{ m with name:=selT [⟨#[]⟩,⟨#[120,32,121]⟩] (pickV bs (p+2) 2) },by simp,fun _ h=>h.same rfl rfl,Zmk (by simp;decide) _,t2,t3,t4,t5,t6,t7,t8,t9,t10,t11⟩
 by_cases k1:pickV bs (p+1) 12=1
 ·simp[c155,rdBox,w0,a1,b1,k0,k1]
  exact⟨_,p+2,rfl,by omega,by omega,{ m with up:=!m.up },by simp,fun _ h=>h.same rfl rfl,t1,t2,t3,t4,t5,t6,t7,t8,t9,t10,t11⟩
 by_cases k2:pickV bs (p+1) 12=2
 ·obtain⟨c1,c2,c3⟩:=law89 bs (p+2) 4 hb (by omega) (by omega) (by omega)
  have c4:=c3 (by omega)
  obtain⟨t2a,t2b⟩:=hm.clock
  have u1:IntKind.i64.wrap (m.clock+9)=m.clock+9:=i64w (by omega) (by omega)
  simp only[rdBox]at c1
  simp[c155,rdBox,w0,a1,b1,k0,k1,k2,c1,c2,c4,u1]
  exact⟨_,p+2+1,rfl,by omega,by omega,{ m with clock:=selI [-1,0,m.clock+9,1000001] (pickV bs (p+2) 4) },by simp,fun _ h=>h.same rfl rfl,t1,Za0 (by simp[tame];omega) _,t3,t4,t5,t6,t7,t8,t9,t10,t11⟩
 by_cases k3:pickV bs (p+1) 12=3
 ·simp[c155,rdBox,w0,a1,b1,k0,k1,k2,k3]
  exact⟨_,p+2,rfl,by omega,by omega,{ m with known:=!m.known },by simp,fun _ h=>h.same rfl rfl,t1,t2,t3,t4,t5,t6,t7,t8,t9,t10,t11⟩
 by_cases k4:pickV bs (p+1) 12=4
 ·obtain⟨c1,c2,c3⟩:=law89 bs (p+2) 3 hb (by omega) (by omega) (by omega)
  have c4:=c3 (by omega)
  simp only[rdBox]at c1
  simp[c155,rdBox,w0,a1,b1,k0,k1,k2,k3,k4,c1,c2,c4]
  exact⟨_,p+2+1,rfl,by omega,by omega,{ m with seen:=selI [-1,1000000,1000001] (pickV bs (p+2) 3) },by simp,fun _ h=>h.same rfl rfl,t1,t2,Za0 (by simp[tame]) _,t4,t5,t6,t7,t8,t9,t10,t11⟩
 by_cases k5:pickV bs (p+1) 12=5
 ·rcases hW:m.wants with _|⟨w,ws⟩
  ·rw[hW]at w0
   simp only[Xt]at w0
   simp[c155,rdBox,w0,a1,b1,k0,k1,k2,k3,k4,k5,hW]
   exact⟨_,p+2,rfl,by omega,by omega,m,by simp[hW],fun _ h=>h.same rfl rfl,t1,t2,t3,t4,t5,t6,t7,t8,t9,t10,t11⟩
  ·rw[hW]at t4 t5 w0
   simp only[Xx,Want.c]at w0
   obtain⟨w',p',c1,c2,c3,c4⟩:=law144 bs (p+2) w hb (by omega) (by omega) (t5 w Xi)
   simp only[rdBox,Want.c]at c1
   simp[c155,rdBox,w0,a1,b1,k0,k1,k2,k3,k4,k5,c1,hW]
   refine⟨_,p',rfl,by omega,by omega,{ m with wants:=w'::ws },by simp,fun _ h=>h.same rfl rfl,t1,t2,t3,by simpa using t4,fun x hx=>?_,t6,t7,t8,t9,t10,t11⟩
   rcases Xl.1 hx with rfl|hx
   ·exact c4
   ·exact t5 x (Xh _ hx)
 by_cases k6:pickV bs (p+1) 12=6
 ·by_cases hR:0<m.runs.length
  ·have hRI:(0:Int)<m.runs.length:=by omega
   have a4:=a3 (by omega)
   obtain⟨k,hk,hk2⟩:=Za1 (n:=m.runs.length) a2 a4
   rw[hk]at a1
   obtain⟨r,hrr⟩:∃ r,m.runs[k]?=some r:=⟨_,Xd hk2⟩
   obtain⟨_,hg⟩:=Xa.1 hrr
   obtain⟨r',p',c1,c2,c3,c4⟩:=law88 bs (p+2) r hb (by omega) (by omega) (t7 r (Xe hrr))
   simp only[rdBox,Run.c]at c1
   simp[c155,rdBox,w0,a1,b1,k0,k1,k2,k3,k4,k5,k6,hR,hRI,hk2,hg,c1]
   refine⟨_,p',rfl,by omega,by omega,{ m with runs:=m.runs.set k r' },by simp[Xa3],fun _ h=>h.setRun hrr,t1,t2,t3,t4,t5,by simpa using t6,fun x hx=>?_,t8,t9,t10,t11⟩
   rcases Xat hx with h|h
   ·exact t7 x h
   ·rw[h];exact c4
  ·have hRI:¬ (0:Int)<m.runs.length:=by omega
   simp[c155,rdBox,w0,a1,b1,k0,k1,k2,k3,k4,k5,k6,hR,hRI]
   exact⟨_,p+2,rfl,by omega,by omega,m,by simp,fun _ h=>h.same rfl rfl,t1,t2,t3,t4,t5,t6,t7,t8,t9,t10,t11⟩
 by_cases k7:pickV bs (p+1) 12=7
 ·by_cases hR:0<m.runs.length
  ·have hRI:(0:Int)<m.runs.length:=by omega
   have a4:=a3 (by omega)
   obtain⟨k,hk,hk2⟩:=Za1 (n:=m.runs.length) a2 a4
   rw[hk]at a1
   obtain⟨r,hrr⟩:∃ r,m.runs[k]?=some r:=⟨_,Xd hk2⟩
   obtain⟨_,hg⟩:=Xa.1 hrr
   obtain⟨r',p',c1,c2,c3,c4⟩:=law88 bs (p+2) r hb (by omega) (by omega) (t7 r (Xe hrr))
   simp only[rdBox,Run.c]at c1
   simp[c155,rdBox,w0,a1,b1,k0,k1,k2,k3,k4,k5,k6,k7,hR,hRI,hk2,hg,c1]
   refine⟨_,p',rfl,by omega,by omega,{ m with runs:=m.runs.set k r' },by simp[Xa3],fun _ h=>h.setRun hrr,t1,t2,t3,t4,t5,by simpa using t6,fun x hx=>?_,t8,t9,t10,t11⟩
   rcases Xat hx with h|h
   ·exact t7 x h
   ·rw[h];exact c4
  ·have hRI:¬ (0:Int)<m.runs.length:=by omega
   simp[c155,rdBox,w0,a1,b1,k0,k1,k2,k3,k4,k5,k6,k7,hR,hRI]
   exact⟨_,p+2,rfl,by omega,by omega,m,by simp,fun _ h=>h.same rfl rfl,t1,t2,t3,t4,t5,t6,t7,t8,t9,t10,t11⟩
 by_cases k8:pickV bs (p+1) 12=8
 ·obtain⟨c1,c2,c3⟩:=law89 bs (p+2) 4 hb (by omega) (by omega) (by omega)
  obtain⟨d1,d2,d3⟩:=law89 bs (p+3) 2 hb (by omega) (by omega) (by omega)
  obtain⟨e1,e2,e3⟩:=law89 bs (p+4) 3 hb (by omega) (by omega) (by omega)
  obtain⟨f1,f2,f3⟩:=law89 bs (p+5) 70 hb (by omega) (by omega) (by omega)
  rw[show p+2+1=p+3 by omega]at c1
  rw[show p+3+1=p+4 by omega]at d1
  rw[show p+4+1=p+5 by omega]at e1
  rw[show p+5+1=p+6 by omega]at f1
  have c4:=c3 (by omega)
  have d4:=d3 (by omega)
  have e4:=e3 (by omega)
  have f4:=f3 (by omega)
  have b3':(m.asks.length+1)*48<=140737488355328:=by omega
  have b4':m.asks.length+1<=140737488355328:=by omega
  simp only[rdBox]at c1 d1 e1 f1
  simp[c155,rdBox,w0,a1,b1,k0,k1,k2,k3,k4,k5,k6,k7,k8,c1,c2,c4,d1,d2,d4,e1,f1,takeRows,rowsPlain,b3',b4']
  refine⟨_,p+6,rfl,by omega,by omega,{ m with asks:=m.asks++[⟨selT [⟨#[]⟩,⟨#[118,111,108]⟩,⟨#[122,122]⟩,⟨#[42]⟩] (pickV bs (p+2) 4),selT [⟨#[]⟩,⟨#[99]⟩] (pickV bs (p+3) 2),pickV bs (p+4) 3,pickV bs (p+5) 70⟩] },by simp,fun _ h=>h.ask _,t1,t2,t3,t4,t5,t6,t7,by simp;omega,Zju t9 ⟨Zgo (fun x hx=>Zd6 (by simp at hx ⊢;rcases hx with rfl|rfl|rfl|rfl<;>simp)) _,Zmk (by simp;decide) _,Zcp e2 e4 (by omega),Zcp f2 f4 (by omega)⟩,t10,t11⟩
 by_cases k9:pickV bs (p+1) 12=9
 ·obtain⟨c1,c2,c3⟩:=law89 bs (p+2) 3 hb (by omega) (by omega) (by omega)
  obtain⟨d1,d2,d3⟩:=law89 bs (p+3) 3 hb (by omega) (by omega) (by omega)
  obtain⟨e1,e2,e3⟩:=law89 bs (p+4) 5 hb (by omega) (by omega) (by omega)
  rw[show p+2+1=p+3 by omega]at c1
  rw[show p+3+1=p+4 by omega]at d1
  rw[show p+4+1=p+5 by omega]at e1
  have c4:=c3 (by omega)
  have d4:=d3 (by omega)
  have e4:=e3 (by omega)
  have u1:IntKind.i64.wrap (pickV bs (p+3) 3-1)=pickV bs (p+3) 3-1:=i64w (by omega) (by omega)
  have b3':(m.gives.length+1)*48<=140737488355328:=by omega
  have b4':m.gives.length+1<=140737488355328:=by omega
  simp only[rdBox]at c1 d1 e1
  simp[c155,rdBox,w0,a1,b1,k0,k1,k2,k3,k4,k5,k6,k7,k8,k9,c1,c2,c4,d1,u1,e1,takeRows,rowsPlain,b3',b4']
  refine⟨_,p+5,rfl,by omega,by omega,{ m with gives:=m.gives++[⟨selT [⟨#[]⟩,⟨#[118,111,108]⟩,⟨#[122,122]⟩] (pickV bs (p+2) 3),⟨#[99]⟩,pickV bs (p+3) 3-1,pickV bs (p+4) 5⟩] },by simp,fun _ h=>h.same rfl rfl,t1,t2,t3,t4,t5,t6,t7,t8,t9,by simp;omega,Zju t11 ⟨Zgo (fun x hx=>Zd6 (by simp at hx ⊢;rcases hx with rfl|rfl|rfl<;>simp)) _,(show (⟨#[99]⟩:T).size<=1000 by decide),⟨by simp only;omega,by simp only;omega⟩,Zcp e2 e4 (by omega)⟩⟩
 by_cases k10:pickV bs (p+1) 12=10
 ·obtain⟨c1,c2,c3⟩:=law89 bs (p+2) 6 hb (by omega) (by omega) (by omega)
  rw[show p+2+1=p+3 by omega]at c1
  have c4:=c3 (by omega)
  have u1:IntKind.i64.wrap (1+pickV bs (p+2) 6)=1+pickV bs (p+2) 6:=i64w (by omega) (by omega)
  have b3':(m.runs.length+1)*104<=140737488355328:=by omega
  have b4':m.runs.length+1<=140737488355328:=by omega
  simp only[rdBox]at c1
  simp[c155,rdBox,w0,a1,b1,k0,k1,k2,k3,k4,k5,k6,k7,k8,k9,k10,c1,u1,takeRows,rowsPlain,b3',b4']
  refine⟨_,p+3,rfl,by omega,by omega,{ m with runs:=m.runs++[⟨⟨⟨#[122,122]⟩,1,⟨#[]⟩,0,0,0,0⟩,1+pickV bs (p+2) 6,0,0,0⟩] },by simp,fun _ h=>h.more rfl fun r k=>Xg.2 (.inl k),t1,t2,t3,t4,t5,by simp;omega,Zju t7 ⟨⟨(show (⟨#[122,122]⟩:T).size<=1000 by decide),by simp[tame],Zd6 (by simp),by simp[tame],by simp[tame],by simp[tame],by simp[tame]⟩,⟨by simp only;omega,by simp only;omega⟩,by simp[tame],by simp[tame],by simp[tame]⟩,t8,t9,t10,t11⟩
 ·have b3':m.asks.length*48<=140737488355328:=by omega
  have b4':m.asks.length<=140737488355328:=by omega
  have hpl:rowsPlain (m.asks.map Ask.c)=true:=by simp[rowsPlain]
  simp[c155,rdBox,w0,a1,b1,k0,k1,k2,k3,k4,k5,k6,k7,k8,k9,k10,takeRows,hpl,b3',b4']
  exact⟨_,p+2,rfl,by omega,by omega,{ m with gives:=m.asks },by simp,fun _ h=>h.same rfl rfl,t1,t2,t3,t4,t5,t6,t7,t8,t9,t8,t9⟩
structure Drawn(m:Mate):Prop where
 small:m.small
 nasks:m.asks.length<=20
 ngives:m.gives.length<=20
theorem law222(s p:T)(h:s.size<=9223372036854775807):F 222 [.str s,.str p] []=some (.bool (Lib.hasSuffix s.data.toList p.data.toList),[]) :=
 Zel rfl (by rw[show P.prim=prim from rfl];simp[prim,primGo,h])
theorem law220(s sep:T)(h:s.size<4294967281)(h2:1<=sep.size):F 220 [.str s,.str sep] []=some (.sl .own 1 ((splitT s sep).map fun x=>[.str x]),[]) :=
 Zel rfl (by rw[show P.prim=prim from rfl];simp[prim,primGo,h,h2])
theorem Zh2:∀ xs:List T,textsOf (xs.map fun x=>[.str x])=some xs
 | []=>rfl
 | x::xs=>by simp[textsOf,Zh2 xs]
theorem law230(xs:List T)(sep:T)(h:xs.length<=140737488355328)(h2:(joinT xs sep).size<=140737488355328):F 230 [.sl .bor 1 (xs.map fun x=>[.str x]),.str sep] []=some (.str (joinT xs sep),[]) :=
 Zel rfl (by rw[show P.prim=prim from rfl];simp[prim,primGo,Zh2,h,h2])
theorem law231(n:Int)(h : -9223372036854775808<=n)(h2:n<=9223372036854775807):F 231 [.int .i64 n] []=some (.str (itoaT n),[]) :=
 Zel rfl (by rw[show P.prim=prim from rfl];simp[prim,primGo,h,h2])
theorem law221(s:T)(h:s.size<=281474976710656):F 221 [.str s] []=some (.int .i64 (numT s),[]) :=
 Zel rfl (by rw[show P.prim=prim from rfl];simp[prim,primGo,h])
/-! ### Sizes -/
theorem Zb8{a b:T}(h:a.data.toList=b.data.toList):a=b:=by
 cases a;cases b;congr;exact Xcs h
theorem Zax(a b:T):(a++b).data.toList=a.data.toList++b.data.toList:=by
 simp
end Go.Proofs.YtgdfelbedghhnaaGreatDoor
