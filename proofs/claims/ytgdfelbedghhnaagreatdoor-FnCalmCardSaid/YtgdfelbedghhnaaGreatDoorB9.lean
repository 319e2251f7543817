/- Draws: any world; a world and an event; a world, rounds and rates. And what follows from it, part by part, as the proof needs it. -/
import Derived.Test.YtgdfelbedghhnaaGreatDoorB8
import Derived.Test.YtgdfelbedghhnaaGreatDoorB6
import Derived.Test.YtgdfelbedghhnaaGreatDoorB7
import Derived.Test.YtgdfelbedghhnaaGreatDoorB5
import Derived.Test.YtgdfelbedghhnaaGreatDoorB1
import Derived.Lib.SplitLaws
namespace Go.Proofs.YtgdfelbedghhnaaGreatDoor
open Go
set_option linter.unusedSimpArgs false
set_option maxRecDepth 100000
def runZ:Run:=⟨⟨⟨#[122,122]⟩,1,⟨#[118,111,108]⟩,0,0,0,0⟩,4,0,0,100000⟩
def addZ(m:Mate):Mate:={ m with runs:=m.runs++[runZ] }
theorem Zrz{m:Mate}(h1:m.runs.length<=20)(h2:m.small)(h3:HoldsN 8 m):(addZ m).small/\HoldsM (addZ m) :=
 ⟨⟨h2.wants,by simp[addZ];omega,h2.asks,h2.gives⟩,(h3.more (x:=addZ m) rfl fun r k=>Xg.2 (.inl k)).up (by decide)⟩
set_option maxHeartbeats 0 in
theorem law327(bs:List Int)(p:Int)(hb:Code bs)(h0:0<=p)(hp:p<=600000000):Ends (F 327 [.ptr 0 0 0] [rdBox bs p]) (Drew bs p 5000 fun x=>∃ w:Wld,IsWld w x/\DrawnW w):=by
 refine Zce fn327 rfl ?_
 obtain⟨_,c1,x,q,rfl,c2,c3,w,rfl,hw⟩:=law326 bs p hb h0 (by omega)
 obtain⟨a1,a2,a3⟩:=law89 bs q 16 hb (by omega) (by omega) (by omega)
 have ee:(fun s:T=>[AV.str s])=rowT:=rfl
 simp only[rdBox]at c1 a1
 simp only[Wld.c,ee]at c1
 by_cases k0:pickV bs q 16=0
 ·obtain⟨_,d1,x,q2,rfl,d2,d3,w2,⟨b,ml,mt,rfl⟩,hd⟩:=law328 bs (q+1) w hb (by omega) (by omega) hw
  simp only[rdBox,Wld.cm,Wld.c,ee]at d1
  cases b<;>simp[c327,rdBox,c1,a1,k0,d1,ee,mdB]
  ·exact⟨_,q2,rfl,by omega,by omega,w2,⟨false,ml,mt,by simp[ee,mdB]⟩,hd⟩
  ·exact⟨_,q2,rfl,by omega,by omega,w2,⟨true,ml,mt,by simp[ee,mdB]⟩,hd⟩
 have plain:Drew bs p 5000 (fun x=>∃ w:Wld,IsWld w x/\DrawnW w) (.agg (w.c .own .own),[some (rdBox bs (q+1))]):=⟨_,q+1,rfl,by omega,by omega,w,⟨false,.own,.own,by simp[mdB]⟩,hw.drawnW⟩
 simp only[rdBox,Wld.c,ee]at plain
 by_cases k1:pickV bs q 16=1
 ·have hmm:∀ m∈w.mates,m.small/\HoldsM m:=fun m hm=>⟨(hw.drawn m hm).small,(hw.hm m hm).up (by decide)⟩
  have hz:∀ m∈w.mates,(addZ m).small/\HoldsM (addZ m):=fun m hm=>Zrz (hw.mates m hm).runsN (hw.drawn m hm).small (hw.hm m hm)
  have hrn:∀ m∈w.mates,m.runs.length<=20:=fun m hm=>(hw.mates m hm).runsN
  have hfour:=hw.four
  have hfl:=hw.fl
  rcases hM:w.mates with _|⟨m0,_|⟨m1,ms⟩⟩<;>rw[hM]at c1 plain hmm hz hrn hfour
  ·simp only[Xt]at c1 plain
   simp[c327,rdBox,c1,a1,k0,k1,ee]
   exact plain
  ·simp only[Xx,Xt,Mate.c]at c1 plain
   simp[c327,rdBox,c1,a1,k0,k1,ee]
   exact plain
  ·obtain⟨b1,b2,b3⟩:=law89 bs (q+1) 2 hb (by omega) (by omega) (by omega)
   have r0:=hrn m0 (by simp)
   have r1:=hrn m1 (by simp)
   have e1:(m0.runs.length+1)*104<=140737488355328:=by omega
   have e2:m0.runs.length+1<=140737488355328:=by omega
   have e3:(m1.runs.length+1)*104<=140737488355328:=by omega
   have e4:m1.runs.length+1<=140737488355328:=by omega
   have hI:(1:Int)<(ms.length:Int)+1+1:=by omega
   rw[show q+1+1=q+2 by omega]at b1
   simp only[rdBox]at b1
   simp only[Xx,Mate.c]at c1
   have hms:ms.length<=900:=by simp only[Xaa]at hfour;omega
   by_cases k2:pickV bs (q+1) 2=0
   ·simp[c327,rdBox,c1,a1,b1,k0,k1,k2,ee,hI,takeRows,rowsPlain,e1,e2,e3,e4,AO.isArr]
    refine⟨_,q+2,rfl,by omega,by omega,{ w with mates:=addZ m0::addZ m1::ms },⟨false,.own,.own,by simp[ee,mdB,addZ,runZ]⟩,Zcy hw.sm (show (addZ m0::addZ m1::ms).length<=1000 by simp;omega) (show w.flight.length<=1000 by omega) (fun m hm=>?_) hw.texts⟩
    rcases Xl.1 hm with rfl|hm
    ·exact hz m0 (by simp)
    rcases Xl.1 hm with rfl|hm
    ·exact hz m1 (by simp)
    ·exact hmm m (by simp[hm])
   ·simp[c327,rdBox,c1,a1,b1,k0,k1,k2,ee,hI,takeRows,rowsPlain,e1,e2,e3,e4,AO.isArr]
    refine⟨_,q+2,rfl,by omega,by omega,{ w with mates:=addZ m0::m1::ms },⟨false,.own,.own,by simp[ee,mdB,addZ,runZ]⟩,Zcy hw.sm (show (addZ m0::m1::ms).length<=1000 by simp;omega) (show w.flight.length<=1000 by omega) (fun m hm=>?_) hw.texts⟩
    rcases Xl.1 hm with rfl|hm
    ·exact hz m0 (by simp)
    ·exact hmm m (Xh _ hm)
 ·simp[c327,rdBox,c1,a1,k0,k1,ee]
  exact plain
theorem law321(bs:List Int)(hl:bs.length<=1000000000)(h:∀ b∈bs,0<=b/\b<=255):∃ (w:Wld) (x:AV) (n:Int) (rs:List Int),F 321 [.sl .imm 1 (bs.map rowB)] []=some (.tup [x,.int .i64 n,.sl .own 1 (rs.map rowI)],[])/\IsWld w x/\DrawnW w/\-1<=n/\n<=18:=by
 have hb:=Code.take h
 have w0:=law91 bs hl
 generalize bs.take 2000=cs at hb w0
 obtain⟨_,c1,x1,p1,rfl,c2,c3,w,⟨b,ml,mt,rfl⟩,hd⟩:=law327 cs 0 hb (by omega) (by omega)
 obtain⟨a1,a2,a3⟩:=law89 cs p1 20 hb (by omega) (by omega) (by omega)
 obtain⟨rs,f1,f2⟩:=law324 cs (p1+1) hb (by omega) (by omega)
 have a4:=a3 (by omega)
 have ee:(fun s:T=>[AV.str s])=rowT:=rfl
 simp only[rdBox,Wld.cm,ee]at w0 c1 a1 f1
 have u1:IntKind.i64.wrap (pickV cs p1 20-1)=pickV cs p1 20-1:=i64w (by omega) (by omega)
 refine⟨w,.agg (w.cm b ml mt),pickV cs p1 20-1,rs,Zae fn321 rfl ?_,⟨b,ml,mt,rfl⟩,hd,by omega,by omega⟩
 cases b<;>simp[c321,w0,c1,a1,f1,u1,ee,mdB,AO.isArr]
structure Event.fair(e:Event):Prop where
 a : -1<=e.a/\e.a<=13
 nwants:e.wants.length<=4
theorem law320(bs:List Int)(hl:bs.length<=1000000000)(h:∀ b∈bs,0<=b/\b<=255):∃ (w:Wld) (x:AV) (e:Event),F 320 [.sl .imm 1 (bs.map rowB)] []=some (.tup [x,.agg (e.c .own)],[])/\IsWld w x/\DrawnW w/\e.fair:=by
 have hb:=Code.take h
 have w0:=law91 bs hl
 generalize bs.take 2000=cs at hb w0
 obtain⟨_,c1,x1,p1,rfl,c2,c3,w,⟨b,ml,mt,rfl⟩,hd⟩:=law327 cs 0 hb (by omega) (by omega)
 obtain⟨_,d1,x2,p2,rfl,d2,d3,e,rfl,he⟩:=law325 cs p1 (w.cc .bor ml mt) hb (by omega) (by omega)
 obtain⟨a1,a2,a3⟩:=law89 cs p2 16 hb (by omega) (by omega) (by omega)
 obtain⟨b1,b2,b3⟩:=law89 cs (p2+1) 10 hb (by omega) (by omega) (by omega)
 obtain⟨g1,g2,g3⟩:=law89 cs (p2+1) 2 hb (by omega) (by omega) (by omega)
 have b4:=b3 (by omega)
 have g4:=g3 (by omega)
 have ee:(fun s:T=>[AV.str s])=rowT:=rfl
 have ei:(fun n:Int=>[AV.int .i64 n])=rowI:=rfl
 have ha:=he.a
 have hn:=he.nwants
 simp only[rdBox,Wld.cm,Wld.cc,Event.c,ee,ei]at w0 c1 a1 b1 g1 d1
 have u1:IntKind.i64.wrap (pickV cs (p2+1) 10-1)=pickV cs (p2+1) 10-1:=i64w (by omega) (by omega)
 by_cases k0:pickV cs p2 16=0
 ·refine⟨w,.agg (w.cm b ml mt),{ e with kind:=pickV cs (p2+1) 10-1 },Zae fn320 rfl ?_,⟨b,ml,mt,rfl⟩,hd,⟨by simp only;omega,hn⟩⟩
  cases b<;>simp[c320,w0,c1,d1,a1,b1,u1,k0,ee,ei,mdB,AV.soft,AO.isArr]
 by_cases k1:pickV cs p2 16=1
 ·refine⟨w,.agg (w.cm b ml mt),{ e with a:=selI [-1,9] (pickV cs (p2+1) 2) },Zae fn320 rfl ?_,⟨b,ml,mt,rfl⟩,hd,⟨?_,hn⟩⟩
  ·cases b<;>simp[c320,w0,c1,d1,a1,g1,g2,g4,k0,k1,ee,ei,mdB,AV.soft,AO.isArr]
  ·obtain⟨k,hk,hk2⟩:=Za1 (n:=2) g2 g4
   rw[hk]
   rcases k with _|_|k
   ·show -1<=selI [-1,9] ((0:Nat):Int)/\selI [-1,9] ((0:Nat):Int)<=13;decide
   ·show -1<=selI [-1,9] ((1:Nat):Int)/\selI [-1,9] ((1:Nat):Int)<=13;decide
   ·omega
 ·refine⟨w,.agg (w.cm b ml mt),e,Zae fn320 rfl ?_,⟨b,ml,mt,rfl⟩,hd,⟨by omega,hn⟩⟩
  cases b<;>simp[c320,w0,c1,d1,a1,k0,k1,ee,ei,mdB,AV.soft,AO.isArr]
def kn206b:CCode:=(.region [xc 174 7,xe 175 2 6,xg 175 174 1] [2,4,6])
def fin206:CCode:=(jR [xd 328 6,xe 329 2 0,xc 330 329,xe 331 2 4,xc 332 331,uy 333 6 330 2 332,qy 334 333,qd 335 7 96 328 334,xd 6 335] [2,4,6]
 (jR [xf 336 2 9,xd 337 6,xg 4 336 9,xd 5 337] [4,5]
 .ret))
def tb206:CCode:=.seq (jR [xe 308 2 8,xc 309 308,xv 310 309,x8 311] [2,4,6,309,310,311]
 (.block 9
  (.loop [2,4,6,309,310,311] c206b4))) fin206
def ta206:CCode:=.seq (jR [xe 176 2 6,xc 177 176,xv 178 177,x8 179] [2,4,6,177,178,179]
 (.block 6
  (.loop [2,4,6,177,178,179] c206b3))) tb206
def kn206:CCode:=(.seq (jR [xe 132 2 5,xc 133 132,xv 134 133,x8 135] [2,4,6,7,133,134,135]
  (.block 2
   (.loop [2,4,6,7,133,134,135] c206b2)))
  (.region [xc 174 7,xe 175 2 6,xg 175 174 1] [2,4,6]))
theorem c206_cut:c206=⟨338,[.cell 4 9 true,.tmp 5],
 (jR [yi 2 0,uh 4,ye 5 7] [1,2,4]
 (.seq (jR [xf 29 2 9,xt 30 28 29,yb 31 30] [1,2,4,31]
 (.cond (.tmp 31)
  (jR [⟨some 32,.build [.str ⟨#[]⟩,.bool false,.int .i64 0,.bool false,.int .i64 0,.sl .own 7 [],.sl .own 11 [],.sl .own 4 [],.sl .own 4 []] [],none⟩,xg 4 32 9,ye 5 7] [4,5]
  .ret)
  .skip))
 (jR [xf 33 2 9,xt 34 117 33,xg 2 34 9] [1,2,4]
 (.seq (jR [xd 35 1,qc 36 35 1,xd 37 36,ya 38 1 37,yr 39 38 4 37,xj 40 37 39] [1,2,4,40]
 (.cond (.tmp 40)
  (jR [xf 41 2 9,xg 4 41 9,ye 5 7] [4,5]
  .ret)
  .skip))
 (.seq (jR [xe 42 2 2,xc 43 42,xd 44 1,yo 45 43 44,yu 46 45 1000000] [1,2,4,46]
 (.cond (.tmp 46)
  (jR [xf 47 2 9,⟨some 48,.call 36 [false,false] [.tmp 47,.const (.bool true)],none⟩,xg 2 48 9] [2,4]
  (jR [xe 49 2 2,yt 49 1000000] [2,4]
  (jR [xf 50 2 9,xg 4 50 9,ye 5 7] [4,5]
  .ret)))
  .skip))
 (jR [xe 51 2 2,xc 52 51,xd 53 1,yo 54 52 53,xe 55 2 2,xg 55 54 1] [2,4]
 (jR [xe 56 2 6,xc 57 56,xe 58 2 2,xc 59 58,xz 60 18 57 59,xe 61 2 6,xg 61 60 1] [2,4]
 (.seq (jR [xe 62 2 1,xc 63 62,yb 64 63] [2,4,64]
 (.cond (.tmp 64)
  (jR [xf 65 2 9,xg 4 65 9,ye 5 7] [4,5]
  .ret)
  .skip))
 (jR [ye 6 7] [2,4,6]
 (.seq (jR [xe 66 2 3,xc 67 66] [2,4,6,67]
 (.cond (.tmp 67)
  (jR [⟨some 7,.alloc [.sl .own 11 []],none⟩] [2,4,6,7]
  (.seq (jR [xe 68 2 6,xc 69 68,xv 70 69,x8 71] [2,4,6,7,69,70,71]
  (.block 0
   (.loop [2,4,6,7,69,70,71] c206b0)))
  (.seq (jR [xe 132 2 5,xc 133 132,xv 134 133,x8 135] [2,4,6,7,133,134,135]
  (.block 2
   (.loop [2,4,6,7,133,134,135] c206b2)))
  (.region [xc 174 7,xe 175 2 6,xg 175 174 1] [2,4,6]))))
  .skip)) ta206))))))))))⟩:=rfl
def oN(o:Bool):Nat:=if o then 1 else 0
def outV(o:Bool):AV:=if o then .ref 2 else .sl .own 7 []
def outH(o:Bool)(out:List Parcel):List AO:=if o then [.arr 7 (out.map (Parcel.c .own))] else []
def runV(n:Nat)(f:Bool):AV:=if f then .ref n else .sl .own 11 []
def runH(f:Bool)(rs:List Run):List AO:=if f then [.arr 11 (rs.map Run.c)] else []
def head206d(m:Mate)(f o:Bool)(out:List Parcel)(i:Nat):St :=
 hd [(2,.ptr 0 0 0),(4,.ptr 1 0 0),(6,outV o),(309,.ref (2+oN o)),(310,.int .i64 m.gives.length),(311,.int .i64 i)]
  ([.box [.str m.name,.bool m.up,.int .i64 m.clock,.bool m.known,.int .i64 m.seen,.ref (3+oN o),runV (4+oN o) f,.ref (4+oN o+oN f),.ref (2+oN o)],.box zeroM]++(outH o out++([.arr 4 (m.gives.map Ask.c),.arr 7 (m.wants.map Want.c)]++(runH f m.runs++[.arr 4 (m.asks.map Ask.c)])))) 0
def resT(m:Mate)(out:List Parcel):AV×List (Option AO):=(.tup [.agg (m.c .own),.sl .own 7 (out.map (Parcel.c .own))],[])
theorem Zs6(m:Mate)(f:Bool)(hf:f=false->m.runs=[])(o:Bool)(out:List Parcel)(ho:o=false->out=[])(hol:out.length<=1000)(hg:m.gives.length<=1000)(s:St)(hs:s.norm [2,4,6,309,310,311]=head206d m f o out 0) :
  fin [.cell 4 9 true,.tmp 5] 0 (X F [.code (.loop [2,4,6,309,310,311] c206b4),.blk 9,.code fin206] (.normal,s))=some (resT m (out++m.gives.map (backP m.name)++[hereP m])):=by
 obtain⟨R,hR⟩:∃ R,R=resT m (out++m.gives.map (backP m.name)++[hereP m]):=⟨_,rfl⟩
 rw[<- hR]
 refine (Zaa m.gives (fun i (z:Bool×List Parcel)=>head206d m f z.1 z.2 i) (fun i z=>z.2=out++(m.gives.take i).map (backP m.name)/\(z.1=false->z.2=[])) (fun _ _ _=>_) (fun z Y hz=>?_) (fun i a r z Y ha hi hr hz hY=>?_) (o,out) hs ⟨by simp,ho⟩ ?_).trans rfl
 ·obtain⟨o,acc⟩:=z
  obtain⟨hacc,ho⟩:=hz
  simp only at hacc ho ⊢
  rw[Xbg]at hacc
  rw[<- hacc]at hR
  have hal:acc.length<=2000:=by rw[hacc];simp;omega
  have c1:(acc.length+1)*96<=140737488355328:=by omega
  have c2:acc.length+1<=140737488355328:=by omega
  cases o
  ·have e:=ho rfl
   subst e
   cases f
   ·have e2:=hf rfl
    simp[head206d,outV,outH,runV,runH,oN,c206b4,fin206,zeroM,takeRows,hR,resT,hereP,e2]
   ·simp[head206d,outV,outH,runV,runH,oN,c206b4,fin206,zeroM,takeRows,hR,resT,hereP]
  ·cases f
   ·have e2:=hf rfl
    simp[head206d,outV,outH,runV,runH,oN,c206b4,fin206,zeroM,takeRows,hR,resT,hereP,c1,c2,e2]
   ·simp[head206d,outV,outH,runV,runH,oN,c206b4,fin206,zeroM,takeRows,hR,resT,hereP,c1,c2]
 ·obtain⟨o,acc⟩:=z
  obtain⟨hacc,ho⟩:=hz
  simp only at hacc ho ⊢
  have hw:IntKind.i64.wrap ((i:Int)+1)=(i:Int)+1:=i64w (by omega) (by omega)
  obtain⟨_,hga⟩:=Xa.1 ha
  have hiI:(i:Int)<m.gives.length:=by omega
  have hal:acc.length<=2000:=by rw[hacc];simp;omega
  have c1:(acc.length+1)*96<=140737488355328:=by omega
  have c2:acc.length+1<=140737488355328:=by omega
  have hnx:acc++[backP m.name a]=out++(m.gives.take (i+1)).map (backP m.name):=by
   rw[hacc,Xax,ha]
   simp
  cases o
  ·have e:=ho rfl
   cases f<;>simp[head206d,outV,outH,runV,runH,oN,c206b4,hi,hiI,hga,takeRows]<;>refine hY (true,acc++[backP m.name a]) _ ⟨hnx,fun h=>nomatch h⟩ ?_<;>simp[head206d,outV,outH,runV,runH,oN,zeroM,hw,backP,e]
  ·cases f<;>simp[head206d,outV,outH,runV,runH,oN,c206b4,hi,hiI,hga,takeRows,c1,c2]<;>refine hY (true,acc++[backP m.name a]) _ ⟨hnx,fun h=>nomatch h⟩ ?_<;>simp[head206d,outV,outH,runV,runH,oN,zeroM,hw,backP]
 ·unfold big;omega
def head206c(m:Mate)(f o:Bool)(out:List Parcel)(i:Nat):St :=
 hd [(2,.ptr 0 0 0),(4,.ptr 1 0 0),(6,outV o),(177,runV (2+oN o) f),(178,.int .i64 m.runs.length),(179,.int .i64 i)]
  ([.box [.str m.name,.bool m.up,.int .i64 m.clock,.bool m.known,.int .i64 m.seen,.ref (2+oN o+oN f),runV (2+oN o) f,.ref (3+oN o+oN f),.ref (4+oN o+oN f)],.box zeroM]++(outH o out++(runH f m.runs++[.arr 7 (m.wants.map Want.c),.arr 4 (m.asks.map Ask.c),.arr 4 (m.gives.map Ask.c)]))) 0
theorem Zlt{l:List Ask}(h:Asc Ask.k l){k:Nat}(hk:k<l.length):dropHold l l[k].hold=dropAt l k:=by
 have e:l=l.take k++l[k]::l.drop (k+1):=by rw[<- Xah hk,List.take_append_drop]
 generalize hx:l[k]=x at e
 rw[e]at h
 obtain⟨_,h2,h3⟩:=Xa5.1 h
 rw[Xad]at h2
 unfold dropHold dropAt
 have f1:(l.take k).filter (fun a=>!sEq a.hold x.hold)=l.take k:=by
  rw[Xcl]
  intro a ha
  rw[Zad (show a.hold≠x.hold from Zk3 (h3 a ha x Xi))];rfl
 have f2:(l.drop (k+1)).filter (fun a=>!sEq a.hold x.hold)=l.drop (k+1):=by
  rw[Xcl]
  intro a ha
  rw[Zad (show a.hold≠x.hold from Ne.symm (Zk3 (h2.1 a ha)))];rfl
 calc l.filter (fun a=>!sEq a.hold x.hold)=(l.take k++x::l.drop (k+1)).filter (fun a=>!sEq a.hold x.hold):=by rw[<- e]
  _=_:=by rw[List.filter_append,List.filter_cons,f1,f2];simp
theorem Zli{h:T}{l:List Ask}(e:askOf h l=none):Lacks Ask.k h l:=fun y hy k=>by
 unfold askOf at e
 exact Xbw.1 e y hy ((Zac _ _).2 k)
set_option maxHeartbeats 0 in
theorem Zlj(m:Mate)(f:Bool)(hf:f=false->m.runs=[])(hwl:m.wants.length<=1000)(hr:m.runs.length<=20)(hal:Roomy m)(hasc:Asc Ask.k m.asks)(hgl:m.gives.length<=100)(s:St)(hs:s.norm [2,4,6,177,178,179]=head206c m f false [] 0) :
  fin [.cell 4 9 true,.tmp 5] 0 (X F [.code (.loop [2,4,6,177,178,179] c206b3),.blk 6,.code tb206] (.normal,s))=some (resT (mAsks m) (tickOut m)):=by
 obtain⟨R,hR⟩:∃ R,R=resT (mAsks m) (tickOut m):=⟨_,rfl⟩
 rw[<- hR]
 refine (Zaz (σ:=Nat×Bool×List Ask×List Parcel) (fun z=>head206c { m with asks:=z.2.2.1 } f z.2.1 z.2.2.2 z.1) (fun z=>z.1<=m.runs.length/\z.2.2=(m.runs.take z.1).foldl (askStep m) (m.asks,[])/\(z.2.1=false->z.2.2.2=[])/\z.2.2.2.length<=z.1/\Asc Ask.k z.2.2.1) (fun z=>m.runs.length-z.1) (fun _=>_) (fun z Y hinv hY=>?_) (0,false,m.asks,[]) hs ⟨by omega,rfl,fun _=>rfl,by simp,hasc⟩ (by unfold big;simp only;omega)).trans rfl
 obtain⟨i,o,as',out⟩:=z
 obtain⟨g1,g2,g3,g5,g6⟩:=hinv
 simp only at g1 g2 g3 g5 g6 hY ⊢
 have g4:as'.length<=39:=by have:=hal i;rw[<- g2]at this;exact this
 by_cases hi:i<m.runs.length
 ·cases f
  ·rw[hf rfl]at hi;simp at hi
  have hiI:(i:Int)<m.runs.length:=by omega
  have hw:IntKind.i64.wrap ((i:Int)+1)=(i:Int)+1:=i64w (by omega) (by omega)
  obtain⟨r,hgr⟩:∃ r,m.runs[i]=r:=⟨_,rfl⟩
  have hri:m.runs[i]?=some r:=by rw[<- hgr];exact Xd hi
  have htk:m.runs.take (i+1)=m.runs.take i++[r]:=by rw[Xax,hri];rfl
  have hnx:(m.runs.take (i+1)).foldl (askStep m) (m.asks,[])=askStep m (as',out) r:=by rw[htk,Xci,<- g2];rfl
  have w182:=law182 m.wants r.want.copy (by unfold big;omega)
  have hc1:(out.length+1)*96<=140737488355328:=by omega
  have hc2:out.length+1<=140737488355328:=by omega
  have hah:asksHold m.wants m.gives r=((match findW m.wants r.want.copy with
   | some w=>eqWant w r.want
   | none=>false) && (!sEq r.want.hold ⟨#[]⟩ && (askOf r.want.hold m.gives).isNone)):=rfl
  have hno:asksHold m.wants m.gives r=false->askStep m (as',out) r=(as',out):=fun h=>by unfold askStep;rw[h];rfl
  cases q:sEq r.want.hold ⟨#[]⟩
  ·cases hfw:findW m.wants r.want.copy with
   | none =>
    rw[hfw]at w182 hah
    have hst:=hno (by rw[hah];rfl)
    simp[Want.zero]at w182
    cases o
    ·obtain rfl:=g3 rfl
     simp[head206c,outV,outH,runV,runH,oN,c206b3,hi,hiI,hgr,w182,q]
     refine hY (i+1,_,_,_) _ ⟨by simp only;omega,by rw[hnx,hst],g3,Xy g5,g6⟩ (by simp only;omega) ?_
     simp[head206c,outV,outH,runV,runH,oN,zeroM,hw]
    ·skip
     simp[head206c,outV,outH,runV,runH,oN,c206b3,hi,hiI,hgr,w182,q]
     refine hY (i+1,_,_,_) _ ⟨by simp only;omega,by rw[hnx,hst],g3,Xy g5,g6⟩ (by simp only;omega) ?_
     simp[head206c,outV,outH,runV,runH,oN,zeroM,hw]
   | some w =>
    rw[hfw]at w182 hah
    simp at w182
    simp only at hah
    cases heq:eqWant w r.want
    ·rw[heq]at hah
     have hst:=hno (by rw[hah];rfl)
     cases o
     ·obtain rfl:=g3 rfl
      simp[head206c,outV,outH,runV,runH,oN,c206b3,hi,hiI,hgr,w182,q,heq]
      refine hY (i+1,_,_,_) _ ⟨by simp only;omega,by rw[hnx,hst],g3,Xy g5,g6⟩ (by simp only;omega) ?_
      simp[head206c,outV,outH,runV,runH,oN,zeroM,hw]
     ·skip
      simp[head206c,outV,outH,runV,runH,oN,c206b3,hi,hiI,hgr,w182,q,heq]
      refine hY (i+1,_,_,_) _ ⟨by simp only;omega,by rw[hnx,hst],g3,Xy g5,g6⟩ (by simp only;omega) ?_
      simp[head206c,outV,outH,runV,runH,oN,zeroM,hw]
    ·rw[heq]at hah
     obtain rfl:=(Zfd _ _).1 heq
     have heqc:eqWant r.want r.want=true:=heq
     have w113g:=law113 m.gives r.want.hold (by omega)
     rcases Zdk m.gives r.want.hold with ⟨e,hgo⟩|⟨k,hkl,e,hgo,_⟩
     ·rw[e]at w113g
      have hyes:asksHold m.wants m.gives r=true:=by rw[hah,q,hgo];rfl
      have hyst:askStep m (as',out) r=match freshAsk m.clock r as' with
       | some a=>(putBy Ask.k a as',out++[asked m.name m.clock r])
       | none=>(as',out):=by unfold askStep;rw[hyes];rfl
      have w113a:=law113 as' r.want.hold (by omega)
      rcases Zdk as' r.want.hold with ⟨e2,hao⟩|⟨k,hkl,e2,hao,hkh⟩
      ·rw[e2]at w113a
       have hfr:freshAsk m.clock r as'=some ⟨r.want.hold,r.want.copy,m.clock,m.clock⟩:=by unfold freshAsk;rw[hao]
       have hst:=hyst
       rw[hfr]at hst
       simp only at hst
       have w219:=law219 as' ⟨r.want.hold,r.want.copy,m.clock,m.clock⟩ (by omega) g6 (Zli hao)
       have hlt:¬ (40:Int)<=as'.length:=by omega
       have hput:True:=trivial
       simp only[Ask.c]at w219
       cases o
       ·obtain rfl:=g3 rfl
        simp[head206c,outV,outH,runV,runH,oN,c206b3,hi,hiI,hgr,w182,heqc,q,w113g,w113a,hlt,w219,AO.isArr,takeRows,hc1,hc2]
        refine hY (i+1,true,putBy Ask.k ⟨r.want.hold,r.want.copy,m.clock,m.clock⟩ as',_++[asked m.name m.clock r]) _ ⟨by simp only;omega,by rw[hnx,hst],fun h=>(nomatch h),by simp<;>omega,Zar Ask.k g6⟩ (by simp only;omega) ?_
        simp[head206c,outV,outH,runV,runH,oN,zeroM,hw,asked,hput]
       ·skip
        simp[head206c,outV,outH,runV,runH,oN,c206b3,hi,hiI,hgr,w182,heqc,q,w113g,w113a,hlt,w219,AO.isArr,takeRows,hc1,hc2]
        refine hY (i+1,true,putBy Ask.k ⟨r.want.hold,r.want.copy,m.clock,m.clock⟩ as',_++[asked m.name m.clock r]) _ ⟨by simp only;omega,by rw[hnx,hst],fun h=>(nomatch h),by simp<;>omega,Zar Ask.k g6⟩ (by simp only;omega) ?_
        simp[head206c,outV,outH,runV,runH,oN,zeroM,hw,asked,hput]
      ·rw[e2]at w113a
       obtain⟨a,hak⟩:∃ a,as'[k]=a:=⟨_,rfl⟩
       rw[hak]at hao hkh
       have h0k:¬ (k:Int)<0:=by omega
       have hki:as'[k]?=some a:=by rw[<- hak];exact Xd hkl
       cases q2:sEq a.copy r.want.copy
       ·have hfr:freshAsk m.clock r as'=some ⟨r.want.hold,r.want.copy,m.clock,m.clock⟩:=by unfold freshAsk;rw[hao];simp only[q2];rfl
        have hst:=hyst
        rw[hfr]at hst
        simp only at hst
        have hput:putBy Ask.k ⟨r.want.hold,r.want.copy,m.clock,m.clock⟩ as'=as'.set k ⟨r.want.hold,r.want.copy,m.clock,m.clock⟩:=Zcr Ask.k g6 hki hkh
        cases o
        ·obtain rfl:=g3 rfl
         simp[head206c,outV,outH,runV,runH,oN,c206b3,hi,hiI,hgr,w182,heqc,q,w113g,w113a,hkl,hak,q2,h0k,takeRows,hc1,hc2]
         refine hY (i+1,true,putBy Ask.k ⟨r.want.hold,r.want.copy,m.clock,m.clock⟩ as',_++[asked m.name m.clock r]) _ ⟨by simp only;omega,by rw[hnx,hst],fun h=>(nomatch h),by simp<;>omega,Zar Ask.k g6⟩ (by simp only;omega) ?_
         simp[head206c,outV,outH,runV,runH,oN,zeroM,hw,asked,hput,Xa3]
        ·skip
         simp[head206c,outV,outH,runV,runH,oN,c206b3,hi,hiI,hgr,w182,heqc,q,w113g,w113a,hkl,hak,q2,h0k,takeRows,hc1,hc2]
         refine hY (i+1,true,putBy Ask.k ⟨r.want.hold,r.want.copy,m.clock,m.clock⟩ as',_++[asked m.name m.clock r]) _ ⟨by simp only;omega,by rw[hnx,hst],fun h=>(nomatch h),by simp<;>omega,Zar Ask.k g6⟩ (by simp only;omega) ?_
         simp[head206c,outV,outH,runV,runH,oN,zeroM,hw,asked,hput,Xa3]
       ·by_cases q3:m.clock<IntKind.i64.wrap (a.at_+6)
        ·have hfr:freshAsk m.clock r as'=none:=by unfold freshAsk;rw[hao];simp only[q2,q3,Xag]
         have hst:=hyst
         rw[hfr]at hst
         simp only at hst
         cases o
         ·obtain rfl:=g3 rfl
          simp[head206c,outV,outH,runV,runH,oN,c206b3,hi,hiI,hgr,w182,heqc,q,w113g,w113a,hkl,hak,q2,q3,h0k]
          refine hY (i+1,_,_,_) _ ⟨by simp only;omega,by rw[hnx,hst],g3,Xy g5,g6⟩ (by simp only;omega) ?_
          simp[head206c,outV,outH,runV,runH,oN,zeroM,hw]
         ·skip
          simp[head206c,outV,outH,runV,runH,oN,c206b3,hi,hiI,hgr,w182,heqc,q,w113g,w113a,hkl,hak,q2,q3,h0k]
          refine hY (i+1,_,_,_) _ ⟨by simp only;omega,by rw[hnx,hst],g3,Xy g5,g6⟩ (by simp only;omega) ?_
          simp[head206c,outV,outH,runV,runH,oN,zeroM,hw]
        ·have hfr:freshAsk m.clock r as'=some ⟨r.want.hold,r.want.copy,a.first,m.clock⟩:=by unfold freshAsk;rw[hao];simp only[q2,q3,Xag,Xaj]
         have hst:=hyst
         rw[hfr]at hst
         simp only at hst
         have hput:putBy Ask.k ⟨r.want.hold,r.want.copy,a.first,m.clock⟩ as'=as'.set k ⟨a.hold,a.copy,a.first,m.clock⟩:=by
          rw[Zcr (x:=⟨r.want.hold,r.want.copy,a.first,m.clock⟩) Ask.k g6 hki (show Ask.k a=r.want.hold from hkh),hkh,(Zac _ _).1 q2]
         cases o
         ·obtain rfl:=g3 rfl
          simp[head206c,outV,outH,runV,runH,oN,c206b3,hi,hiI,hgr,w182,heqc,q,w113g,w113a,hkl,hak,q2,q3,h0k,takeRows,hc1,hc2]
          refine hY (i+1,true,putBy Ask.k ⟨r.want.hold,r.want.copy,a.first,m.clock⟩ as',_++[asked m.name m.clock r]) _ ⟨by simp only;omega,by rw[hnx,hst],fun h=>(nomatch h),by simp<;>omega,Zar Ask.k g6⟩ (by simp only;omega) ?_
          simp[head206c,outV,outH,runV,runH,oN,zeroM,hw,asked,hput,Xa3]
         ·skip
          simp[head206c,outV,outH,runV,runH,oN,c206b3,hi,hiI,hgr,w182,heqc,q,w113g,w113a,hkl,hak,q2,q3,h0k,takeRows,hc1,hc2]
          refine hY (i+1,true,putBy Ask.k ⟨r.want.hold,r.want.copy,a.first,m.clock⟩ as',_++[asked m.name m.clock r]) _ ⟨by simp only;omega,by rw[hnx,hst],fun h=>(nomatch h),by simp<;>omega,Zar Ask.k g6⟩ (by simp only;omega) ?_
          simp[head206c,outV,outH,runV,runH,oN,zeroM,hw,asked,hput,Xa3]
     ·rw[e]at w113g
      have hst:=hno (by rw[hah,hgo];simp)
      cases o
      ·obtain rfl:=g3 rfl
       simp[head206c,outV,outH,runV,runH,oN,c206b3,hi,hiI,hgr,w182,heqc,q,w113g]
       refine hY (i+1,_,_,_) _ ⟨by simp only;omega,by rw[hnx,hst],g3,Xy g5,g6⟩ (by simp only;omega) ?_
       simp[head206c,outV,outH,runV,runH,oN,zeroM,hw]
      ·skip
       simp[head206c,outV,outH,runV,runH,oN,c206b3,hi,hiI,hgr,w182,heqc,q,w113g]
       refine hY (i+1,_,_,_) _ ⟨by simp only;omega,by rw[hnx,hst],g3,Xy g5,g6⟩ (by simp only;omega) ?_
       simp[head206c,outV,outH,runV,runH,oN,zeroM,hw]
  ·have hst:=hno (by rw[hah,q];simp)
   cases o
   ·obtain rfl:=g3 rfl
    simp[head206c,outV,outH,runV,runH,oN,c206b3,hi,hiI,hgr,w182,q]
    refine hY (i+1,_,_,_) _ ⟨by simp only;omega,by rw[hnx,hst],g3,Xy g5,g6⟩ (by simp only;omega) ?_
    simp[head206c,outV,outH,runV,runH,oN,zeroM,hw]
   ·skip
    simp[head206c,outV,outH,runV,runH,oN,c206b3,hi,hiI,hgr,w182,q]
    refine hY (i+1,_,_,_) _ ⟨by simp only;omega,by rw[hnx,hst],g3,Xy g5,g6⟩ (by simp only;omega) ?_
    simp[head206c,outV,outH,runV,runH,oN,zeroM,hw]
 ·obtain rfl:i=m.runs.length:=by omega
  rw[Xbg]at g2
  have hlv:asksOf m=(as',out):=g2.symm
  have hma:mAsks m={ m with asks:=as' }:=by unfold mAsks;rw[hlv]
  have key:=Zs6 { m with asks:=as' } f hf o out g3 (by omega) (by simp only;omega)
  have hR2:R=resT { m with asks:=as' } (out++m.gives.map (backP m.name)++[hereP m]):=by rw[hR,hma];unfold tickOut;rw[hlv]
  simp only at key
  rw[show hereP { m with asks:=as' }=hereP m from rfl,<- hR2]at key
  cases o
  ·obtain rfl:=g3 rfl
   cases f
   ·have e2:=hf rfl
    simp[head206c,outV,outH,runV,runH,oN,c206b3,tb206,e2]
    refine key _ ?_
    simp[head206d,outV,outH,runV,runH,oN,zeroM,e2]
   ·simp[head206c,outV,outH,runV,runH,oN,c206b3,tb206]
    refine key _ ?_
    simp[head206d,outV,outH,runV,runH,oN,zeroM]
  ·cases f
   ·have e2:=hf rfl
    simp[head206c,outV,outH,runV,runH,oN,c206b3,tb206,e2]
    refine key _ ?_
    simp[head206d,outV,outH,runV,runH,oN,zeroM,e2]
   ·simp[head206c,outV,outH,runV,runH,oN,c206b3,tb206]
    refine key _ ?_
    simp[head206d,outV,outH,runV,runH,oN,zeroM]
def head206a(m:Mate)(s:LV)(i:Nat):St :=
 hd [(2,.ptr 0 0 0),(4,.ptr 1 0 0),(6,.sl .own 7 []),(7,.ptr 2 0 0),(69,.ref 3),(70,.int .i64 m.runs.length),(71,.int .i64 i)]
  ([.box [.str m.name,.bool m.up,.int .i64 m.clock,.bool m.known,.int .i64 m.seen,.ref 4,.ref 3,.ref 5,.ref 6],.box zeroM,.box [ownVi 7 11 (s.runs.map Run.c)],.arr 11 (m.runs.map Run.c),.arr 7 (m.wants.map Want.c),.arr 4 (s.asks.map Ask.c),.arr 4 (s.gives.map Ask.c)]++ownH 11 (s.runs.map Run.c)) 0
def head206b(m:Mate)(as gv:List Ask)(rs:List Run)(i:Nat):St :=
 hd [(2,.ptr 0 0 0),(4,.ptr 1 0 0),(6,.sl .own 7 []),(7,.ptr 2 0 0),(133,.ref 3),(134,.int .i64 m.wants.length),(135,.int .i64 i)]
  ([.box [.str m.name,.bool m.up,.int .i64 m.clock,.bool m.known,.int .i64 m.seen,.ref 3,.ref 4,.ref 5,.ref 6],.box zeroM,.box [ownVi 7 11 (rs.map Run.c)],.arr 7 (m.wants.map Want.c),.arr 11 (m.runs.map Run.c),.arr 4 (as.map Ask.c),.arr 4 (gv.map Ask.c)]++ownH 11 (rs.map Run.c)) 0
def head206e(m:Mate)(as gv:List Ask)(rs:List Run)(w:Want)(i:Nat)(b:Bool)(j:Nat):St :=
 hd [(2,.ptr 0 0 0),(4,.ptr 1 0 0),(6,.sl .own 7 []),(7,.ptr 2 0 0),(17,.ptr 3 0 0),(18,.bool b),(133,.ref 4),(134,.int .i64 m.wants.length),(135,.int .i64 i),(139,.ref 5),(140,.int .i64 rs.length),(141,.int .i64 j)]
  [.box [.str m.name,.bool m.up,.int .i64 m.clock,.bool m.known,.int .i64 m.seen,.ref 4,.ref 6,.ref 7,.ref 8],.box zeroM,.box [.ref 5],.box w.c,.arr 7 (m.wants.map Want.c),.arr 11 (rs.map Run.c),.arr 11 (m.runs.map Run.c),.arr 4 (as.map Ask.c),.arr 4 (gv.map Ask.c)] 0
def head206f(m:Mate)(as gv:List Ask)(w:Want)(i:Nat):St :=
 hd [(2,.ptr 0 0 0),(4,.ptr 1 0 0),(6,.sl .own 7 []),(7,.ptr 2 0 0),(17,.ptr 3 0 0),(18,.bool false),(133,.ref 4),(134,.int .i64 m.wants.length),(135,.int .i64 i),(139,.sl .own 11 []),(140,.int .i64 0),(141,.int .i64 0)]
  [.box [.str m.name,.bool m.up,.int .i64 m.clock,.bool m.known,.int .i64 m.seen,.ref 4,.ref 5,.ref 6,.ref 7],.box zeroM,.box [.sl .own 11 []],.box w.c,.arr 7 (m.wants.map Want.c),.arr 11 (m.runs.map Run.c),.arr 4 (as.map Ask.c),.arr 4 (gv.map Ask.c)] 0
structure AG(as gv:List Ask):Prop where
 a:Asc Ask.k as
 g:Asc Ask.k gv
 apart:∀ a∈as,∀ b∈gv,a.hold≠b.hold
theorem AG.give{as gv:List Ask}(h:AG as gv){ask:Ask}(ha:ask∈as):AG (dropHold as ask.hold) (putBy Ask.k ask gv):=by
 refine⟨h.a.sublist Xcm,Zar Ask.k h.g,fun x hx y hy=>?_⟩
 obtain⟨h1,h2⟩:=Xb9.1 hx
 rcases Zay Ask.k hy with rfl|hy
 ·exact fun e=>by rw[(Zac _ _).2 e]at h2;cases h2
 ·exact h.apart x h1 y hy
theorem AG.drop{as gv:List Ask}(h:AG as gv)(x:T):AG (dropHold as x) gv:=⟨h.a.sublist Xcm,h.g,fun a ha=>h.apart a (Xb9.1 ha).1⟩
set_option maxHeartbeats 0 in
/-- What comes behind the first loop. -/
theorem Zrl(m:Mate)(hwl:m.wants.length<=10)(as gv:List Ask)(rs:List Run)(hr:rs.length<=20)(ha:Asc Run.k rs)(hal:Roomy (mLives m))(hgl:gv.length<=40)(hag:AG as gv)(hs:livesOf m=⟨rs,as,gv⟩)(st:St)(hst:st.norm [2,4,6,7,133,134,135]=head206b m as gv rs 0) :
  fin [.cell 4 9 true,.tmp 5] 0 (X F [.code (.loop [2,4,6,7,133,134,135] c206b2),.blk 2,.code kn206b,.code ta206] (.normal,st))=some (resT (mAsks (mLives m)) (tickOut (mLives m))):=by
 have hml:∀ xs,xs=m.wants.foldl addRun rs->mLives m={ m with runs:=xs,asks:=as,gives:=gv }:=fun xs h=>by unfold mLives;rw[hs,h]
 refine (Zaz (σ:=Nat×List Run) (fun z=>head206b m as gv z.2 z.1) (fun z=>z.1<=m.wants.length/\z.2=(m.wants.take z.1).foldl addRun rs/\z.2.length<=20/\Asc Run.k z.2) (fun z=>m.wants.length-z.1) (fun _=>_) (fun z Y hinv hY=>?_) (0,rs) hst ⟨by omega,rfl,hr,ha⟩ (by unfold big;simp only;omega)).trans rfl
 obtain⟨i,xs⟩:=z
 obtain⟨g1,g2,g3,g4⟩:=hinv
 simp only at g1 g2 g3 g4 hY ⊢
 by_cases hi:i<m.wants.length
 ·have hiI:(i:Int)<m.wants.length:=by omega
  have hw:IntKind.i64.wrap ((i:Int)+1)=(i:Int)+1:=i64w (by omega) (by omega)
  obtain⟨w,hgw⟩:∃ w,m.wants[i]=w:=⟨_,rfl⟩
  have hwi:m.wants[i]?=some w:=by rw[<- hgw];exact Xd hi
  have htk:m.wants.take (i+1)=m.wants.take i++[w]:=by rw[Xax,hwi];rfl
  have hnx:(m.wants.take (i+1)).foldl addRun rs=addRun xs w:=by rw[htk,Xci,<- g2];rfl
  have hadd:addRun xs w=if 20<=xs.length || xs.any (fun r=>sEq r.want.copy w.copy) then xs else putBy Run.k (newRun w) xs:=rfl
  have hal':=Ze3 (w:=w) g3
  have haa:=Ze2 (w:=w) g4
  have rp:rowsPlain [[AV.str w.copy,.int .i64 w.version,.str w.hold,.int .i64 w.pull,.int .i64 w.start,.int .i64 w.dies,.int .i64 w.grace,.int .i64 1,.int .i64 w.pull,.int .i64 0,.int .i64 0]]=true:=plain_run [newRun w]
  rcases xs with _|⟨x0,xs⟩
  ·have hput:addRun [] w=[newRun w]:=rfl
   have hsort:=Zbw Run.c Run.k 0 (fun _=>rfl) (List.Perm.refl [newRun w]) (Xbp _ _)
   simp only[Xx,Xt,Run.c,newRun]at hsort
   obtain⟨s1,s2⟩:=hsort
   simp[head206b,c206b2,hi,hiI,hgw]
   refine (Zaz (σ:=Unit) (fun _=>head206f m as gv w i) (fun _=>True) (fun _=>0) (fun _=>_) (fun z Y2 _ hY2=>?_) () ?_ trivial (by unfold big;omega)).trans rfl
   ·simp[head206f,c206b1,takeRows,rp,isRef,sortTab,s1,s2]
    refine hY (i+1,[newRun w]) _ ⟨by simp only;omega,by rw[hnx,hput],by simp,Xbp _ _⟩ (by simp only;omega) ?_
    simp[head206b,zeroM,hw,newRun]
   ·simp[head206f,zeroM]
  ·simp[head206b,c206b2,hi,hiI,hgw]
   refine (Zaa (x0::xs) (fun j (b:Bool)=>head206e m as gv (x0::xs) w i b j) (fun j b=>b=((x0::xs).take j).any (fun r=>sEq r.want.copy w.copy)) (fun _ _ _=>_) (fun b Y2 hb=>?_) (fun j r rr b Y2 hjr hj hrr hb hY2=>?_) false ?_ rfl ?_).trans rfl
   ·rw[Xbg]at hb
    rw[<- hb]at hadd
    have hlI:(xs.length:Int)+1=((x0::xs).length:Int):=by simp
    by_cases hskip:b=true\/20<=(x0::xs).length
    ·have hsk:addRun (x0::xs) w=x0::xs:=by
      rw[hadd]
      rcases hskip with h|h
      ·simp[h]
      ·rw[Xr (by simp only[Xas,Xj];exact .inl h)]
     have go:∀ st,st.norm [2,4,6,7,133,134,135]=head206b m as gv (x0::xs) (i+1)->fin [.cell 4 9 true,.tmp 5] 0 (Y st)=some (resT (mAsks (mLives m)) (tickOut (mLives m))):=fun st h=>hY (i+1,x0::xs) st ⟨by simp only;omega,by rw[hnx,hsk],g3,g4⟩ (by simp only;omega) h
     cases b
     ·have h20:¬ (xs.length:Int)+1<20:=by have h:=hskip.resolve_left (by simp);simp only[Xaa]at h;omega
      simp[head206e,c206b1,h20]
      refine go _ ?_
      simp[head206b,zeroM,hw]
     ·simp[head206e,c206b1]
      refine go _ ?_
      simp[head206b,zeroM,hw]
    ·obtain⟨hb0,h20⟩:=not_or.1 hskip
     have hb1:b=false:=by simpa using hb0
     subst hb1
     have hput:addRun (x0::xs) w=putBy Run.k (newRun w) (x0::xs):=by
      rw[hadd,Xu]
      simp only[Bool.or_false,Xj]
      exact h20
     have hlk:Lacks Run.k (Run.k (newRun w)) (x0::xs):=fun y hy e=>by
      have:=Xbo.1 hb.symm y hy
      exact this ((Zac _ _).2 e)
     have hsort:=Zbw Run.c Run.k 0 (fun _=>rfl) (Zbk Run.k (x:=newRun w) (l:=x0::xs) hlk) (Zar Run.k g4)
     rw[<- hput]at hsort
     have hne:∃ y0 ys,addRun (x0::xs) w=y0::ys:=by
      cases e:addRun (x0::xs) w with
      | nil=>have:=(Zbk Run.k (x:=newRun w) (l:=x0::xs) hlk).length_eq;rw[<- hput,e]at this;simp at this
      | cons y0 ys=>exact⟨y0,ys,rfl⟩
     obtain⟨y0,ys,hys⟩:=hne
     rw[hys]at hsort hnx hal' haa
     simp only[Xb8,Xx,Xt,Run.c,newRun,Xa1]at hsort
     obtain⟨s1,s2⟩:=hsort
     simp only[Xaa]at h20
     have h20I:(xs.length:Int)+1<20:=by omega
     have e1:(xs.length+1+1)*104<=140737488355328:=by omega
     have e2:xs.length+1+1<=140737488355328:=by omega
     have e3:xs.length+1+1<=1000000000:=by omega
     simp[head206e,c206b1,h20I,takeRows,rp,e1,e2,e3,isRef,sortTab,s1,s2]
     refine hY (i+1,y0::ys) _ ⟨by simp only;omega,by rw[hnx],hal',haa⟩ (by simp only;omega) ?_
     simp[head206b,zeroM,hw]
   ·have hwj:IntKind.i64.wrap ((j:Int)+1)=(j:Int)+1:=i64w (by omega) (by simp only[Xaa]at hj g3;omega)
    obtain⟨_,hgj⟩:=Xa.1 hjr
    have hjI:(j:Int)<(xs.length:Int)+1:=by simp only[Xaa]at hj;omega
    have hjN:j<xs.length+1:=by simpa using hj
    have htk2:(x0::xs).take (j+1)=(x0::xs).take j++[r]:=by rw[Xax,hjr];rfl
    have hrow:∀ h,(Run.c x0::xs.map Run.c)[j]'h=Run.c r:=fun h=>by
     have:(x0::xs).map Run.c=Run.c x0::xs.map Run.c:=rfl
     simp only[<- this,List.getElem_map,hgj]
    simp only[Run.c]at hrow
    have hb2:(b || sEq r.want.copy w.copy)=((x0::xs).take (j+1)).any (fun r=>sEq r.want.copy w.copy):=by rw[htk2,List.any_append,<- hb];simp
    cases b
    ·cases q:sEq r.want.copy w.copy
     ·simp[head206e,c206b1,hjI,hjN,hrow,q]
      refine hY2 false _ (by rw[<- hb2,q];rfl) ?_
      simp[head206e,zeroM,hwj]
     ·simp[head206e,c206b1,hjI,hjN,hrow,q]
      refine hY2 true _ (by rw[<- hb2,q];rfl) ?_
      simp[head206e,zeroM,hwj]
    ·simp[head206e,c206b1,hjI,hjN,hrow]
     refine hY2 true _ (by rw[<- hb2];rfl) ?_
     simp[head206e,zeroM,hwj]
   ·simp[head206e,zeroM]
   ·simp only[Xaa]at g3 ⊢;unfold big;omega
 ·obtain rfl:i=m.wants.length:=by omega
  rw[Xbg]at g2
  have hm2:=hml xs g2
  rw[hm2]at hal ⊢
  rcases xs with _|⟨x0,xs⟩
  ·have key:=Zlj { m with runs:=[],asks:=as,gives:=gv } false (fun _=>rfl) (by simp only;omega) (by simp) hal hag.a (by simp only;omega)
   simp[head206b,c206b2,kn206b,ta206]
   refine key _ ?_
   simp[head206c,outV,outH,runV,runH,oN,zeroM]
  ·have key:=Zlj { m with runs:=x0::xs,asks:=as,gives:=gv } true (fun h=>nomatch h) (by simp only;omega) g3 hal hag.a (by simp only;omega)
   simp[head206b,c206b2,kn206b,ta206]
   refine key _ ?_
   simp[head206c,outV,outH,runV,runH,oN,zeroM]
set_option maxHeartbeats 0 in
theorem Zq9(m:Mate)(hwl:m.wants.length<=10)(hr:m.runs.length<=20)(ha:Asc Run.k m.runs)(hsane:∀ r∈m.runs,Sane r)(hal:m.asks.length<=40)(hro:Roomy (mLives m))(hgl:m.gives.length<=40)(hag:AG m.asks m.gives)(st:St)(hst:st.norm [2,4,6,7,69,70,71]=head206a m ⟨[],m.asks,m.gives⟩ 0) :
  fin [.cell 4 9 true,.tmp 5] 0 (X F [.code (.loop [2,4,6,7,69,70,71] c206b0),.blk 0,.code kn206,.code ta206] (.normal,st))=some (resT (mAsks (mLives m)) (tickOut (mLives m))):=by
 refine (Zaz (σ:=Nat×LV) (fun z=>head206a m z.2 z.1) (fun z=>z.1<=m.runs.length/\z.2=(m.runs.take z.1).foldl (liveStep m.clock m.wants) ⟨[],m.asks,m.gives⟩/\z.2.runs.length<=z.1/\z.2.asks.length<=40/\z.2.gives.length<=40/\AG z.2.asks z.2.gives) (fun z=>m.runs.length-z.1) (fun _=>_) (fun z Y hinv hY=>?_) (0,⟨[],m.asks,m.gives⟩) hst ⟨by omega,rfl,by simp,hal,hgl,hag⟩ (by unfold big;simp only;omega)).trans rfl
 obtain⟨i,rs,as',gv⟩:=z
 obtain⟨g1,g2,g4,g5,g6,g7⟩:=hinv
 simp only at g1 g2 g4 g5 g6 g7 hY ⊢
 by_cases hi:i<m.runs.length
 ·have hiI:(i:Int)<m.runs.length:=by omega
  have hw:IntKind.i64.wrap ((i:Int)+1)=(i:Int)+1:=i64w (by omega) (by omega)
  obtain⟨r,hgr⟩:∃ r,m.runs[i]=r:=⟨_,rfl⟩
  have hri:m.runs[i]?=some r:=by rw[<- hgr];exact Xd hi
  have hsr:=hsane r (Xe hri)
  have htk:m.runs.take (i+1)=m.runs.take i++[r]:=by rw[Xax,hri];rfl
  have hnx:(m.runs.take (i+1)).foldl (liveStep m.clock m.wants) ⟨[],m.asks,m.gives⟩=liveStep m.clock m.wants ⟨rs,as',gv⟩ r:=by rw[htk,Xci,<- g2];rfl
  have w182:=law182 m.wants r.want.copy (by unfold big;omega)
  have hsl:=hsr.left
  have hsf:=hsr.falls
  have w14:=law14 r ((findW m.wants r.want.copy).getD .zero) (findW m.wants r.want.copy).isSome m.clock ⟨by omega,by omega⟩ ⟨by omega,by omega⟩
  have hlv:liveOf m.clock m.wants r=mateLive r ((findW m.wants r.want.copy).getD .zero) (findW m.wants r.want.copy).isSome m.clock:=rfl
  unfold liveRes at w14
  rw[<- hlv]at w14
  generalize (findW m.wants r.want.copy).getD .zero=w at w182 w14
  generalize (findW m.wants r.want.copy).isSome=b at w182 w14
  simp only[Want.c,Run.c]at w182 w14
  cases hlo:liveOf m.clock m.wants r with
  | some n =>
   have hst:liveStep m.clock m.wants ⟨rs,as',gv⟩ r=⟨rs++[n],as',gv⟩:=by unfold liveStep;rw[hlo]
   rw[hlo]at w14
   simp only[Xbb,Option.isSome_some]at w14
   have rp:rowsPlain [[AV.str n.want.copy,.int .i64 n.want.version,.str n.want.hold,.int .i64 n.want.pull,.int .i64 n.want.start,.int .i64 n.want.dies,.int .i64 n.want.grace,.int .i64 n.state,.int .i64 n.left,.int .i64 n.falls,.int .i64 n.til]]=true:=plain_run [n]
   have hc1:(rs.length+1)*104<=140737488355328:=by omega
   have hc2:rs.length+1<=140737488355328:=by omega
   rcases rs with _|⟨r0,rs⟩
   ·skip
    simp[head206a,c206b0,hi,hiI,hgr,w182,w14,takeRows,rp,hc1,hc2]
    refine hY (i+1,⟨[n],_,_⟩) _ ⟨by simp only;omega,(hnx.trans hst).symm,by simp at g4 ⊢<;>omega,g5,g6,g7⟩ (by simp only;omega) ?_
    simp[head206a,zeroM,hw]
   ·simp only[Xaa]at hc1 hc2
    simp[head206a,c206b0,hi,hiI,hgr,w182,w14,takeRows,rp,hc1,hc2]
    refine hY (i+1,⟨r0::rs++[n],_,_⟩) _ ⟨by simp only;omega,(hnx.trans hst).symm,by simp at g4 ⊢<;>omega,g5,g6,g7⟩ (by simp only;omega) ?_
    simp[head206a,zeroM,hw]
  | none =>
   have hst:liveStep m.clock m.wants ⟨rs,as',gv⟩ r=giveUp r.want.hold ⟨rs,as',gv⟩:=by unfold liveStep;rw[hlo]
   rw[hlo]at w14
   simp[Run.zero]at w14
   have w113:=law113 as' r.want.hold (by omega)
   have hdl:(dropHold as' r.want.hold).length<=as'.length:=Xcf _ _
   cases q:sEq r.want.hold ⟨#[]⟩
   ·rcases Zdk as' r.want.hold with ⟨e,hno⟩|⟨k,hkl,e,hso,hsh⟩
    ·have hgu:giveUp r.want.hold ⟨rs,as',gv⟩=⟨rs,as',gv⟩:=by unfold giveUp;rw[q,hno];rfl
     rw[e]at w113
     rcases rs with _|⟨r0,rs⟩
     ·skip
      simp[head206a,c206b0,hi,hiI,hgr,w182,w14,q,w113]
      refine hY (i+1,⟨_,_,_⟩) _ ⟨by simp only;omega,by rw[hnx,hst,hgu],Xy g4,g5,g6,g7⟩ (by simp only;omega) ?_
      simp[head206a,zeroM,hw]
     ·skip
      simp[head206a,c206b0,hi,hiI,hgr,w182,w14,q,w113]
      refine hY (i+1,⟨_,_,_⟩) _ ⟨by simp only;omega,by rw[hnx,hst,hgu],Xy g4,g5,g6,g7⟩ (by simp only;omega) ?_
      simp[head206a,zeroM,hw]
    ·rw[e]at w113
     have hgu:giveUp r.want.hold ⟨rs,as',gv⟩=⟨rs,dropHold as' r.want.hold,if gv.length<40 then putBy Ask.k as'[k] gv else gv⟩:=by unfold giveUp;rw[q,hso];rfl
     have w137:=law137 as' k hkl (by omega)
     have hds:=Zlt g7.a hkl
     rw[hsh]at hds
     have g7':=g7.give (Xbx hkl)
     have hlk:Lacks Ask.k as'[k].hold gv:=fun y hy=>Ne.symm (g7.apart _ (Xbx hkl) y hy)
     rw[hsh]at g7'
     obtain⟨ask,hask⟩:∃ ask,as'[k]=ask:=⟨_,rfl⟩
     rw[hask]at hgu g7' hlk
     by_cases hlt:gv.length<40
     ·have hltI:(gv.length:Int)<40:=by omega
      rw[Xr hlt]at hgu
      have w219:=law219 gv ask (by omega) g7.g hlk
      have hpl:=Za7 Ask.k ask gv
      simp only[Ask.c]at w219
      rcases rs with _|⟨r0,rs⟩
      ·skip
       simp[head206a,c206b0,hi,hiI,hgr,w182,w14,q,w113,hkl,hask,hlt,hltI,w137,w219,AO.isArr]
       refine hY (i+1,⟨_,dropHold as' r.want.hold,putBy Ask.k ask gv⟩) _ ⟨by simp only;omega,by rw[hnx,hst,hgu],Xy g4,Xac hdl g5,Xac hpl hlt,g7'⟩ (by simp only;omega) ?_
       simp[head206a,zeroM,hw,hds]
      ·skip
       simp[head206a,c206b0,hi,hiI,hgr,w182,w14,q,w113,hkl,hask,hlt,hltI,w137,w219,AO.isArr]
       refine hY (i+1,⟨_,dropHold as' r.want.hold,putBy Ask.k ask gv⟩) _ ⟨by simp only;omega,by rw[hnx,hst,hgu],Xy g4,Xac hdl g5,Xac hpl hlt,g7'⟩ (by simp only;omega) ?_
       simp[head206a,zeroM,hw,hds]
     ·have hltI:¬ (gv.length:Int)<40:=by omega
      rw[Xu hlt]at hgu
      have g8:=g7.drop r.want.hold
      rcases rs with _|⟨r0,rs⟩
      ·skip
       simp[head206a,c206b0,hi,hiI,hgr,w182,w14,q,w113,hkl,hask,hlt,hltI,w137,AO.isArr]
       refine hY (i+1,⟨_,dropHold as' r.want.hold,gv⟩) _ ⟨by simp only;omega,by rw[hnx,hst,hgu],Xy g4,Xac hdl g5,g6,g8⟩ (by simp only;omega) ?_
       simp[head206a,zeroM,hw,hds]
      ·skip
       simp[head206a,c206b0,hi,hiI,hgr,w182,w14,q,w113,hkl,hask,hlt,hltI,w137,AO.isArr]
       refine hY (i+1,⟨_,dropHold as' r.want.hold,gv⟩) _ ⟨by simp only;omega,by rw[hnx,hst,hgu],Xy g4,Xac hdl g5,g6,g8⟩ (by simp only;omega) ?_
       simp[head206a,zeroM,hw,hds]
   ·have hgu:giveUp r.want.hold ⟨rs,as',gv⟩=⟨rs,as',gv⟩:=by unfold giveUp;rw[q];rfl
    rcases rs with _|⟨r0,rs⟩
    ·skip
     simp[head206a,c206b0,hi,hiI,hgr,w182,w14,q,w113]
     refine hY (i+1,⟨_,_,_⟩) _ ⟨by simp only;omega,by rw[hnx,hst,hgu],Xy g4,g5,g6,g7⟩ (by simp only;omega) ?_
     simp[head206a,zeroM,hw]
    ·skip
     simp[head206a,c206b0,hi,hiI,hgr,w182,w14,q,w113]
     refine hY (i+1,⟨_,_,_⟩) _ ⟨by simp only;omega,by rw[hnx,hst,hgu],Xy g4,g5,g6,g7⟩ (by simp only;omega) ?_
     simp[head206a,zeroM,hw]
 ·obtain rfl:i=m.runs.length:=by omega
  rw[Xbg]at g2
  have hlv:livesOf m=⟨rs,as',gv⟩:=g2.symm
  have hra:=Zc1 ha
  rw[hlv]at hra
  have key:=Zrl m hwl as' gv rs (by omega) hra hro g6 g7 hlv
  rcases rs with _|⟨r0,rs⟩
  ·simp[head206a,c206b0,kn206]
   refine key _ ?_
   simp[head206b,zeroM]
  ·simp[head206a,c206b0,kn206]
   refine key _ ?_
   simp[head206b,zeroM]
set_option maxHeartbeats 0 in
theorem law206(m:Mate)(rate:Int)(hm:m.small)(hh:HoldsM m)(_:I64 rate):F 206 [.agg (m.c .bor),.int .i64 rate] []=some (.tup [.agg ((mateTick m rate).1.c .own),.sl .own 7 ((mateTick m rate).2.map (Parcel.c .own))],[]):=by
 refine Zae fn206 rfl ?_
 have w1:=law28 m hm
 have w2:=law117 m hm
 simp only[Mate.c]at w1 w2
 unfold mateTick
 cases q1:mateValid m
 ·simp[c206_cut,w1,q1,Mate.zero]
 rw[q1]at w1
 have hv:=Zh4 q1
 obtain⟨hc0,hc1⟩:=hv.clock
 cases q2:inR rate 1 4
 ·simp only[inR,Xcc,Xa6]at q2
  by_cases q3:rate<1
  ·simp[c206_cut,w1,w2,q3]
  ·have q4:4<rate:=by omega
   simp[c206_cut,w1,w2,q3,q4]
 have q2':=q2
 simp only[inR,Xc,Xj]at q2'
 have r1:¬ rate<1:=by omega
 have r2:¬ 4<rate:=by omega
 have hw:IntKind.i64.wrap (m.clock+rate)=m.clock+rate:=i64w (by omega) (by omega)
 by_cases q3:1000000<m.clock+rate
 ·have w3:=law36 m true hm
  simp only[Mate.c]at w3
  simp[c206_cut,w1,w2,w3,r1,r2,hw,q3]
 have w4:=law18 m.runs (m.clock+rate) hm.runs
 have hfit:Fit (tickOn m rate):=hv.tick hh
 have hsane:∀ r∈(tickOn m rate).runs,Sane r:=fun r hr=>by
  obtain⟨r',h1,rfl⟩:=Xap.1 hr
  exact Zqd (hv.sane r' h1)
 cases q4:m.up
 ·rw[q4]at w1 w2
  simp[c206_cut,w1,w2,w4,r1,r2,hw,q3,q4,tickOn]
 rw[q4]at w1 w2
 obtain⟨y,hy⟩:∃ y,y=tickOn m rate:=⟨_,rfl⟩
 have y1:y.name=m.name:=by rw[hy];rfl
 have y2:y.up=true:=by rw[hy];exact q4
 have y3:y.clock=m.clock+rate:=by rw[hy];rfl
 have y4:y.known=m.known:=by rw[hy];rfl
 have y5:y.seen=m.seen:=by rw[hy];rfl
 have y6:y.wants=m.wants:=by rw[hy];rfl
 have y7:m.runs.map (wd (m.clock+rate))=y.runs:=by rw[hy];rfl
 have y8:y.asks=m.asks:=by rw[hy];rfl
 have y9:y.gives=m.gives:=by rw[hy];rfl
 have hag:AG y.asks y.gives:=by rw[y8,y9];exact⟨hv.asks,hv.gives,hv.apart⟩
 rw[y7]at w4
 rw[<- hy]at hfit hsane ⊢
 clear hy
 cases q5:m.known
 ·rw[q5]at w1 w2 y4
  have hk:tickRuns y=y:=by unfold tickRuns;rw[y4];rfl
  rw[hk]
  have key:=Zlj y true (fun h=>nomatch h) (by have:=hfit.wants;omega) hfit.runs hfit.roomy hag.a (by have:=hfit.gives;omega)
  simp[c206_cut,w1,w2,w4,r1,r2,hw,q3,q4,q5,ta206]
  refine (key _ ?_).trans ?_
  ·simp[head206c,outV,outH,runV,runH,oN,y1,y2,y3,y4,y5,y6,y8,y9,zeroM]
  ·simp[resT]
 ·rw[q5]at w1 w2 y4
  have hk:tickRuns y=mLives y:=by unfold tickRuns;rw[y4];rfl
  rw[hk]
  have key:=Zq9 y hfit.wants hfit.runs hfit.asc hsane (by have:=hfit.nasks;omega) (Zdn hfit).roomy hfit.gives hag
  simp[c206_cut,w1,w2,w4,r1,r2,hw,q3,q4,q5]
  refine (key _ ?_).trans ?_
  ·simp[head206a,y1,y2,y3,y4,y5,y6,y8,y9,zeroM]
  ·simp[resT]
def Res5(w:Wld)(r:AV×List (Option AO)):Prop:=∃ y z,r=(.tup [],some (.box (w.c .own .own))::outs4 y z)
def heapD(y:Option (List (List AV)×List (List AV)))(z:Option (List (List AV)))(w:Wld)(e:Event):Nat->Option AO :=
 upd (upd (upd (upd (upd (upd (upd (upd (upd (upd (fun _=>none) 9 (some (.arr 1 (w.flight.map rowT)))) 8 (some (.arr 9 (w.mates.map (Mate.c .own))))) 7 (some (.arr 3 (w.land.places.map (Place.c .own))))) 6 (some (.arr 5 (w.land.grants.map Grant.c)))) 5 (some (.box (e.c .bor)))) 4 (z.map fun c=>.arr 1 c)) 3 none) 2 (y.map fun a=>.arr 3 a.2)) 1 (y.map fun a=>.arr 5 a.1)) 0 (some (.box (w.refs 6)))
def head204t(l0:Land)(w:Wld)(e:Event)(n i:Nat):St :=
 { hd [(0,.ptr 0 0 0),(3,.ptr 5 0 0),(64,.int .i64 n),(65,.int .i64 i)] [] 5 with heap:=heapD (some (l0.grants.map Grant.c,l0.places.map (Place.c .own))) none w e,next:=10 }
theorem Zsr(l0 l:Land)(ms:List Mate)(fl:List T)(e:Event)(hms:∀ m∈ms,Ready m)(hml:ms.length<=1000)(hfl:fl.length<=1000)(s0:St)(hs0:s0.norm [0,3,64,65]=head204t l0 ⟨l,ms,fl⟩ e ms.length 0) :
  fin [] 5 (X F [.code (.loop [0,3,64,65] c204b0),.blk 1,.blk 0] (.normal,s0))=some (.tup [],some (.box ((⟨l,(tickMates e.rates 0 ms fl).1,(tickMates e.rates 0 ms fl).2⟩:Wld).c .own .own))::outs4 (some (l0.grants.map Grant.c,l0.places.map (Place.c .own))) none):=by
 have ee:(fun s:T=>[AV.str s])=rowT:=rfl
 have ei:(fun n:Int=>[AV.int .i64 n])=rowI:=rfl
 refine (Zaz (σ:=Nat×List Mate×List T) (fun z=>head204t l0 ⟨l,z.2.1,z.2.2⟩ e ms.length z.1) (fun z=>z.1<=z.2.1.length/\z.2.1.length=ms.length/\z.2.2.length<=1000/\∀ x∈z.2.1.drop z.1,Ready x) (fun z=>z.2.1.length-z.1) (fun z=>(AV.tup [],some (AO.box ((⟨l,z.2.1.take z.1++(tickMates e.rates z.1 (z.2.1.drop z.1) z.2.2).1,(tickMates e.rates z.1 (z.2.1.drop z.1) z.2.2).2⟩:Wld).c .own .own))::outs4 (some (l0.grants.map Grant.c,l0.places.map (Place.c .own))) none)) (fun z Y hinv hY=>?_) (0,ms,fl) hs0 ⟨by simp,rfl,hfl,fun x hx=>hms x (by simpa using hx)⟩ (by unfold big;simp only;omega)).trans ?_
 ·obtain⟨i,xs,gl⟩:=z
  obtain⟨g1,g2,g3,g4⟩:=hinv
  simp only at g1 g2 g3 g4 hY ⊢
  by_cases hi:i<xs.length
  ·have hiI:(i:Int)<xs.length:=by omega
   have hiM:(i:Int)<ms.length:=by omega
   have hw1:IntKind.i64.wrap ((i:Int)+1)=(i:Int)+1:=i64w (by omega) (by omega)
   obtain⟨m,hg⟩:∃ m,xs[i]=m:=⟨_,rfl⟩
   have hd:xs.drop i=m::xs.drop (i+1):=by rw[Xah hi,hg]
   have hm:Ready m:=g4 m (by rw[hd];exact Xi)
   obtain⟨r1,r2⟩:=Zk0 e.rates i
   have w206:=law206 m (rateOf e.rates i) hm.small hm.holds ⟨by omega,by omega⟩
   obtain⟨x1,x2,x3⟩:=Zja (rate:=rateOf e.rates i) hm.small hm.holds
   have w205:=law205 ⟨l,xs.set i (mateTick m (rateOf e.rates i)).1,gl⟩ (mateTick m (rateOf e.rates i)).2 .own (by omega) x3 g3
   have hsl2:=Zdg (mateTick m (rateOf e.rates i)).2 gl
   rw[hd]
   simp only[tickMates]
   have hro:rateOf e.rates i=match e.rates[i]? with
    | some r=>if inR r 1 4 then r else 2
    | none=>2:=rfl
   generalize rateOf e.rates i=ra at *
   generalize mateTick m ra=R at *
   obtain⟨m',ps'⟩:=R
   simp only[Mate.c,Parcel.c,Wld.refs,Wld.arrs,wgone,sendW,Xa3]at w206 w205 hsl2 ⊢
   generalize ps'.foldl sendF gl=gl' at *
   have hnext:∀ st,st.norm [0,3,64,65]=head204t l0 ⟨l,xs.set i m',gl'⟩ e ms.length (i+1)->fin [] 5 (Y st)=some (AV.tup [],some (AO.box ((⟨l,xs.take i++m'::(tickMates e.rates (i+1) (xs.drop (i+1)) gl').1,(tickMates e.rates (i+1) (xs.drop (i+1)) gl').2⟩:Wld).c .own .own))::outs4 (some (l0.grants.map Grant.c,l0.places.map (Place.c .own))) none):=fun st hn=>by
    have e1:(xs.set i m').drop (i+1)=xs.drop (i+1):=by rw[List.drop_set,Xr (by omega)]
    have e2:(xs.set i m').take (i+1)=xs.take i++[m']:=by
     rw[Xax,List.take_set,List.set_eq_of_length_le (by simp;omega),List.getElem?_set_self hi]
     rfl
    have h:=hY (i+1,xs.set i m',gl') st ⟨by simp;omega,by simpa using g2,by simp only;omega,fun x hx=>g4 x (by
     simp only at hx
     rw[e1]at hx
     rw[hd];exact Xh _ hx)⟩ (by simp;omega) hn
    simp only[e1,e2,Xa7,List.singleton_append]at h
    exact h
   cases hri:e.rates[i]? with
   | none =>
    have hge:e.rates.length<=i:=Xbr.1 hri
    have hgeI:¬ (i:Int)<e.rates.length:=by omega
    rw[hri]at hro
    simp only at hro
    subst hro
    simp[head204t,heapD,Wld.refs,c204b0,hi,hiI,hiM,hg,hgeI,w206,w205,AO.isArr,ee]
    refine (hnext _ ?_).trans (by simp[outs4,ee])
    simp[head204t,heapD,Wld.refs,hw1,Xa3,List.range,List.range.loop]
   | some r =>
    obtain⟨hlt,hgr⟩:=Xa.1 hri
    have hltI:(i:Int)<e.rates.length:=by omega
    rw[hri]at hro
    simp only at hro
    cases hin:inR r 1 4
    ·rw[hin]at hro
     simp only[Xq,Xaj]at hro
     subst hro
     simp[head204t,heapD,Wld.refs,c204b0,hi,hiI,hiM,hg,hlt,hltI,hgr,hin,w206,w205,AO.isArr,ee]
     refine (hnext _ ?_).trans (by simp[outs4,ee])
     simp[head204t,heapD,Wld.refs,hw1,Xa3,List.range,List.range.loop]
    ·rw[hin]at hro
     simp only[Xag]at hro
     subst hro
     simp[head204t,heapD,Wld.refs,c204b0,hi,hiI,hiM,hg,hlt,hltI,hgr,hin,w206,w205,AO.isArr,ee]
     refine (hnext _ ?_).trans (by simp[outs4,ee])
     simp[head204t,heapD,Wld.refs,hw1,Xa3,List.range,List.range.loop]
  ·obtain rfl:i=xs.length:=by omega
   have hiM:¬ (xs.length:Int)<ms.length:=by omega
   simp[head204t,heapD,Wld.refs,c204b0,hiM,tickMates,ee,outs4,List.range,List.range.loop]
 ·simp
def head204m(l0:Land)(ms:List Mate)(fl0 fl:List T)(p:Parcel)(n i:Nat):St :=
 hd [(0,.ptr 0 0 0),(10,.ptr 5 0 0),(178,.int .i64 n),(179,.int .i64 i)] (.box [.int .i64 l0.time,.ref 1,.ref 2,.ref 3,.ref 6]::(⟨l0,ms,fl0⟩:Wld).arrs++[.box [.int .i64 p.kind,.str p.berth,.int .i64 p.seen,.ref 7,.str p.hold,.str p.copy,.int .i64 p.at_],.arr 1 (fl.map rowT),.arr 7 (p.wants.map Want.c)]) 5
theorem Zrd(l0:Land)(ms:List Mate)(fl0 fl:List T)(p:Parcel)(hp:p.wants.length<=10)(h1:∀ m∈ms,Ready m)(h2:ms.length<=1000)(s0:St)(hs0:s0.norm [0,10,178,179]=head204m l0 ms fl0 fl p ms.length 0) :
  Ends (fin [] 5 (X F [.code (.loop [0,10,178,179] c204b1),.blk 4,.blk 3,.blk 0] (.normal,s0))) (Res5 ⟨l0,ms.map fun m=>if sEq m.name p.berth then mateTake m p else m,fl⟩):=by
 have e:(fun s:T=>[AV.str s])=rowT:=rfl
 refine Za8 (σ:=Nat×List Mate) (fun z=>head204m l0 z.2 fl0 fl p ms.length z.1) (fun z=>z.1<=ms.length/\z.2=(ms.take z.1).map (fun m=>if sEq m.name p.berth then mateTake m p else m)++ms.drop z.1) (fun z=>ms.length-z.1) (fun z Y hinv hY=>?_) (0,ms) hs0 ⟨Xp _,by simp⟩ (by unfold big;simp only;omega)
 obtain⟨i,xs⟩:=z
 obtain⟨g1,g2⟩:=hinv
 simp only at g1 g2 hY ⊢
 have hxl:xs.length=ms.length:=by rw[g2];simp;omega
 by_cases hi:i<ms.length
 ·have hix:i<xs.length:=by omega
  have hiI:(i:Int)<xs.length:=by omega
  have hiM:(i:Int)<ms.length:=by omega
  have hw1:IntKind.i64.wrap ((i:Int)+1)=(i:Int)+1:=i64w (by omega) (by omega)
  obtain⟨m,hgm⟩:∃ m,ms[i]=m:=⟨_,rfl⟩
  have hmi:ms[i]?=some m:=by rw[<- hgm];exact Xd hi
  have hlt:((ms.take i).map (fun m=>if sEq m.name p.berth then mateTake m p else m)).length=i:=by simp;omega
  have hdr:ms.drop i=m::ms.drop (i+1):=by rw[Xah hi,hgm]
  have hg:xs[i]=m:=by
   have:xs[i]?=some m:=by rw[g2,Xar (by omega),hlt,Xcw,hdr];rfl
   exact (Xa.1 this).2
  have w61:=law61 m p (h1 m (Xe hmi)).small (by omega)
  simp only[Mate.c,Parcel.c]at w61
  have hnx:∀ x,x=(if sEq m.name p.berth then mateTake m p else m)->xs.set i x=(ms.take (i+1)).map (fun m=>if sEq m.name p.berth then mateTake m p else m)++ms.drop (i+1):=fun x hx=>by
   rw[g2,List.set_append_right _ _ (by omega),hlt,Xcw,hdr,Xax,hmi]
   simp[hx]
  cases q:sEq m.name p.berth
  ·rw[q]at hnx
   have hself:xs.set i m=xs:=by rw[<- hg];exact List.set_getElem_self ..
   simp[head204m,Wld.arrs,c204b1,hix,hiI,hiM,hg,q]
   refine hY (i+1,xs) _ ⟨by simp only;omega,by rw[<- hnx m (by simp),hself]⟩ (by simp only;omega) ?_
   simp[head204m,Wld.arrs,hw1,List.range,List.range.loop]
  ·rw[q]at hnx
   generalize mateTake m p=m' at *
   simp[head204m,Wld.arrs,c204b1,hix,hiI,hiM,hg,q,w61]
   refine hY (i+1,xs.set i m') _ ⟨by simp only;omega,by rw[hnx m' (by simp)]⟩ (by simp only;omega) ?_
   simp[head204m,Wld.arrs,hw1,Xa3,List.range,List.range.loop]
 ·obtain rfl:i=ms.length:=by omega
  rw[Xbg,Xcq,Xb6]at g2
  rw[<- g2]
  simp[head204m,Wld.arrs,c204b1,List.range,List.range.loop]
  exact⟨none,some (fl0.map rowT),by simp[e,outs4]⟩
set_option maxHeartbeats 0 in
theorem law204 (w:Wld) (e:Event) (h:WIs w) (he:e.wants.length<=1048576) (ha : -1000000000000<=e.a/\e.a<=1000000000000):Ends (F 204 [.ptr 0 0 0,.agg (e.c .bor)] (.box (w.refs 1)::w.arrs)) (Res5 (doW w e)):=by
  refine Zce fn204 rfl ?_
  have hf:=h.fl
  have h4:=h.four
  have h1:=h.one
  have ee:(fun s:T => [AV.str s])=rowT:=rfl
  have ei:(fun n:Int => [AV.int .i64 n])=rowI:=rfl
  have c1:=Zee e.a w.flight.length
  have c2:=Zee e.a w.mates.length
  unfold doW
  by_cases k1:e.kind=1
  · rw[Xr k1]
    have w41:=law41 w.land .own h.lsmall
    obtain⟨q1,q2,q3⟩:=Zf4 w.land h.lsmall
    have w205:=law205 { w with land:=(landTick w.land).1 } (landTick w.land).2 .own q2 q3 (by simp only;omega)
    unfold tickW
    have hsl:=Zdg (landTick w.land).2 w.flight
    have hmd:=h.drawn
    generalize landTick w.land=R at *
    obtain⟨l,ps⟩:=R
    obtain⟨l0,ms,fl⟩:=w
    simp only at w41 q1 q2 q3 w205 hsl hmd ⊢
    simp only[Land.c,Parcel.c,Wld.refs,Wld.arrs,wgone,sendW]at w41 w205
    generalize ps.foldl sendF fl=fl1 at *
    have tl:∀ s0:St,s0.norm [0,3,64,65]=head204t l0 ⟨l,ms,fl1⟩ e ms.length 0->Ends (fin [] 5 (X F [.code (.loop [0,3,64,65] c204b0),.blk 1,.blk 0] (.normal,s0))) (Res5 ⟨l,(tickMates e.rates 0 ms fl1).1,(tickMates e.rates 0 ms fl1).2⟩):=fun s0 hs0 => ⟨_,Zsr l0 l ms fl1 e hmd (by simp only at h4;omega) (by simp only at hf;omega) s0 hs0,_,_,rfl⟩
    by_cases a0:0<=e.a<;>simp[c204,Wld.refs,Wld.arrs,k1,a0,w41,w205,AO.isArr,ee,ei]<;>refine tl _ ?_<;>simp[head204t,heapD,Wld.refs,k1,ee,ei,List.range,List.range.loop]
  rw[Xu k1]
  have same:Res5 w (.tup [],[some (.box [.int .i64 w.land.time,.sl .own 5 (w.land.grants.map Grant.c),.sl .own 3 (w.land.places.map (Place.c .own)),.sl .own 9 (w.mates.map (Mate.c .own)),.sl .own 1 (w.flight.map rowT)]),none,none,none,none]):=⟨none,none,by simp[ee,outs4]⟩
  have a9:(atE e.a w.flight.length=false/\((0<=e.a/\¬ e.a<w.flight.length)\/¬ 0<=e.a))\/(atE e.a w.flight.length=true/\∃ k:Nat,e.a=k/\k<w.flight.length):=by
    rcases c1 with ⟨b1,_⟩|⟨b1,_,b3⟩
    · refine .inl ⟨b1,?_⟩
      simp only[atE,Xcc,Xa6]at b1
      omega
    · exact .inr ⟨b1,b3⟩
  by_cases k2:e.kind=2
  · rw[Xr k2]
    rcases a9 with ⟨a1,a2⟩|⟨a1,k,a3,a4⟩
    · rw[Xu (by simp[a1])]
      rcases a2 with ⟨a2,a5⟩|a2<;>by_cases a6:e.a<w.mates.length<;>simp[c204,Wld.refs,Wld.arrs,ee,ei,k1,k2, *,AO.isArr]<;>exact same
    · rw[Xr a1,a3,Xbh]
      obtain⟨s,hs⟩:∃ s,w.flight[k]=s:=⟨_,rfl⟩
      have hsk:w.flight[k]?=some s:=by rw[<- hs];exact Xd a4
      have hm:=Xe hsk
      have hkI:(k:Int)<w.flight.length:=by omega
      have w207:=law207 s (by have:=h.texts s hm;omega)
      rw[Zhp]at w207
      have hw:IntKind.i64.wrap ((k:Int)+1)=((k+1:Nat):Int):=i64w (by omega) (by omega)
      have g1:(k:Int)<=w.flight.length:=by omega
      have g2:((k+1:Nat):Int)<=w.flight.length:=by omega
      have g3:k<=w.flight.length:=by omega
      have g4:k+1<=w.flight.length:=by omega
      have e1:min k w.flight.length=k:=by omega
      have p1:rowsPlain ((List.map rowT w.flight).take k)=true:=by rw[<- List.map_take];exact Zbc _
      have p2:rowsPlain ((List.map rowT w.flight).drop (k+1))=true:=by rw[<- List.map_drop];exact Zbc _
      have b1:k*16<=140737488355328:=by omega
      have b2:k<=140737488355328:=by omega
      have b3:(k+(w.flight.length-(k+1)))*16<=140737488355328:=by omega
      have b4:k+(w.flight.length-(k+1))<=140737488355328:=by omega
      have t2:List.take (w.flight.length-(k+1)) (List.drop (k+1) (List.map rowT w.flight))=List.drop (k+1) (List.map rowT w.flight):=Xae (by simp)
      simp only[show ((k+1:Nat):Int)=(k:Int)+1 from rfl]at *
      have t3:((k:Int)+1).toNat=k+1:=by omega
      have t4:(0:Int)<=(k:Int)+1:=by omega
      have hbr:bringW w k=if (readT s).2 then
          (if isDown (readT s).1.kind then { w with flight:=outT w.flight k,mates:=w.mates.map fun m => if sEq m.name (readT s).1.berth then mateTake m (readT s).1 else m }
           else sendW { w with flight:=outT w.flight k,land:=(landTake w.land (readT s).1).1 } (landTake w.land (readT s).1).2)
        else { w with flight:=outT w.flight k }:=by unfold bringW;rw[hsk]
      rw[hbr]
      cases q:(readT s).2
      · rw[q]at w207
        simp only[Parcel.c]at w207
        by_cases a6:(k:Int)<w.mates.length<;>simp[c204,Wld.refs,Wld.arrs,ee,ei,k1,k2,a3,a4,a6,hkI,hs,w207,slBounds,hw,g1,g2,g3,g4,t2,t3,t4,takeRows,p1,p2,e1,b1,b2,b3,b4,AO.isArr,rowT]
        all_goals exact⟨none,some (w.flight.map rowT),by simp[ee,outs4,outT]⟩
      · have hpw:=Zi5 q
        rw[q]at w207
        simp only[Xag]
        generalize (readT s).1=p at *
        simp only[Parcel.c]at w207
        have hout:List.take k (List.map rowT w.flight)++List.drop (k+1) (List.map rowT w.flight)=(outT w.flight k).map rowT:=by simp[outT]
        have hol:=(h.flight.out k).len
        generalize outT w.flight k=fl at *
        cases hd:isDown p.kind
        · have hd':¬ p.kind=1/\¬ p.kind=3/\¬ p.kind=5:=by simpa [isDown] using hd
          obtain⟨d1,d2,d3⟩:=hd'
          have w76:=law76 w.land .own p h.lsmall
          obtain⟨x1,x2,x3⟩:=Zha (p:=p) h.land
          have w205:=law205 ⟨(landTake w.land p).1,w.mates,fl⟩ (landTake w.land p).2 .own (by omega) (fun x hx => ⟨by rw[x3 x hx];simp⟩) (by simp only;omega)
          generalize landTake w.land p=R at *
          obtain⟨l,ps⟩:=R
          simp only[Land.c,Parcel.c,Wld.refs,Wld.arrs,wgone]at w76 w205
          by_cases a6:(k:Int)<w.mates.length<;>simp[c204,Wld.refs,Wld.arrs,ee,ei,k1,k2,a3,a4,a6,hkI,hs,w207,slBounds,hw,g1,g2,g3,g4,t2,t3,t4,takeRows,p1,p2,e1,b1,b2,b3,b4,AO.isArr,rowT,hout,d1,d2,d3,w76,w205]
          all_goals exact⟨some (w.land.grants.map Grant.c,w.land.places.map (Place.c .own)),some (w.flight.map rowT),by simp[ee,outs4]⟩
        · simp only[Xag]
          have hone:=h.drawn
          have hfour:=h.four
          obtain⟨l0,ms,fl0⟩:=w
          simp only at hone hfour
          have tl:=fun s0 hs0 => Zrd l0 ms fl0 fl p hpw hone (by omega) s0 hs0
          have hd':p.kind=1\/p.kind=3\/p.kind=5:=by simpa [isDown] using hd
          rcases hd' with d|d|d<;>by_cases a6:(k:Int)<ms.length<;>simp[c204,Wld.refs,Wld.arrs,ee,ei,k1,k2,a3,a4,a6,hkI,hs,w207,slBounds,hw,g1,g2,g3,g4,t2,t3,t4,takeRows,p1,p2,e1,b1,b2,b3,b4,AO.isArr,rowT,hout,d]
          all_goals refine tl _ ?_
          all_goals simp[head204m,Wld.arrs,d,List.range,List.range.loop]
  rw[Xu k2]
  by_cases k3:e.kind=3
  · rw[Xr k3]
    rcases a9 with ⟨a1,a2⟩|⟨a1,k,a3,a4⟩
    · rw[Xu (by simp[a1])]
      rcases a2 with ⟨a2,a5⟩|a2<;>by_cases a6:e.a<w.mates.length<;>simp[c204,Wld.refs,Wld.arrs,ee,ei,k1,k2,k3, *,AO.isArr]<;>exact same
    · rw[Xr a1,a3,Xbh]
      obtain⟨s,hs⟩:∃ s,w.flight[k]=s:=⟨_,rfl⟩
      have hsk:w.flight[k]?=some s:=by rw[<- hs];exact Xd a4
      have hkI:(k:Int)<w.flight.length:=by omega
      simp only[doubleW,hsk]
      by_cases l3:w.flight.length<300
      · have l3I:(w.flight.length:Int)<300:=by omega
        have rp:rowsPlain [[AV.str s]]=true:=rfl
        have q1:(w.flight.length+1)*16<=140737488355328:=by omega
        have q2:w.flight.length+1<=140737488355328:=by omega
        by_cases a6:(k:Int)<w.mates.length<;>simp[c204,Wld.refs,Wld.arrs,ee,ei,k1,k2,k3,a3,a4,a6,hkI,hs,l3,l3I,rp,q1,q2,takeRows,rowT,AO.isArr]
        all_goals exact⟨none,none,by simp[outs4,rowT]⟩
      · have l3I:¬ (w.flight.length:Int)<300:=by omega
        by_cases a6:(k:Int)<w.mates.length<;>simp[c204,Wld.refs,Wld.arrs,ee,ei,k1,k2,k3,a3,a4,a6,hkI,l3,l3I,AO.isArr]<;>exact same
  rw[Xu k3]
  by_cases k4:e.kind=4
  · rw[Xr k4]
    rcases a9 with ⟨a1,a2⟩|⟨a1,k,a3,a4⟩
    · rw[Xu (by simp[a1])]
      rcases a2 with ⟨a2,a5⟩|a2<;>by_cases a6:e.a<w.mates.length<;>simp[c204,Wld.refs,Wld.arrs,ee,ei,k1,k2,k3,k4, *,AO.isArr]<;>exact same
    · rw[Xr a1,a3,Xbh]
      obtain⟨s,hs⟩:∃ s,w.flight[k]=s:=⟨_,rfl⟩
      have hsk:w.flight[k]?=some s:=by rw[<- hs];exact Xd a4
      have hm:=Xe hsk
      have hkI:(k:Int)<w.flight.length:=by omega
      have w207:=law207 s (by have:=h.texts s hm;omega)
      rw[Zhp]at w207
      have hw:IntKind.i64.wrap ((k:Int)+1)=((k+1:Nat):Int):=i64w (by omega) (by omega)
      have g1:(k:Int)<=w.flight.length:=by omega
      have g2:((k+1:Nat):Int)<=w.flight.length:=by omega
      have g3:k<=w.flight.length:=by omega
      have g4:k+1<=w.flight.length:=by omega
      have e1:min k w.flight.length=k:=by omega
      have p1:rowsPlain ((List.map rowT w.flight).take k)=true:=by rw[<- List.map_take];exact Zbc _
      have p2:rowsPlain ((List.map rowT w.flight).drop (k+1))=true:=by rw[<- List.map_drop];exact Zbc _
      have b1:k*16<=140737488355328:=by omega
      have b2:k<=140737488355328:=by omega
      have b3:(k+(w.flight.length-(k+1)))*16<=140737488355328:=by omega
      have b4:k+(w.flight.length-(k+1))<=140737488355328:=by omega
      have t2:List.take (w.flight.length-(k+1)) (List.drop (k+1) (List.map rowT w.flight))=List.drop (k+1) (List.map rowT w.flight):=Xae (by simp)
      simp only[show ((k+1:Nat):Int)=(k:Int)+1 from rfl]at *
      have t3:((k:Int)+1).toNat=k+1:=by omega
      have t4:(0:Int)<=(k:Int)+1:=by omega
      simp only[Parcel.c]at w207
      by_cases a6:(k:Int)<w.mates.length<;>simp[c204,Wld.refs,Wld.arrs,ee,ei,k1,k2,k3,k4,a3,a4,a6,hkI,hs,w207,slBounds,hw,g1,g2,g3,g4,t2,t3,t4,takeRows,p1,p2,e1,b1,b2,b3,b4,AO.isArr,rowT]
      all_goals exact⟨none,some (w.flight.map rowT),by simp[ee,outs4,outT]⟩
  rw[Xu k4]
  have b9:(atE e.a w.mates.length=false/\((0<=e.a/\¬ e.a<w.mates.length)\/¬ 0<=e.a))\/(atE e.a w.mates.length=true/\∃ k:Nat,e.a=k/\k<w.mates.length):=by
    rcases c2 with ⟨b1,_⟩|⟨b1,_,b3⟩
    · refine .inl ⟨b1,?_⟩
      simp only[atE,Xcc,Xa6]at b1
      omega
    · exact .inr ⟨b1,b3⟩
  have mset:∀ (k:Nat) (m':Mate),Res5 { w with mates:=w.mates.set k m' } (.tup [],[some (.box [.int .i64 w.land.time,.sl .own 5 (w.land.grants.map Grant.c),.sl .own 3 (w.land.places.map (Place.c .own)),.sl .own 9 ((w.mates.map (Mate.c .own)).set k (m'.c .own)),.sl .own 1 (w.flight.map rowT)]),none,none,none,none]):=fun k m' => ⟨none,none,by simp[outs4,ee,Xa3]⟩
  simp only[Mate.c]at mset
  by_cases k5:e.kind=5
  · rw[Xr k5]
    rcases b9 with ⟨a1,a2⟩|⟨a1,k,a3,a4⟩
    · rw[Xu (by simp[a1])]
      rcases a2 with ⟨a2,a5⟩|a2<;>by_cases a6:e.a<w.flight.length<;>simp[c204,Wld.refs,Wld.arrs,ee,ei,k1,k2,k3,k4,k5, *,AO.isArr]<;>exact same
    · rw[Xr a1,a3,Xbh]
      obtain⟨m,hg⟩:∃ m,w.mates[k]=m:=⟨_,rfl⟩
      have hmk:w.mates[k]?=some m:=by rw[<- hg];exact Xd a4
      have hkI:(k:Int)<w.mates.length:=by omega
      have hsm:=(h.drawn m (Xe hmk)).small
      simp only[mateW,hmk]
      have w36:=law36 m (e.b != 0) hsm
      have hm1:=mset k (mateFall m (e.b != 0))
      generalize mateFall m (e.b != 0)=m' at *
      simp only[Mate.c]at w36
      by_cases a6:(k:Int)<w.flight.length<;>simp[c204,Wld.refs,Wld.arrs,ee,ei,k1,k2,k3,k4,k5,a3,a4,a6,hkI,hg,w36,AO.isArr]<;>exact hm1
  rw[Xu k5]
  by_cases k6:e.kind=6
  · rw[Xr k6]
    rcases b9 with ⟨a1,a2⟩|⟨a1,k,a3,a4⟩
    · rw[Xu (by simp[a1])]
      rcases a2 with ⟨a2,a5⟩|a2<;>by_cases a6:e.a<w.flight.length<;>simp[c204,Wld.refs,Wld.arrs,ee,ei,k1,k2,k3,k4,k5,k6, *,AO.isArr]<;>exact same
    · rw[Xr a1,a3,Xbh]
      obtain⟨m,hg⟩:∃ m,w.mates[k]=m:=⟨_,rfl⟩
      have hmk:w.mates[k]?=some m:=by rw[<- hg];exact Xd a4
      have hkI:(k:Int)<w.mates.length:=by omega
      have hsm:=(h.drawn m (Xe hmk)).small
      simp only[mateW,hmk]
      have w35:=law35 m hsm
      have hm1:=mset k (mateRise m)
      generalize mateRise m=m' at *
      simp only[Mate.c]at w35
      by_cases a6:(k:Int)<w.flight.length<;>simp[c204,Wld.refs,Wld.arrs,ee,ei,k1,k2,k3,k4,k5,k6,a3,a4,a6,hkI,hg,w35,AO.isArr]<;>exact hm1
  rw[Xu k6]
  by_cases k7:e.kind=7
  · rw[Xr k7]
    rcases b9 with ⟨a1,a2⟩|⟨a1,k,a3,a4⟩
    · rw[Xu (by simp[a1])]
      rcases a2 with ⟨a2,a5⟩|a2<;>by_cases a6:e.a<w.flight.length<;>simp[c204,Wld.refs,Wld.arrs,ee,ei,k1,k2,k3,k4,k5,k6,k7, *,AO.isArr]<;>exact same
    · rw[Xr a1,a3,Xbh]
      obtain⟨m,hg⟩:∃ m,w.mates[k]=m:=⟨_,rfl⟩
      have hmk:w.mates[k]?=some m:=by rw[<- hg];exact Xd a4
      have hkI:(k:Int)<w.mates.length:=by omega
      simp only[putW,hmk]
      have w70:=law70 w.land .own m.name e.wants h.lsmall he
      generalize matePut w.land m.name e.wants=R at *
      obtain⟨l,c⟩:=R
      simp only[Land.c]at w70
      by_cases hc:c=0
      · subst hc
        by_cases a6:(k:Int)<w.flight.length<;>simp[c204,Wld.refs,Wld.arrs,ee,ei,k1,k2,k3,k4,k5,k6,k7,a3,a4,a6,hkI,hg,w70,AO.isArr]
        all_goals exact⟨some (w.land.grants.map Grant.c,w.land.places.map (Place.c .own)),none,by simp[ee,outs4]⟩
      · by_cases a6:(k:Int)<w.flight.length<;>simp[c204,Wld.refs,Wld.arrs,ee,ei,k1,k2,k3,k4,k5,k6,k7,a3,a4,a6,hkI,hg,w70,hc,AO.isArr]<;>exact same
  rw[Xu k7]
  by_cases a5:0<=e.a<;>by_cases a6:e.a<w.flight.length<;>by_cases a7:e.a<w.mates.length<;>simp[c204,Wld.refs,Wld.arrs,ee,ei,k1,k2,k3,k4,k5,k6,k7,a5,a6,a7,AO.isArr]<;>exact same
theorem law251c(w:Wld)(ml mm:Md)(e:Event)(hs:w.small)(hf:w.flight.length<=1000)(h:worldOk w=true->WIs w)(he:e.wants.length<=1048576)(ha : -1000000000000<=e.a/\e.a<=1000000000000):F 251 [.agg (w.cc .bor ml mm),.agg (e.c .bor)] []=some (.agg ((mateDo w e).c .own .own),[]):=by
 refine Zae fn251 rfl ?_
 have w57:=law57c w ml mm hs
 have ee:(fun s:T=>[AV.str s])=rowT:=rfl
 have ei:(fun n:Int=>[AV.int .i64 n])=rowI:=rfl
 simp only[Wld.cc,Wld.c,ee]at w57
 unfold mateDo
 cases q:worldOk w
 ·rw[q]at w57
  simp[c251,w57,Wld.zero,Land.zero,ee,ei]
 ·rw[q]at w57
  have hi:=h q
  obtain⟨_,w204,y,z,rfl⟩:=law204 w e hi he ha
  simp only[Xag]
  have w223:=law223c w ml mm hs hf
  generalize doW w e=v at *
  simp only[Wld.refs,Wld.arrs,Wld.cc,Wld.c,Event.c,ee,ei]at w204 w223
  rcases y with _|⟨y1,y2⟩<;>rcases z with _|z1<;>simp only[outs4,Xbu,Xw]at w204<;>simp[c251,w57,w223,w204,AO.isArr,ee,ei]
def tickE(rates:List Int):Event:=⟨1,0,0,[],rates⟩
def bringE:Event:=⟨2,0,0,[],[]⟩
theorem Zr6(w:Wld)(rates:List Int):doW w (tickE rates)=tickW w rates:=rfl
theorem Zqw(w:Wld):doW w bringE=bringW w 0:=by
 show (if atE 0 w.flight.length then bringW w 0 else w)=bringW w 0
 by_cases h:0<w.flight.length
 ·rw[Xr]
  simp only[atE,Xc,Xj]
  omega
 ·have h0:w.flight[0]?=none:=Xbr.2 (by omega)
  have:bringW w 0=w:=by unfold bringW;rw[h0]
  rw[this]
  split<;>rfl
def head210a(rates:List Int)(N:Int)(v:Wld)(i:Nat):St :=
 hd [(2,.sl .bor 1 (rates.map rowI)),(3,.ptr 0 0 0),(6,.ptr 1 0 0),(15,.int .i64 N),(16,.int .i64 i)] ([.box (v.refs 2),.box zeroW]++v.arrs) 0
def head210b(rates:List Int)(N:Int)(v:Wld)(i j:Nat):St :=
 hd [(2,.sl .bor 1 (rates.map rowI)),(3,.ptr 0 0 0),(6,.ptr 1 0 0),(15,.int .i64 N),(16,.int .i64 i),(21,.int .i64 j)] ([.box (v.refs 2),.box zeroW]++v.arrs) 0
def head210c(rates:List Int)(N:Int)(v:Wld)(i j n k:Nat):St :=
 hd [(2,.sl .bor 1 (rates.map rowI)),(3,.ptr 0 0 0),(6,.ptr 1 0 0),(15,.int .i64 N),(16,.int .i64 i),(21,.int .i64 j),(25,.int .i64 n),(26,.int .i64 k)] ([.box (v.refs 2),.box zeroW]++v.arrs) 0
set_option maxHeartbeats 0 in
theorem law210c(w:Wld)(ml mm:Md)(n:Int)(rates:List Int)(hs:w.small)(hf:w.flight.length<=1000)(h:worldOk w=true->WIs w):F 210 [.agg (w.cc .bor ml mm),.int .i64 n,.sl .bor 1 (rates.map rowI)] []=some (.agg ((mateCalm w n rates).c .own .own),[]):=by
 refine Zae fn210 rfl ?_
 have w57:=law57c w ml mm hs
 have ee:(fun s:T=>[AV.str s])=rowT:=rfl
 have ei:(fun n:Int=>[AV.int .i64 n])=rowI:=rfl
 simp only[Wld.cc,Wld.c,ee]at w57
 unfold mateCalm
 cases q:worldOk w
 ·rw[q]at w57
  simp[c210,w57,Wld.zero,Land.zero,ee]
 ·rw[q]at w57
  have hi:=h q
  have w223:=law223c w ml mm hs hf
  simp only[Wld.cc,Wld.c,ee]at w223
  obtain⟨N,hN⟩:∃ N:Nat,min n.toNat 1000=N:=⟨_,rfl⟩
  obtain⟨TT,hTT⟩:∃ TT,roundsW rates N w=TT:=⟨_,rfl⟩
  simp only[Xag,hN,hTT]
  have hN2:(if 1000<(if n<0 then 0 else n) then 1000 else (if n<0 then 0 else n))=(N:Int):=by
   split<;>split at *<;>omega
  have hN0:N<=1000:=by omega
  simp[c210,w57,w223,AO.isArr,ee]
  refine (Zaz (σ:=Nat×Wld) (fun z=>head210a rates N z.2 z.1) (fun z=>z.1<=N/\WIs z.2/\roundsW rates (N-z.1) z.2=TT) (fun z=>N-z.1) (fun _=>(AV.agg (TT.c .own .own),([]:List (Option AO)))) (fun z Y hinv hY=>?_) (0,w) ?_ ⟨Xp _,hi,hTT⟩ (by unfold big;simp only;omega)).trans ?_
  ·obtain⟨i,v⟩:=z
   obtain⟨g1,g2,g3⟩:=hinv
   simp only at g1 g2 g3 hY ⊢
   by_cases hlt:i<N
   ·have hw1:IntKind.i64.wrap ((i:Int)+1)=(i:Int)+1:=i64w (by omega) (by omega)
    have hltI:(i:Int)<(N:Int):=by omega
    obtain⟨_,w204,y,z,rfl⟩:=law204 v (tickE rates) g2 (by simp[tickE]) (by simp[tickE])
    rw[Zr6]at w204
    have gt:=g2.tick rates
    rw[show N-i=(N-(i+1))+1 by omega]at g3
    obtain⟨V,hV⟩:∃ V,roundW v rates=V:=⟨_,rfl⟩
    have gV:WIs V:=by rw[<- hV];exact g2.round rates
    have g4:roundsW rates (N-(i+1)) V=TT:=by rw[<- hV];exact g3
    rw[Zi6]at hV
    generalize tickW v rates=x at *
    have inner:∀ s0:St,s0.norm [2,3,6,15,16,21]=head210b rates N x i 0->fin [.cell 6 5 true] 0 (X F [.code (.loop [2,3,6,15,16,21] c210b1),.blk 2,.blk 1,.code (.region [xu 32 16 1,xd 16 32] [2,3,6,15,16]),.back Y,.blk 0,.code (jR [xf 33 3 5,xg 6 33 5] [6] .ret)] (.normal,s0))=some (.agg (TT.c .own .own),[]):=fun s0 hs0=>by
     refine Zaz (σ:=Nat×Wld) (fun z=>head210b rates N z.2 i z.1) (fun z=>z.1<=2/\WIs z.2/\passN (2-z.1) z.2=V) (fun z=>2-z.1) (fun _=>(AV.agg (TT.c .own .own),([]:List (Option AO)))) (fun z Y1 hinv hY1=>?_) (0,x) hs0 ⟨by simp,gt,hV⟩ (by unfold big;simp only;omega)
     obtain⟨j,u⟩:=z
     obtain⟨k1,k2,k3⟩:=hinv
     simp only at k1 k2 k3 hY1 ⊢
     have hwj:IntKind.i64.wrap ((j:Int)+1)=(j:Int)+1:=i64w (by omega) (by omega)
     by_cases hj:j<2
     ·have hjI:(j:Int)<2:=by omega
      obtain⟨U,hU⟩:∃ U,bringsW u.flight.length u=U:=⟨_,rfl⟩
      have k4:passN (2-(j+1)) U=V:=by
       rw[show 2-j=(2-(j+1))+1 by omega]at k3
       rw[<- hU];exact k3
      have kU:WIs U:=by rw[<- hU];exact k2.brings _
      obtain⟨L,hL⟩:∃ L,u.flight.length=L:=⟨_,rfl⟩
      have hfl:=k2.fl
      rw[hL]at hU hfl
      simp[head210b,Wld.refs,Wld.arrs,c210b1,hjI,hL]
      refine Zaz (σ:=Nat×Wld) (fun z=>head210c rates N z.2 i j L z.1) (fun z=>z.1<=L/\WIs z.2/\bringsW (L-z.1) z.2=U) (fun z=>L-z.1) (fun _=>(AV.agg (TT.c .own .own),([]:List (Option AO)))) (fun z Y2 hinv2 hY2=>?_) (0,u) ?_ ⟨by simp,k2,hU⟩ (by unfold big;simp only;omega)
      ·obtain⟨k,q⟩:=z
       obtain⟨m1,m2,m3⟩:=hinv2
       simp only at m1 m2 m3 hY2 ⊢
       have hwk:IntKind.i64.wrap ((k:Int)+1)=(k:Int)+1:=i64w (by omega) (by omega)
       by_cases hk:k<L
       ·have hkI:(k:Int)<(L:Int):=by omega
        obtain⟨_,w204b,y',z',rfl⟩:=law204 q bringE m2 (by simp[bringE]) (by simp[bringE])
        rw[Zqw]at w204b
        have mb:=m2.bring 0
        rw[show L-k=(L-(k+1))+1 by omega]at m3
        have m4:bringsW (L-(k+1)) (bringW q 0)=U:=m3
        have hn:∀ st,st.norm [2,3,6,15,16,21,25,26]=head210c rates N (bringW q 0) i j L (k+1)->fin [.cell 6 5 true] 0 (Y2 st)=some (.agg (TT.c .own .own),[]):=fun st hst=>hY2 (k+1,bringW q 0) st ⟨by simp only;omega,mb,m4⟩ (by simp only;omega) hst
        generalize bringW q 0=q' at *
        simp only[Wld.refs,Wld.arrs,bringE,Event.c,ee,ei,Xt,Nat.reduceAdd]at w204b
        rcases y' with _|⟨y1',y2'⟩<;>rcases z' with _|z1'<;>simp only[outs4,Xbu,Xw]at w204b<;>simp[head210c,Wld.refs,Wld.arrs,c210b0,hkI,w204b,AO.isArr,ee,ei]
        all_goals exact (hn _ (by simp[head210c,Wld.refs,Wld.arrs,zeroW,ee,hwk,List.range,List.range.loop])).trans (by simp[ee])
       ·have e0:L-k=0:=by omega
        rw[e0]at m3
        have e3:q=U:=m3
        subst e3
        have hkI:¬ (k:Int)<(L:Int):=by omega
        simp[head210c,Wld.refs,Wld.arrs,c210b0,hkI]
        exact (hY1 (j+1,q) _ ⟨by simp only;omega,kU,k4⟩ (by simp only;omega) (by simp[head210b,Wld.refs,Wld.arrs,zeroW,ee,hwj,List.range,List.range.loop])).trans (by simp)
      ·simp[head210c,Wld.refs,Wld.arrs,zeroW,ee,List.range,List.range.loop]
     ·obtain rfl:j=2:=by omega
      have e3:u=V:=k3
      subst e3
      simp[head210b,Wld.refs,Wld.arrs,c210b1]
      exact (hY (i+1,u) _ ⟨by simp only;omega,gV,g4⟩ (by simp only;omega) (by simp[head210a,Wld.refs,Wld.arrs,zeroW,ee,hw1,List.range,List.range.loop])).trans (by simp)
    simp only[Wld.refs,Wld.arrs,tickE,Event.c,ee,ei,Xt,Nat.reduceAdd]at w204
    rcases y with _|⟨y1,y2⟩<;>rcases z with _|z1<;>simp only[outs4,Xbu,Xw]at w204<;>simp[head210a,Wld.refs,Wld.arrs,c210b2,hltI,w204,AO.isArr,ee,ei]
    all_goals exact (inner _ (by simp[head210b,Wld.refs,Wld.arrs,zeroW,ee,List.range,List.range.loop])).trans (by simp[ee])
   ·have e0:N-i=0:=by omega
    rw[e0]at g3
    have e3:v=TT:=g3
    subst e3
    have hltI:¬ (i:Int)<(N:Int):=by omega
    simp[head210a,Wld.refs,Wld.arrs,c210b2,hltI,zeroW,ee,List.range,List.range.loop]
  ·simp[head210a,Wld.refs,Wld.arrs,zeroW,ee,hN2,List.range,List.range.loop]
  ·simp[ee]
theorem law210(w:Wld)(mm:Md)(n:Int)(rates:List Int)(hs:w.small)(hf:w.flight.length<=1000)(h:worldOk w=true->WIs w):F 210 [.agg (w.c .bor mm),.int .i64 n,.sl .bor 1 (rates.map rowI)] []=some (.agg ((mateCalm w n rates).c .own .own),[]):=law210c w mm mm n rates hs hf h
def isIn(held:List T)(k:T):Bool:=held.any fun x=>sEq x k
def safeGo(held:List T):List Run->Bool
 | []=>true
 | r::rs=>if alive r && !sEq r.want.hold ⟨#[]⟩ then (if isIn held r.want.hold then false else safeGo (held++[r.want.hold]) rs) else safeGo held rs
def safe(w:Wld):Bool:=worldOk w && safeGo [] (w.mates.flatMap Mate.runs)
def mapT(held:List T):ByteArray->Option AV:=held.foldl (fun m k=>mapPut k (.bool true) m) noKeys
@[simp] theorem mapT_get(held:List T)(k:T):(mapGet k (mapT held)).getD (.bool false)=.bool (isIn held k):=by
 have h:∀ (l:List T) (m:ByteArray->Option AV) (b:Bool),(mapGet k m).getD (.bool false)=.bool b->(mapGet k (l.foldl (fun m k=>mapPut k (.bool true) m) m)).getD (.bool false)=.bool (b || l.any fun x=>sEq x k):=by
  intro l
  induction l with
  | nil=>intro m b h;simpa using h
  | cons w l ih =>
   intro m b h
   rw[Xbl,ih _ (b || sEq w k)]
   ·simp[Bool.or_assoc]
   ·rw[Zi1,Zeu w k]
    by_cases h2:sEq k w=true
    ·simp[h2]
    ·simp[h2,h]
 have:=h held noKeys false rfl
 rw[Xbk]at this
 exact this
theorem Zpq(held:List T)(k:T):mapT (held++[k])=mapPut k (.bool true) (mapT held):=by simp[mapT]
def head66m(w:Wld)(mm:Md)(i:Nat)(held:List T):St:=hd [(3,.mapr 0),(14,.sl .bor 9 (w.mates.map (Mate.c mm))),(15,.int .i64 w.mates.length),(16,.int .i64 i)] [.map false (mapT held)] 0
def head66r(w:Wld)(mm:Md)(i:Nat)(rs:List Run)(j:Nat)(held:List T):St:=hd [(3,.mapr 0),(14,.sl .bor 9 (w.mates.map (Mate.c mm))),(15,.int .i64 w.mates.length),(16,.int .i64 i),(21,.sl .bor 11 (rs.map Run.c)),(22,.int .i64 rs.length),(23,.int .i64 j)] [.map false (mapT held)] 0
theorem law66c(w:Wld)(ml mm:Md)(hw:w.small):F 66 [.agg (w.cc .bor ml mm)] []=some (.bool (safe w),[]):=by
 refine Zae fn66 rfl ?_
 have w1:=law57c w ml mm hw
 simp only[Wld.cc,Wld.c]at w1
 have hl:=hw.mates
 simp[c66,safe,w1]
 cases q1:worldOk w<;>simp
 refine (Zaa w.mates (fun i (held:List T)=>head66m w mm i held) (fun _ _=>True) (fun _ r held=>(.bool (safeGo held (r.flatMap Mate.runs)),[])) (fun held Y _=>?_) (fun i a r held Y ha hi hr _ hY=>?_) [] ?_ trivial ?_).trans rfl
 ·simp[head66m,c66b1,safeGo]
 ·have hw1:IntKind.i64.wrap ((i:Int)+1)=(i:Int)+1:=i64w (by omega) (by omega)
  obtain⟨_,hg⟩:=Xa.1 ha
  have hrs:=(hw.each a (Xe ha)).runs
  simp[head66m,c66b1,hg,hi]
  refine (Zaa a.runs (fun j (held:List T)=>head66r w mm i a.runs j held) (fun _ _=>True) (fun _ t held=>(.bool (safeGo held (t++r.flatMap Mate.runs)),[])) (fun held Z _=>?_) (fun j b t held Z hb hj ht _ hZ=>?_) held ?_ trivial ?_).trans rfl
  ·simp[head66r,c66b0]
   rw[hY held _ trivial (by simp[head66m,hw1])]
  ·have hwj:IntKind.i64.wrap ((j:Int)+1)=(j:Int)+1:=i64w (by omega) (by omega)
   obtain⟨_,hgb⟩:=Xa.1 hb
   simp only[Xa1,safeGo,alive]
   simp[head66r,c66b0,hgb,hj]
   cases q2:sEq b.want.hold ⟨#[]⟩<;>simp
   ·cases q3:aliveS b.state<;>simp
    ·exact hZ held _ trivial (by simp[head66r,hwj])
    ·cases q4:isIn held b.want.hold<;>simp
     exact hZ (held++[b.want.hold]) _ trivial (by simp[head66r,hwj,Zpq])
   ·exact hZ held _ trivial (by simp[head66r,hwj])
  ·simp[head66r]
  ·unfold big;omega
 ·simp[head66m,mapT]
 ·unfold big;omega
structure Cap(K i j n:Nat):Prop where
 le:n<=i*K+j
def textRows(held:List T):List (List AV):=held.map fun s=>[.str s]
def head67m(w:Wld)(ml mm:Md)(i:Nat)(held:List T):St:=hd [(1,.ptr 0 0 0),(3,.ref 1),(4,.int .i64 i)] [.box (w.cc .bor ml mm),.arr 1 (textRows held)] 0
def head67r(w:Wld)(ml mm:Md)(i j:Nat)(held:List T):St:=hd [(1,.ptr 0 0 0),(3,.ref 1),(4,.int .i64 i),(5,.int .i64 j)] [.box (w.cc .bor ml mm),.arr 1 (textRows held)] 0
def head67k(w:Wld)(ml mm:Md)(i j:Nat)(held:List T)(r:Run)(k:Nat):St:=hd [(1,.ptr 0 0 0),(3,.ref 1),(4,.int .i64 i),(5,.int .i64 j),(6,.ptr 2 0 0),(7,.int .i64 k)] [.box (w.cc .bor ml mm),.arr 1 (textRows held),.box r.c] 0
theorem law67c(w:Wld)(ml mm:Md)(hw:w.small):F 67 [.agg (w.cc .bor ml mm)] []=some (.bool (safe w),[]):=by
 refine Zae fn67 rfl ?_
 have w1:=law58c w ml mm hw
 simp only[Wld.cc,Wld.c]at w1
 have hl:=hw.mates
 obtain⟨K,hK⟩:∃ K:Nat,K=1048576:=⟨_,rfl⟩
 simp[c67,safe,w1]
 cases q1:worldOk w<;>simp
 refine (Zaa w.mates (fun i (held:List T)=>head67m w ml mm i held) (fun i held=>Cap K i 0 held.length) (fun _ r held=>(.bool (safeGo held (r.flatMap Mate.runs)),[])) (fun held Y _=>?_) (fun i a r held Y ha hi hr hinv hY=>?_) [] ?_ ⟨Xp _⟩ ?_).trans rfl
 ·simp[head67m,c67b2,safeGo]
 ·have hw1:IntKind.i64.wrap ((i:Int)+1)=(i:Int)+1:=i64w (by omega) (by omega)
  obtain⟨_,hg⟩:=Xa.1 ha
  have hrs:=(hw.each a (Xe ha)).runs
  simp[head67m,c67b2,hi]
  refine (Zaa a.runs (fun j (held:List T)=>head67r w ml mm i j held) (fun j held=>Cap K i j held.length) (fun _ t held=>(.bool (safeGo held (t++r.flatMap Mate.runs)),[])) (fun held Z hinv=>?_) (fun j b t held Z hb hj ht hinv hZ=>?_) held ?_ hinv ?_).trans rfl
  ·simp[head67r,c67b1,hi,hg]
   rw[hY held _ ⟨by have:=hinv.le;have e:(i+1)*K=i*K+K:=Nat.succ_mul i K;omega⟩ (by simp[head67m,hw1])]
  ·have hwj:IntKind.i64.wrap ((j:Int)+1)=(j:Int)+1:=i64w (by omega) (by omega)
   obtain⟨_,hgb⟩:=Xa.1 hb
   have hinv:=hinv.le
   have hb3:(held.length+1)*16<=140737488355328:=by
    have h9:i*K<=1048576*K:=Xaf _ (by omega)
    omega
   have hb4:held.length+1<=140737488355328:=by
    have h9:i*K<=1048576*K:=Xaf _ (by omega)
    omega
   simp only[Xa1,safeGo,alive]
   simp[head67r,c67b1,hi,hg,hj,hgb]
   cases q3:aliveS b.state<;>simp
   ·exact hZ held _ ⟨by omega⟩ (by simp[head67r,hwj])
   cases q2:sEq b.want.hold ⟨#[]⟩<;>simp
   ·refine (Zaa held (fun k (_:Unit)=>head67k w ml mm i j held b k) (fun _ _=>True) (fun _ u _=>(.bool (!isIn u b.want.hold && safeGo (held++[b.want.hold]) (t++r.flatMap Mate.runs)),[])) (fun acc V _=>?_) (fun k x u acc V hx hk hu _ hV=>?_) () ?_ trivial ?_).trans rfl
    ·simp[head67k,c67b0,textRows,takeRows,rowsPlain,hb3,hb4,isIn]
     exact hZ (held++[b.want.hold]) _ ⟨by simp;omega⟩ (by simp[head67r,hwj,textRows])
    ·have hwk:IntKind.i64.wrap ((k:Int)+1)=(k:Int)+1:=i64w (by omega) (by omega)
     obtain⟨_,hgx⟩:=Xa.1 hx
     simp only[isIn,Xbc]
     simp[head67k,c67b0,textRows,hk,hgx]
     cases q5:sEq x b.want.hold<;>simp
     exact (hV () _ trivial (by simp[head67k,hwk,textRows])).trans (by simp[isIn])
    ·simp[head67k,textRows]
    ·unfold big;omega
   ·exact hZ held _ ⟨by omega⟩ (by simp[head67r,hwj])
  ·simp[head67r]
  ·unfold big;omega
 ·simp[head67m,textRows]
 ·unfold big;omega
theorem Zq5(a:Grant):eqCells [.s,.s,.s,.i,.i] a.c a.c=some true:=by simp[eqCells,eqCell]
def head73a(m m':Md)(l:Land)(i:Nat):St:=hd [(2,.ptr 0 0 0),(3,.ptr 1 0 0),(5,.int .i64 i)] [.box (l.c .bor m),.box (l.c .bor m')] 0
def head73b(m m':Md)(l:Land)(i:Nat):St:=hd [(2,.ptr 0 0 0),(3,.ptr 1 0 0),(6,.int .i64 i)] [.box (l.c .bor m),.box (l.c .bor m')] 0
theorem law73(m m':Md)(l:Land)(hl:l.small):F 73 [.agg (l.c .bor m),.agg (l.c .bor m')] []=some (.bool true,[]):=by
 refine Zae fn73 rfl ?_
 have hg:=hl.grants
 have hp:=hl.places
 simp[c73]
 refine (Zaa l.grants (fun i (_:Unit)=>head73a m m' l i) (fun _ _=>True) (fun _ _ _=>(.bool true,[])) (fun acc Y _=>?_) (fun i a r acc Y ha hi hr _ hY=>?_) () ?_ trivial ?_).trans rfl
 ·simp[head73a,c73b0]
  refine (Zaa l.places (fun i (_:Unit)=>head73b m m' l i) (fun _ _=>True) (fun _ _ _=>(.bool true,[])) (fun acc Y _=>?_) (fun i a r acc Y ha hi hr _ hY=>?_) () ?_ trivial ?_).trans rfl
  ·simp[head73b,c73b1]
  ·have hw:IntKind.i64.wrap ((i:Int)+1)=(i:Int)+1:=i64w (by omega) (by omega)
   obtain⟨_,hg⟩:=Xa.1 ha
   have hps:=(hl.each a (Xe ha)).wants
   have hpd:∀ (h:i<l.places.length),l.places[i]'h=a:=fun _=>hg
   have w118:=law118 a.wants hps
   simp[head73b,c73b1,hi,hpd,w118]
   refine hY () _ trivial ?_
   simp[head73b,hw]
  ·simp[head73b]
  ·unfold big;omega
 ·have hw:IntKind.i64.wrap ((i:Int)+1)=(i:Int)+1:=i64w (by omega) (by omega)
  obtain⟨_,hg⟩:=Xa.1 ha
  have he:=Zq5 a
  simp only[Grant.c]at he
  simp[head73a,c73b0,hi,hg,he]
  refine hY () _ trivial ?_
  simp[head73a,hw]
 ·simp[head73a]
 ·unfold big;omega
def head313a(a b a' b':Md)(w:Wld)(i:Nat):St:=hd [(2,.ptr 0 0 0),(3,.ptr 1 0 0),(5,.int .i64 i)] [.box (w.cc .bor a b),.box (w.cc .bor a' b')] 0
def head313b(a b a' b':Md)(w:Wld)(i:Nat):St:=hd [(2,.ptr 0 0 0),(3,.ptr 1 0 0),(6,.int .i64 i)] [.box (w.cc .bor a b),.box (w.cc .bor a' b')] 0
theorem law313c(a b a' b':Md)(w:Wld)(hw:w.small):F 313 [.agg (w.cc .bor a b),.agg (w.cc .bor a' b')] []=some (.bool true,[]):=by
 refine Zae fn313 rfl ?_
 have hm:=hw.mates
 have hf:=hw.flight
 have w73:=law73 a a' w.land hw.land
 simp only[Land.c]at w73
 simp[c313,w73]
 refine (Zaa w.mates (fun i (_:Unit)=>head313a a b a' b' w i) (fun _ _=>True) (fun _ _ _=>(.bool true,[])) (fun acc Y _=>?_) (fun i m r acc Y ha hi hr _ hY=>?_) () ?_ trivial ?_).trans rfl
 ·simp[head313a,c313b0]
  refine (Zaa w.flight (fun i (_:Unit)=>head313b a b a' b' w i) (fun _ _=>True) (fun _ _ _=>(.bool true,[])) (fun acc Y _=>?_) (fun i s r acc Y ha hi hr _ hY=>?_) () ?_ trivial ?_).trans rfl
  ·simp[head313b,c313b1]
  ·have hw1:IntKind.i64.wrap ((i:Int)+1)=(i:Int)+1:=i64w (by omega) (by omega)
   obtain⟨_,hg⟩:=Xa.1 ha
   have hps:∀ (h:i<w.flight.length),w.flight[i]'h=s:=fun _=>hg
   simp[head313b,c313b1,hi,hps]
   refine hY () _ trivial ?_
   simp[head313b,hw1]
  ·simp[head313b]
  ·unfold big;omega
 ·have hw1:IntKind.i64.wrap ((i:Int)+1)=(i:Int)+1:=i64w (by omega) (by omega)
  obtain⟨_,hg⟩:=Xa.1 ha
  have hpd:∀ (h:i<w.mates.length),w.mates[i]'h=m:=fun _=>hg
  have w33:=law33 m (hw.each m (Xe ha))
  simp only[Mate.c]at w33
  simp[head313a,c313b0,hi,hpd,w33]
  refine hY () _ trivial ?_
  simp[head313a,hw1]
 ·simp[head313a]
 ·unfold big;omega
theorem law313(w:Wld)(hw:w.small):F 313 [.agg (w.c .bor .own),.agg (w.c .bor .own)] []=some (.bool true,[]):=law313c .own .own .own .own w hw
theorem Zqt(w:Wld)(h:worldOk w=true->WIs w)(a b:Int)(rates:List Int)(ha:0<=a/\a<=100)(hb:0<=b/\b<=100):mateCalm (mateCalm w a rates) b rates=mateCalm w (a+b) rates:=by
 unfold mateCalm
 cases q:worldOk w
 ·rfl
 ·have k:=(h q).rounds rates (min a.toNat 1000)
  simp only[Xag,k.ok,Zi7]
  congr 1
  omega
theorem Zil(w:Wld)(h:worldOk w=true->WIs w)(a:Int)(rates:List Int):DrawnW (mateCalm w a rates):=by
 unfold mateCalm
 cases q:worldOk w
 ·exact⟨⟨⟨by simp[Wld.zero,Land.zero],by simp[Wld.zero,Land.zero],by simp[Wld.zero,Land.zero]⟩,by simp[Wld.zero],by simp[Wld.zero],by simp[Wld.zero]⟩,by simp[Wld.zero],fun e=>by cases e⟩
 ·exact ((h q).rounds rates _).drawnW
theorem Zqx(w:Wld)(h:worldOk w=true->WIs w)(e:Event):DrawnW (mateDo w e):=by
 unfold mateDo
 cases q:worldOk w
 ·exact⟨⟨⟨by simp[Wld.zero,Land.zero],by simp[Wld.zero,Land.zero],by simp[Wld.zero,Land.zero]⟩,by simp[Wld.zero],by simp[Wld.zero],by simp[Wld.zero]⟩,by simp[Wld.zero],fun e=>by cases e⟩
 ·exact ((h q).do' e).drawnW
def noneE(n:Int):List Event:=[⟨0,0,0,[],[]⟩,⟨8,0,0,[],[]⟩,⟨2,n,0,[],[]⟩,⟨3,-1,0,[],[]⟩,⟨4,n,0,[],[]⟩,⟨5,9,0,[],[]⟩,⟨6,-1,0,[],[]⟩,⟨7,9,0,[],[]⟩]
theorem Zsi{w:Wld}(h:WIs w):∀ e∈noneE w.flight.length,mateDo w e=w:=by
 have h4:¬ (9:Int)<w.mates.length:=by have:=h.four;omega
 intro e he
 unfold mateDo
 rw[h.ok]
 simp only[noneE,Xl,Xav,Xcb]at he
 rcases he with rfl|rfl|rfl|rfl|rfl|rfl|rfl|rfl<;>simp[doW,atE,h4]
def Wld.vc(b:Bool)(mt:Md)(w:Wld):List AV:=match b with
 | false=>[.int .i64 w.land.time,.ref 3,.ref 4,.ref 5,.ref 6]
 | true=>[.int .i64 w.land.time,.ref 3,.ref 4,.sl .imm 9 (w.mates.map (Mate.c mt)),.ref 5]
def Wld.va(b:Bool)(ml mt:Md)(w:Wld):List AO:=match b with
 | false=>[.arr 5 (w.land.grants.map Grant.c),.arr 3 (w.land.places.map (Place.c ml)),.arr 9 (w.mates.map (Mate.c mt)),.arr 1 (w.flight.map rowT)]
 | true=>[.arr 5 (w.land.grants.map Grant.c),.arr 3 (w.land.places.map (Place.c ml)),.arr 1 (w.flight.map rowT)]
def head319(b:Bool)(ml mt:Md)(v y:Wld)(es:List Event)(i:Nat):St :=
 hd [(10,.ptr 0 0 0),(12,.ptr 1 0 0),(14,.ref 2),(15,.int .i64 i)] ([.box (v.vc b mt),.box (y.refs (if b then 6 else 7)),.arr 5 (es.map (Event.c .own))]++v.va b ml mt++y.arrs) 0
set_option maxHeartbeats 0 in
theorem Zqu(bs:List Int)(hbs:ListWf Byte bs)(cs:List Int)(hcs:ListWf Byte cs):F 319 [.sl .imm 1 (bs.map rowB),.sl .imm 1 (cs.map rowB)] []=some (.bool true,[]):=by
 obtain⟨hlb,hbb⟩:=hbs
 obtain⟨hlc,hbc⟩:=hcs
 refine Zae fn319 rfl ?_
 by_cases hl:1048576<bs.length
 ·have hlI:(1048576:Int)<bs.length:=by omega
  simp[c319,hlI]
 have hlI:¬ (1048576:Int)<bs.length:=by omega
 by_cases hl2:1048576<cs.length
 ·have hlI2:(1048576:Int)<cs.length:=by omega
  simp[c319,hlI,hlI2]
 have hlI2:¬ (1048576:Int)<cs.length:=by omega
 have ee:(fun s:T=>[AV.str s])=rowT:=rfl
 have ei:(fun n:Int=>[AV.int .i64 n])=rowI:=rfl
 obtain⟨B,hB⟩:∃ B:Int,(cs.length:Int).tmod 7=B:=⟨_,rfl⟩
 have hB0:0<=B/\B<=6:=by
  rw[Xba (by omega)]at hB;omega
 obtain⟨w,_,n,rs,w321,⟨b,ml,mt,rfl⟩,hw,hn0,hn1⟩:=law321 bs (by omega) (fun x hx=>hbb x hx)
 obtain⟨v,_,e,w320,⟨b2,ml2,mt2,rfl⟩,hv,he⟩:=law320 cs (by omega) (fun x hx=>hbc x hx)
 obtain⟨A,hA⟩:∃ A:Int,A=if n<0 then 0 else n:=⟨_,rfl⟩
 have hA0:0<=A/\A<=18:=by rw[hA];split<;>omega
 -- calm rounds
 have c1:=law210c w ml mt A rs hw.small hw.flight hw.is
 have hx1:=Zil w hw.is A rs
 have c2:=law210 (mateCalm w A rs) .own B rs hx1.small hx1.flight hx1.is
 rw[Zqt w hw.is A B rs (by omega) (by omega)]at c2
 have c3:=law210c w ml mt (A+B) rs hw.small hw.flight hw.is
 have c4:=law197c w ml mt (A+B) rs hw.small hw.flight hw.is
 have hx2:=Zil w hw.is (A+B) rs
 have c5:=law313 (mateCalm w (A+B) rs) hx2.small
 have wAB:IntKind.i64.wrap (A+B)=A+B:=i64w (by omega) (by omega)
 generalize mateCalm w A rs=x1 at *
 generalize mateCalm w (A+B) rs=x2 at *
 -- an event
 have hea:=he.a
 have hen:=he.nwants
 have d1:=law251c v ml2 mt2 e hv.small hv.flight hv.is (by omega) (by omega)
 have d2:=law215c v ml2 mt2 e hv.small hv.flight hv.is (by omega)
 have hy:=Zqx v hv.is e
 have d3:=law313 (mateDo v e) hy.small
 have d4:=law66c v ml2 mt2 hv.small
 have d5:=law67c v ml2 mt2 hv.small
 have d6:=law68c v ml2 mt2 hv.small
 have d7:=law69c v ml2 mt2 hv.small
 have d8:=law58c v ml2 mt2 hv.small
 have d9:=law58 (mateDo v e) .own hy.small
 simp only[Wld.cm,Wld.cc,Wld.c,Event.c,ee,ei]at w321 w320 c1 c2 c3 c4 c5 d1 d2 d3 d4 d5 d6 d7 d8 d9
 cases q:worldOk v
 ·have hz:mateDo v e=.zero:=by unfold mateDo;rw[q];rfl
  rw[hz]at d1 d2 d3
  rw[q]at d8
  simp only[Wld.zero,Land.zero,Xt]at d1 d2 d3
  by_cases hneg:n<0<;>simp only[hneg,Xag,Xaj]at hA<;>subst hA
  ·simp only[Int.zero_add]at c3 c4 wAB
   cases b<;>cases b2<;>simp[c319,hlI,hlI2,hneg,w321,w320,hB,c1,c2,c3,c4,c5,wAB,d1,d2,d3,d4,d5,d6,d7,d8,mdB,AV.soft,AO.isArr]
  ·cases b<;>cases b2<;>simp[c319,hlI,hlI2,hneg,w321,w320,hB,c1,c2,c3,c4,c5,wAB,d1,d2,d3,d4,d5,d6,d7,d8,mdB,AV.soft,AO.isArr]
 have hvi:=hv.is q
 have hyok:worldOk (mateDo v e)=true:=by
  have:mateDo v e=doW v e:=by unfold mateDo;rw[q];rfl
  rw[this];exact (hvi.do' e).ok
 rw[q]at d8
 rw[hyok]at d9
 have hnn:=Zsi hvi
 have hes:∀ x∈noneE v.flight.length,x.wants=[]/\x.rates=[]/\-1<=x.a/\x.a<=300:=fun x hx=>by
  have:=hvi.fl
  simp only[noneE,Xl,Xav,Xcb]at hx
  rcases hx with rfl|rfl|rfl|rfl|rfl|rfl|rfl|rfl<;>simp<;>omega
 have hel:(noneE v.flight.length).length=8:=rfl
 have d10:=law313c .own .own ml2 mt2 v hv.small
 generalize mateDo v e=y at *
 simp only[Wld.cc,ee]at d10
 have loop:∀ s0:St,s0.norm [10,12,14,15]=head319 b2 ml2 mt2 v y (noneE v.flight.length) 0->fin [.tmp 4] 0 (X F [.code (.loop [10,12,14,15] c319b0),.blk 0,.code (jR [xf 125 12 5,xt 126 58 125,xd 4 126] [4] .ret)] (.normal,s0))=some (.bool true,[]):=fun s0 hs0=>by
  have hrow:∀ (i:Nat) (x:Event),(noneE v.flight.length)[i]?=some x->∀ h:i<(noneE v.flight.length).length,(noneE v.flight.length)[i]=x:=fun i x k h=>by
   rw[Xd h]at k;exact Xf k
  generalize noneE v.flight.length=es at *
  refine Zaz (σ:=Nat) (fun i=>head319 b2 ml2 mt2 v y es i) (fun i=>i<=8) (fun i=>8-i) (fun _=>(AV.bool true,([]:List (Option AO)))) (fun i Y hi hY=>?_) 0 hs0 (by omega) (by unfold big;omega)
  have hw1:IntKind.i64.wrap ((i:Int)+1)=(i:Int)+1:=i64w (by omega) (by omega)
  by_cases h8:i<8
  ·have h8I:(i:Int)<8:=by omega
   have hie:i<es.length:=by omega
   obtain⟨x,hx⟩:∃ x,es[i]?=some x:=⟨_,Xd hie⟩
   have hxm:=Xe hx
   obtain⟨x1,x2,x3,x4⟩:=hes x hxm
   have hrx:=hrow i x hx hie
   have f1:=law251c v ml2 mt2 x hv.small hv.flight hv.is (by rw[x1];simp) (by omega)
   rw[hnn x hxm]at f1
   simp only[Wld.cc,Wld.c,Event.c,ee,ei,x1,x2,Xt]at f1
   cases b2<;>simp[head319,Wld.vc,Wld.va,Wld.refs,Wld.arrs,c319b0,hel,h8,h8I,hie,hrx,x1,x2,f1,d10,ee,mdB,AV.soft,AO.isArr]
   all_goals exact (hY (i+1) _ (by omega) (by omega) (by simp[head319,Wld.vc,Wld.va,Wld.refs,Wld.arrs,ee,hw1,mdB,List.range,List.range.loop])).trans (by simp)
  ·have h8I:¬ (i:Int)<8:=by omega
   cases b2<;>simp[head319,Wld.vc,Wld.va,Wld.refs,Wld.arrs,c319b0,hel,h8,h8I,d9,ee,mdB]
 by_cases hneg:n<0<;>simp only[hneg,Xag,Xaj]at hA<;>subst hA
 ·simp only[Int.zero_add]at c3 c4 wAB
  cases b<;>cases b2<;>simp[c319,hlI,hlI2,hneg,w321,w320,hB,c1,c2,c3,c4,c5,wAB,d1,d2,d3,d4,d5,d6,d7,d8,mdB,AV.soft,AO.isArr]
  all_goals exact (loop _ (by simp[head319,Wld.vc,Wld.va,Wld.refs,Wld.arrs,ee,noneE,mdB,List.range,List.range.loop])).trans (by simp)
 ·cases b<;>cases b2<;>simp[c319,hlI,hlI2,hneg,w321,w320,hB,c1,c2,c3,c4,c5,wAB,d1,d2,d3,d4,d5,d6,d7,d8,mdB,AV.soft,AO.isArr]
  all_goals exact (loop _ (by simp[head319,Wld.vc,Wld.va,Wld.refs,Wld.arrs,ee,noneE,mdB,List.range,List.range.loop])).trans (by simp)
end Go.Proofs.YtgdfelbedghhnaaGreatDoor
namespace Go.Proofs.YtgdfelbedghhnaaGreatDoor
open Go Go.RowKit
set_option linter.unusedSimpArgs false
def FzIn(fz:List (Nat×Obj))(w:World):Prop:=∀ p∈fz,p.1<w.heap.size/\w.heap[p.1]?=some p.2
def Ret(P:Program)(f:FuncId)(vs:Array Value)(w:World)(R:Value->World->Prop):Prop :=
 (callFunc f vs).run P w=.ok (.enter f vs) w/\Calls P f vs w fun e w'=>∃ v,e=.returned v/\Below w.heap.size w w'/\R v w'
theorem Ret.callable{P:Program}{f:FuncId}{vs:Array Value}{w:World}{R R':Value->World->Prop}(h:Ret P f vs w R)(hr:∀ v w',Below w.heap.size w w'->R v w'->R' v w'):Callable P f vs w R':=by
 intro o a next Q hnext
 rw[h.1,Oper.upon_enter]
 refine h.2.mono fun e w' he=>?_
 obtain⟨v,rfl,hb,hR⟩:=he
 exact hnext v w' (hr v w' hb hR)
structure PrimsOk(P:Program)(num:Nat->Option FuncId)(fz:List (Nat×Obj)):Prop where
 sfx:∀ f,num 222=some f->∀ (s p:ByteArray) (w:World),FzIn fz w->s.size<=9223372036854775807->Ret P f #[.string s,.string p] w fun v _=>v=.bool (Lib.hasSuffix s.data.toList p.data.toList)
 spl:∀ f,num 220=some f->∀ (s sep:ByteArray) (w:World),FzIn fz w->s.size<4294967281->1<=sep.size->Ret P f #[.string s,.string sep] w fun v w'=>v=.slice (some ⟨w.heap.size,0,none⟩) (splitT s sep).length (splitT s sep).length/\∃ t,w'.heap[w.heap.size]?=some (.cells ((splitT s sep).map Value.string).toArray t (0,0))
 joi:∀ f,num 230=some f->∀ (a:Option Addr) (c:Nat) (xs:List ByteArray) (sep:ByteArray) (w:World),FzIn fz w->(xs=[]\/∃ b o,a=some ⟨b,o,none⟩/\b<w.heap.size/\xs.length<=c/\∀ (j:Nat) x,xs[j]?=some x->w.cell? ⟨b,o+j,none⟩=some (.string x)) ->
  xs.length<=140737488355328->(joinT xs sep).size<=140737488355328->Ret P f #[.slice a xs.length c,.string sep] w fun v _=>v=.string (joinT xs sep)
 ito:∀ f,num 231=some f->∀ (n:Int) (w:World),FzIn fz w->-9223372036854775808<=n->n<=9223372036854775807->Ret P f #[.int .i64 n] w fun v _=>v=.string (itoaT n)
 ato:∀ f,num 221=some f->∀ (s:ByteArray) (w:World),FzIn fz w->s.size<=281474976710656->Ret P f #[.string s] w fun v _=>v=.int .i64 (numT s)
theorem Mem.fzIn{cx:Cx}{h:Nat->Option AO}{ep:Nat}{g:Gh}{w:World}(m:Mem cx h ep g w):FzIn cx.fz w:=fun _ hp=>⟨(m.fz_now hp).1,(m.fz_now hp).2.1⟩
theorem Zcq{cx:Cx}{h:Nat->Option AO}{g:Gh}{w w':World}(m:Mem cx h 0 g w)(hw:cx.w0=w)(h0:cx.base=0)(hb:Below w.heap.size w w'){v:Value}{r:AV}(hr:Cl w' g.I v r (fun _=>False))(ht:r.isTup=false) :
  ∃ I N S fo,Post cx w' v r [] I N S fo:=by
 refine⟨g.I,g.N,fun _=>False,fun _ _=>False,⟨?_,h0.symm,m.I_up,m.I_new,m.I_N,m.N_up,m.N_new,fun b h=>Xaw (m.N_lt b h) hb.size,.one _ _ _ (.one _ _ _ hr (fun _ h=>h.elim)) ht,fun k o h=>by simp at h,fun _ h=>h.elim,fun _ _ _ h=>h.elim,fun _ _ _ h=>h.elim,fun _ _ _ _ _ h=>h.elim⟩⟩
 rw[hw]
 exact⟨hb.os,hb.tape,hb.output,hb.size,fun b h1 _=>hb.block b h1⟩
theorem Zoc{cx:Cx}{h:Nat->Option AO}{g:Gh}{w w':World}(m:Mem cx h 0 g w)(hw:cx.w0=w)(h0:cx.base=0)(hb:Below w.heap.size w w'){xs:List ByteArray}{t:TypeId}(hmax:xs.length<=maxLen)
  (hh:w'.heap[w.heap.size]?=some (.cells (xs.map Value.string).toArray t (0,0))) :
  ∃ I N S fo,Post cx w' (.slice (some ⟨w.heap.size,0,none⟩) xs.length xs.length) (.sl .own 1 (xs.map fun x=>[.str x])) [] I N S fo:=by
 have hlt:=(Xab.1 hh).1
 have hca:∀ i j c,cellAt (xs.map fun x=>[AV.str x]) i j=some c->∃ x,xs[i]?=some x/\j=0/\c=.str x:=fun i j c hc=>by
  obtain⟨row,h1,h2⟩:=Zab.1 hc
  rw[Xam]at h1
  cases hi:xs[i]? with
  | none=>rw[hi]at h1;cases h1
  | some x =>
   rw[hi]at h1
   simp only[Xw,Xb]at h1
   subst h1
   cases j with
   | zero=>exact⟨x,rfl,rfl,by simpa using h2.symm⟩
   | succ j=>simp at h2
 refine⟨g.I,fun b=>g.N b\/b=w.heap.size,fun b=>b=w.heap.size,fun _ _=>False,⟨?_,h0.symm,m.I_up,m.I_new,fun b h=>.inl (m.I_N b h),fun b h=>.inl (m.N_up b h),fun b h=>?_,fun b h=>?_,.one _ _ _ (.one _ _ _ ?_ (fun x h=>.inr h)) rfl,fun k o h=>by simp at h,fun x h=>?_,fun _ _ _ h=>h.elim,fun _ _ _ _ h=>h,fun _ _ _ _ _ h=>h.elim⟩⟩
 ·rw[hw]
  exact⟨hb.os,hb.tape,hb.output,hb.size,fun b h1 _=>hb.block b h1⟩
 ·rcases h with h|h
  ·exact m.N_new b h
  ·exact .inr (by rw[hw,h];exact Xo _)
 ·rcases h with h|h
  ·exact Xaw (m.N_lt b h) hb.size
  ·rw[h];exact hlt
 ·have e:xs.length=(xs.map fun x=>[AV.str x]).length:=by simp
  rw[e]
  have e2:(xs.map fun x=>[AV.str x]).length=xs.length:=by simp
  refine .own 1 _ w.heap.size _ (xs.map Value.string).toArray t (fun i _=>(xs[i]?.map Value.string).getD undef) (fun _ _ _=>False) _ hh (by simp) (by rw[e2];exact hmax) (by simp) (fun row hr=>?_) (fun i j c hc=>?_) (fun i j c hc=>?_) (fun _ _ _ _ _ _ _ _ _ h=>h.elim) (fun _ _ _ _ h=>h) (fun x=>?_)
  ·obtain⟨x,_,rfl⟩:=Xap.1 hr;rfl
  ·obtain⟨x,h1,rfl,rfl⟩:=hca i j c hc
   simp[h1]
  ·obtain⟨x,h1,rfl,rfl⟩:=hca i j c hc
   simp only[h1,Xw,Xbb]
   exact .str _ _ (fun _ h=>h)
  ·constructor
   ·exact fun h=>.inl h
   ·rintro (h|⟨_,_,_,_,h⟩)
    ·exact h
    ·exact h.elim
 ·subst h
  refine⟨.inr (by rw[hw];exact Xo _),fun hI=>?_⟩
  have:=m.I_lt _ hI
  omega
theorem Zex:∀ {rows:List (List AV)} {xs:List ByteArray},textsOf rows=some xs->xs.length=rows.length/\∀ (j:Nat) x,xs[j]?=some x->cellAt rows j 0=some (.str x)
 | [],xs,h=>by
  simp only[textsOf,Xb]at h
  subst h
  exact⟨rfl,fun j x hx=>by simp at hx⟩
 | []::_,xs,h=>by simp[textsOf]at h
 | (c::d::e)::r,xs,h=>by
  cases c<;>simp[textsOf]at h
 | [c]::r,xs,h=>by
  cases c<;>try (simp[textsOf]at h;done)
  rename_i s
  simp only[textsOf]at h
  cases hr:textsOf r with
  | none=>rw[hr]at h;cases h
  | some ys =>
   rw[hr]at h
   simp only[Xb]at h
   subst h
   obtain⟨h1,h2⟩:=Zex hr
   refine⟨by simp[h1],fun j x hx=>?_⟩
   cases j with
   | zero =>
    simp only[Xm,Xb]at hx
    subst hx
    exact Zab.2 ⟨_,rfl,rfl⟩
   | succ j =>
    obtain⟨row,h3,h4⟩:=Zab.1 (h2 j x (by simpa using hx))
    exact Zab.2 ⟨row,by simpa using h3,h4⟩
theorem Zie{P:Program}{num:Nat->Option FuncId}{fz:List (Nat×Obj)}(hp:PrimsOk P num fz):∀ k f args objs r outs,num k=some f->prim k args objs=some (r,outs)->Contract P num fz f args objs r outs:=by
 intro k f args objs r outs hn h
 cases objs with
 | cons _ _=>cases h
 | nil =>
 replace h:primGo k args=some (r,outs):=h
 intro cx g w vs hP hnum hfz hw0 hbase hh0 hv0 hu m hsz hrel
 subst hP;subst hnum;subst hfz
 have hfi:=m.fzIn
 have hbase0:cx.base=0:=hbase
 have one:∀ (c:AV),args=[c]->∃ v,vs=#[v]/\SRel cx.num w cx.R g (startHeap [] 0) 0 v c:=fun c hc=>by
  subst hc
  have:vs.size=1:=hsz
  obtain⟨v,rfl⟩:∃ v,vs=#[v]:=⟨vs[0],by apply Xcs ;match vs,this with|⟨[x]⟩,_=>rfl⟩
  exact⟨v,rfl,hrel 0 v c rfl rfl⟩
 have two:∀ (c d:AV),args=[c,d]->∃ v u,vs=#[v,u]/\SRel cx.num w cx.R g (startHeap [] 0) 0 v c/\SRel cx.num w cx.R g (startHeap [] 0) 0 u d:=fun c d hc=>by
  subst hc
  have:vs.size=2:=hsz
  obtain⟨v,u,rfl⟩:∃ v u,vs=#[v,u]:=by match vs,this with|⟨[x,y]⟩,_=>exact⟨x,y,rfl⟩
  exact⟨v,u,rfl,hrel 0 v c rfl rfl,hrel 1 u d rfl rfl⟩
 unfold primGo at h
 split at h
 ·subst k
  split at h
  case h_2=>cases h
  rename_i s p
  split at h
  case isFalse=>cases h
  rename_i hs
  obtain⟨rfl,rfl⟩:=Prod.mk.inj (Xf h)
  obtain⟨v,u,rfl,r1,r2⟩:=two _ _ rfl
  cases r1;cases r2
  refine (hp.sfx f hn s p w hfi hs).callable fun v w' hb hv=>?_
  subst hv
  exact Zcq m hw0 hbase0 hb (.bool _ _ fun _ h=>h) rfl
 split at h
 ·subst k
  split at h
  case h_2=>cases h
  rename_i s sep
  split at h
  case isFalse=>cases h
  rename_i hs
  obtain⟨rfl,rfl⟩:=Prod.mk.inj (Xf h)
  obtain⟨v,u,rfl,r1,r2⟩:=two _ _ rfl
  cases r1;cases r2
  refine (hp.spl f hn s sep w hfi hs.1 hs.2).callable fun v w' hb hv=>?_
  obtain⟨rfl,t,ht⟩:=hv
  have hlen:(splitT s sep).length=Lib.countB s sep+1:=Lib.splitB_all sep hs.2 0 _ s rfl
  have hle:=Lib.countB_le sep hs.2 s.size s (Xo _)
  exact Zoc m hw0 hbase0 hb (by rw[hlen];unfold maxLen;omega) ht
 split at h
 ·subst k
  split at h
  case h_2=>cases h
  rename_i rows sep
  split at h
  case h_2=>cases h
  rename_i xs hx
  split at h
  case isFalse=>cases h
  rename_i hs
  obtain⟨rfl,rfl⟩:=Prod.mk.inj (Xf h)
  obtain⟨v,u,rfl,r1,r2⟩:=two _ _ rfl
  obtain⟨hl,hc⟩:=Zex hx
  cases r2
  cases r1 with
  | sl _ _ _ _ h1 hm _ _ =>
   have hB:=hm rfl
   cases hB with
   | nil _ _ a cap =>
    have:xs=[]:=by simpa using hl
    subst this
    refine (hp.joi f hn a cap [] sep w hfi (.inl rfl) hs.1 hs.2).callable fun v w' hb hv=>?_
    subst hv
    exact Zcq m hw0 hbase0 hb (.str _ _ fun _ h=>h) rfl
   | sl _ _ _ b o cap us hcap hb' hrow hcell hin =>
    rw[<- hl]
    refine (hp.joi f hn (some ⟨b,o,none⟩) cap xs sep w hfi (.inr ⟨b,o,rfl,?_,by omega,fun j x hj=>?_⟩) hs.1 hs.2).callable fun v w' hb hv=>?_
    ·have h3:=m.R_old b hb'
     rw[hw0]at h3
     exact h3.1
    ·have h3:=hc j x hj
     have h4:=hcell j 0 _ h3
     have h5:=hin j 0 _ h3
     rw[Nat.mul_one,Nat.add_zero]at h4
     rw[h4]
     generalize us j 0=uv at h5
     cases h5
     rfl
    ·subst hv
     exact Zcq m hw0 hbase0 hb (.str _ _ fun _ h=>h) rfl
 split at h
 ·subst k
  split at h
  case h_2=>cases h
  rename_i n
  split at h
  case isFalse=>cases h
  rename_i hs
  obtain⟨rfl,rfl⟩:=Prod.mk.inj (Xf h)
  obtain⟨v,rfl,r1⟩:=one _ rfl
  cases r1
  refine (hp.ito f hn n w hfi hs.1 hs.2).callable fun v w' hb hv=>?_
  subst hv
  exact Zcq m hw0 hbase0 hb (.str _ _ fun _ h=>h) rfl
 split at h
 ·subst k
  split at h
  case h_2=>cases h
  rename_i s
  split at h
  case isFalse=>cases h
  rename_i hs
  obtain⟨rfl,rfl⟩:=Prod.mk.inj (Xf h)
  obtain⟨v,rfl,r1⟩:=one _ rfl
  cases r1
  refine (hp.ato f hn s w hfi hs).callable fun v w' hb hv=>?_
  subst hv
  exact Zcq m hw0 hbase0 hb (.int _ _ _ fun _ h=>h) rfl
 ·cases h
theorem Zp5{P:Program}{num:Nat->Option FuncId}(h:∀ e∈sortTab,∀ f t fs,num e.1=some f->num (1000+e.1)=some t->num kSort=some fs->SortOk P fs f t e.2.1 e.2.2.1 e.2.2.2):SrtAll P num :=
 fun kl o c sz hm f t fs h1 h2 h3=>h (kl,o,c,sz) (by simpa using hm) f t fs h1 h2 h3
end Go.Proofs.YtgdfelbedghhnaaGreatDoor
