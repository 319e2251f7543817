/- Each operation of the model does what the abstract machine's does: stores, literals of slices, make. And what follows from it, part by part, as the proof needs it. -/
import Derived.Test.YtgdfelbedghhnaaGreatDoorB2
import Derived.Test.YtgdfelbedghhnaaGreatDoorB1
import Derived.MapKept
import Derived.Laws.BytesArg
namespace Go.Proofs.YtgdfelbedghhnaaGreatDoor
open Go Go.RowKit
set_option linter.unusedSimpArgs false
theorem Zgb{P:Program}{w:World}{t e2:TypeId}{i0:TypeInfo}(hi:P.info? t=some i0){b off:Nat}{cur:Array Value}(hg:w.heap[b]?=some (.cells cur e2 (0,0)))(v:Value)(hsz:v.cells.size=i0.size)(h1:∀ u∈v.cells.toList,u.oneCell'=true)
  (hfit:off+v.cells.size<=cur.size) :
  (storeVar t ⟨b,off,none⟩ v).run P w=.ok () (w.setRow b (cur.toList.take off++v.cells.toList++cur.toList.drop (off+v.cells.size)).toArray):=by
 have hst:=run_storeCells_at P b off e2 v.cells.toList 0 cur w hg (by simpa using hfit) h1
 simp only[Nat.add_zero,Xau]at hst
 simp[storeVar,Zav hi,hsz,hst]
theorem getElem?_patch{cur vs:List Value}{o k:Nat}(hfit:o+vs.length<=cur.length):(cur.take o++vs++cur.drop (o+vs.length))[k]?=if o<=k/\k<o+vs.length then vs[k-o]? else cur[k]?:=by
 have hl:(cur.take o).length=o:=by simp;omega
 rw[Xa7,Xa9,hl]
 by_cases h1:k<o
 ·rw[Xr h1,Xu (by omega),Xal,Xr h1]
 ·rw[Xu h1,Xa9]
  by_cases h2:k-o<vs.length
  ·rw[Xr h2,Xr (by omega)]
  ·rw[Xu h2,Xu (by omega),Xaq]
   congr 1
   omega
theorem CellsRel.one{num:Nat->Option FuncId}{w:World}{R:Nat->Prop}{g:Gh}{h:Nat->Option AO}{ep:Nat}{us:Array Value}{cs:List AV}(hc:CellsRel num w R g h ep us cs):∀ u∈us.toList,u.oneCell'=true:=by
 intro u hu
 obtain⟨j,hj⟩:=Xak hu
 rw[Xbi]at hj
 have hlt:=(Xab.1 hj).1
 exact (hc.2 j u _ hj (Xd (by rw[<- hc.1];exact hlt))).1
section
variable {cx:Cx} {s:St} {g:Gh} {a:Act} {w:World} {o:Oper} {key:Nat} {out:Out} {cl:Callee}
theorem Zib(m:Mem cx s.heap s.ep g w){id off:Nat}{cells vs:List AV}{b:Nat}{us:Array Value}(hh:s.heap id=some (.box cells))(hv:g.v id=.pointer (some ⟨b,0,none⟩))(hc:CellsRel cx.num w cx.R g s.heap s.ep us vs)
  (hle:off+vs.length<=cells.length)
  (hrun:∀ cur e2,w.heap[b]?=some (.cells cur e2 (0,0))->off+us.size<=cur.size->(execOp a.eval o).run cx.P w=.ok .skip (w.setRow b (cur.toList.take off++us.toList++cur.toList.drop (off+us.size)).toArray))
  (h:out=⟨.any,[(id,some (.box (lay cells off vs)))],false⟩):Done cx s g a w o key out:=by
 subst h
 obtain⟨b',cur,e2,hv',hheap,hsz,hS,hN,hcs⟩:=m.objs id _ hh
 rw[hv]at hv'
 simp only[Value.pointer.injEq,Xb,Addr.mk.injEq,Xbv]at hv'
 subst hv'
 have hus:=hc.1
 have hfit:off+us.size<=cur.size:=by omega
 have hr:=hrun cur e2 hheap hfit
 have hnew:=setRow_heap w b cur (cur.toList.take off++us.toList++cur.toList.drop (off+us.size)).toArray e2 (0,0) hheap
 have hoth:∀ k,k≠b->(w.setRow b (cur.toList.take off++us.toList++cur.toList.drop (off+us.size)).toArray).heap[k]?=w.heap[k]?:=fun k hk=>setRow_other w b k _ hk
 generalize hw1:w.setRow b (cur.toList.take off++us.toList++cur.toList.drop (off+us.size)).toArray=w1 at hr hnew hoth
 have hSb:g.fp id b:=(hS b).2 rfl
 have hsize:w1.heap.size=w.heap.size:=by rw[<- hw1];simp[World.setRow]
 have hfr:w1.os=w.os/\w1.tape=w.tape/\w1.output=w.output:=by rw[<- hw1];exact⟨rfl,rfl,rfl⟩
 have hheap':wsOn s.heap [(id,some (.box (lay cells off vs)))]=upd s.heap id (some (.box (lay cells off vs))):=rfl
 have t:Touch cx (fun j=>j=id) s.heap s.ep g w (upd s.heap id (some (.box (lay cells off vs)))) s.ep g w1:=by
  refine⟨hfr.1,hfr.2.1,hfr.2.2,by omega,Xo _,?_,?_,fun _ h=>h,?_,?_,?_,?_,fun _ h=>h,fun _ h=>.inl h,m.I_N,fun _ h=>h,fun _ h=>.inl h,?_⟩
  ·intro j hj
   exact⟨by simp[upd,hj],fun _=>⟨rfl,rfl⟩⟩
  ·intro k hk hO
   exact hoth k (fun e=>hO ⟨id,_,rfl,hh,e ▸ hSb⟩)
  ·intro j o' hj _
   rw[hj];exact m.used id _ hh
  ·intro j o' hj _ ho
   rw[hj]at ho ⊢
   simp only[upd,Xag,Xb]at ho
   subst ho
   exact⟨_,hh,trivial,rfl⟩
  ·intro j o' k hj _ hf
   rw[hj]at hf
   exact⟨.inr ⟨id,_,rfl,hh,hf⟩,(m.mine id _ k hh hf).2⟩
  ·intro j j' _ _ k hj hj' _ _ _ _
   exact hj.trans hj'.symm
  ·intro _ k hk
   exact hoth k (fun e=>hN (e ▸ hk))
 have k:=t.keeps m
 refine⟨.skip,undef,w1,g,hr,.inr ⟨rfl,rfl⟩,k,t.mem m (fun j o' hj ho=>?_),.any _,fun _ h=>.inl h⟩
 rw[hj]at ho ⊢
 simp only[upd,Xag,Xb]at ho
 subst ho
 refine⟨b,_,e2,hv,hnew,?_,hS,hN,fun i u c hu hci=>?_⟩
 ·rw[Zfm _ _ _ hle,<- hsz]
  simp only[List.size_toArray,Xs,Xbj,Xb3,Xau]
  rw[Xbt (by omega)]
  omega
 ·rw[Xbd,show us.size=us.toList.length by simp,getElem?_patch (by simp;omega)]at hu
  rw[Zl4 _ _ _ _ hle]at hci
  simp only[Xau]at hu
  by_cases h1:off<=i/\i<off+vs.length
  ·rw[Xr (by omega)]at hu
   rw[Xr h1]at hci
   rw[Xbi]at hu
   obtain⟨h2,h3⟩:=hc.2 _ _ _ hu hci
   exact⟨h2,h3.mono k⟩
  ·rw[Xu (by omega)]at hu
   rw[Xu h1]at hci
   rw[Xbi]at hu
   obtain⟨h2,h3⟩:=hcs _ _ _ hu hci
   exact⟨h2,h3.mono k⟩
def srcFp(g:Gh):Option Nat->Nat->Prop
 | some id=>g.fp id
 | none=>fun _=>False
theorem CellIn.closed(m:Mem cx s.heap s.ep g w){u:Value}{c:AV}{src:Option Nat}(h:CellIn s.heap g w u c src):Cl w g.I u c (srcFp g src):=by
 cases src with
 | none=>exact h
 | some id =>
  obtain⟨sz,xs,hh,rfl,rfl⟩:=h
  exact (m.objs id _ hh).1
theorem CellIn.alive{u:Value}{c:AV}{id:Nat}(h:CellIn s.heap g w u c (some id)):∃ sz xs,s.heap id=some (.arr sz xs):=by
 obtain⟨sz,xs,hh,_⟩:=h
 exact⟨sz,xs,hh⟩
theorem Zba{xs:List (List AV)}{i:Nat}{row:List AV}(hi:i<xs.length)(i' j:Nat):cellAt (xs.set i row) i' j=if i'=i then row[j]? else cellAt xs i' j:=by
 unfold cellAt
 rw[List.getElem?_set]
 by_cases h:i=i'
 ·subst h;simp[hi]
 ·simp[h,Ne.symm h]
def srcAt(vs:List AV)(k:Nat):Option Nat:=(((vs[k]?).map refId).getD []).head?
theorem Zfq{vs:List AV}{k id:Nat}(h:srcAt vs k=some id):∃ x,vs[k]?=some x/\id∈refId x:=by
 unfold srcAt at h
 cases hx:vs[k]? with
 | none=>rw[hx]at h;simp at h
 | some x =>
  rw[hx]at h
  exact⟨x,rfl,List.mem_of_mem_head? (by simpa using h)⟩
theorem Zla{vs:List AV}{k id:Nat}(h:srcAt vs k=some id):id∈vs.flatMap refId:=by
 obtain⟨x,hx,hm⟩:=Zfq h
 exact Xbn.2 ⟨x,Xe hx,hm⟩
theorem Zk9{vs:List AV}(hn:(vs.flatMap refId).Nodup){k k' id:Nat}(h:srcAt vs k=some id)(h':srcAt vs k'=some id):k=k':=by
 obtain⟨x,hx,hm⟩:=Zfq h
 obtain⟨y,hy,hm'⟩:=Zfq h'
 exact Zm2 hn hx hy hm hm'
theorem Zew{vs:List AV}{k:Nat}{x:AV}(h:vs[k]?=some x):srcAt vs k=(refId x).head?:=by simp[srcAt,h]
theorem Zia(m:Mem cx s.heap s.ep g w){id i off sz:Nat}{xs:List (List AV)}{row vs cs:List AV}{is:List Nat}{b n cap:Nat}{us:Array Value}(hh:s.heap id=some (.arr sz xs))(hv:g.v id=.slice (some ⟨b,0,none⟩) n cap)
  (hrow:xs[i]?=some row) (hc:CellsRel cx.num w cx.R g s.heap s.ep us vs) (ha:absorb s.heap vs=some (cs,is)) (hle:off+cs.length<=row.length) (hdist:distinct (id::is)=true)
  (hrun:∀ cur e2,w.heap[b]?=some (.cells cur e2 (0,0))->(i*sz+off)+us.size<=cur.size->(execOp a.eval o).run cx.P w=.ok .skip (w.setRow b (cur.toList.take (i*sz+off)++us.toList++cur.toList.drop ((i*sz+off)+us.size)).toArray))
  (h:out=⟨.any,(id,some (.arr sz (xs.set i (lay row off cs))))::kill is,true⟩):Done cx s g a w o key out:=by
 subst h
 have hlt:=(Xa.1 hrow).1
 obtain⟨hcl0,hN0⟩:=m.objs id _ hh
 obtain⟨hcsl,hisv,hcells⟩:=Zdj (num:=cx.num) (w:=w) (R:=cx.R) (g:=g) (ep:=s.ep) ha
 have hnd:=Za6 hdist
 rw[hisv]at hnd
 obtain⟨hidn,hnd⟩:=List.nodup_cons.1 hnd
 rw[<- hisv]at hidn
 rcases hcl0.rows with ⟨h5,h6,_⟩|⟨b',cap',cur,e2,us0,fs,h5,hheap,hcap,hmax,hcur,hcell,r0,hnb,hS⟩
 ·rw[h6]at hlt;simp at hlt
 rw[hv]at h5
 simp only[Value.slice.injEq,Xb,Addr.mk.injEq,Xbv]at h5
 obtain⟨rfl,rfl,rfl⟩:=h5
 have hrl:=Zm9 r0.row hrow
 have hus:=hc.1
 have hin1:(i+1)*sz<=cap*sz:=Xaf _ (by omega)
 rw[Xa2,Nat.one_mul]at hin1
 have hfit:(i*sz+off)+us.size<=cur.size:=by omega
 have hr:=hrun cur e2 hheap hfit
 have hnew:=setRow_heap w b cur (cur.toList.take (i*sz+off)++us.toList++cur.toList.drop ((i*sz+off)+us.size)).toArray e2 (0,0) hheap
 have hoth:∀ k,k≠b->(w.setRow b (cur.toList.take (i*sz+off)++us.toList++cur.toList.drop ((i*sz+off)+us.size)).toArray).heap[k]?=w.heap[k]?:=fun k hk=>setRow_other w b k _ hk
 generalize hw1:w.setRow b (cur.toList.take (i*sz+off)++us.toList++cur.toList.drop ((i*sz+off)+us.size)).toArray=w1 at hr hnew hoth
 have hSb:g.fp id b:=(hS b).2 (.inl rfl)
 have hsize:w1.heap.size=w.heap.size:=by rw[<- hw1];simp[World.setRow]
 have hfr:w1.os=w.os/\w1.tape=w.tape/\w1.output=w.output:=by rw[<- hw1];exact⟨rfl,rfl,rfl⟩
 -- what moved in
 have hsrc:∀ k c,cs[k]?=some c->∃ u,us[k]?=some u/\CellIn s.heap g w u c (srcAt vs k):=by
  intro k c hk
  have hk1:=(Xa.1 hk).1
  have hu:us[k]?=some (us[k]'(by omega)):=Xz (by omega)
  have hx:vs[k]?=some (vs[k]'(by omega)):=Xd (by omega)
  refine⟨_,hu,?_⟩
  rw[Zew hx]
  exact hcells k _ _ c hx hk (hc.2 k _ _ hu hx).2
 have halive:∀ k j,k<cs.length->srcAt vs k=some j->j∈is/\j≠id/\∃ sz0 xs0,s.heap j=some (.arr sz0 xs0):=by
  intro k j hk hj
  have hm:j∈is:=by rw[hisv];exact Zla hj
  obtain⟨u,_,h2⟩:=hsrc k _ (Xd hk)
  rw[hj]at h2
  exact⟨hm,fun e=>hidn (e ▸ hm),h2.alive⟩
 have hisalive:∀ j∈is,∃ o1,s.heap j=some o1:=by
  intro j hj
  rw[hisv]at hj
  obtain⟨x,hx,hjx⟩:=Xbn.1 hj
  obtain⟨k,hk⟩:=Xak hx
  have hk1:=(Xa.1 hk).1
  have hs:srcAt vs k=some j:=by
   rw[Zew hk]
   cases x<;>simp[refId]at hjx ⊢
   exact hjx.symm
  obtain⟨_,_,sz0,xs0,ho⟩:=halive k j (by omega) hs
  exact⟨_,ho⟩
 -- the new rows
 have hcat:∀ i' j c,cellAt (xs.set i (lay row off cs)) i' j=some c->(i'=i/\off<=j/\j<off+cs.length/\cs[j-off]?=some c)\/(¬ (i'=i/\off<=j/\j<off+cs.length)/\cellAt xs i' j=some c):=by
  intro i' j c hcc
  rw[Zba hlt]at hcc
  by_cases h1:i'=i
  ·rw[Xr h1,Zl4 _ _ _ _ hle]at hcc
   by_cases h2:off<=j/\j<off+cs.length
   ·rw[Xr h2]at hcc;exact .inl ⟨h1,h2.1,h2.2,hcc⟩
   ·rw[Xu h2]at hcc;exact .inr ⟨fun h=>h2 h.2,Zab.2 ⟨row,by rw[h1];exact hrow,hcc⟩⟩
  ·rw[Xu h1]at hcc;exact .inr ⟨fun h=>h1 h.1,hcc⟩
 let fs':Nat->Nat->Nat->Prop:=fun i' j x=>if i'=i/\off<=j/\j<off+cs.length then srcFp g (srcAt vs (j-off)) x else fs i' j x
 let us':Nat->Nat->Value:=fun i' j=>if i'=i/\off<=j/\j<off+cs.length then us[j-off]?.getD undef else us0 i' j
 have hsrcfp:∀ k x,k<cs.length->srcFp g (srcAt vs k) x->∃ j sz0 xs0,srcAt vs k=some j/\j∈is/\j≠id/\s.heap j=some (.arr sz0 xs0)/\g.fp j x:=by
  intro k x hk hx
  cases hj:srcAt vs k with
  | none=>rw[hj]at hx;exact hx.elim
  | some j =>
   rw[hj]at hx
   obtain⟨h1,h2,sz0,xs0,h3⟩:=halive k j hk hj
   exact⟨j,sz0,xs0,rfl,h1,h2,h3,hx⟩
 have rr:Rows w g.I sz (xs.set i (lay row off cs)) us' fs':=by
  refine⟨fun r hr'=>?_,fun i' j c hcc=>?_,fun i1 j1 c1 i2 j2 c2 x hc1 hc2 hf1 hf2=>?_⟩
  ·rcases Xat hr' with h1|h1
   ·exact r0.row r h1
   ·rw[h1,Zfm _ _ _ hle];exact hrl
  ·rcases hcat i' j c hcc with ⟨h1,h2,h3,h4⟩|⟨h1,h2⟩
   ·have hif:i'=i/\off<=j/\j<off+cs.length:=⟨h1,h2,h3⟩
    obtain⟨u,h5,h6⟩:=hsrc _ _ h4
    simp only[us',fs',hif,Xcy,Xag,h5,Xbb]
    exact h6.closed m
   ·simp only[us',fs',h1,Xaj]
    exact r0.cl i' j c h2
  ·rcases hcat i1 j1 c1 hc1 with ⟨h1,h2,h3,h4⟩|⟨h1,h2⟩<;>rcases hcat i2 j2 c2 hc2 with ⟨k1,k2,k3,k4⟩|⟨k1,k2⟩
   ·have hi1:i1=i/\off<=j1/\j1<off+cs.length:=⟨h1,h2,h3⟩
    have hi2:i2=i/\off<=j2/\j2<off+cs.length:=⟨k1,k2,k3⟩
    simp only[fs',hi1,hi2,Xcy,Xag]at hf1 hf2
    obtain⟨a1,_,_,p1,_,_,p2,p3⟩:=hsrcfp _ _ (by omega) hf1
    obtain⟨a2,_,_,q1,_,_,q2,q3⟩:=hsrcfp _ _ (by omega) hf2
    have:=m.disj a1 a2 _ _ x p2 q2 p3 q3
    subst this
    have:=Zk9 hnd p1 q1
    exact⟨by omega,by omega⟩
   ·have hi1:i1=i/\off<=j1/\j1<off+cs.length:=⟨h1,h2,h3⟩
    simp only[fs',hi1,k1,Xcy,Xag,Xaj]at hf1 hf2
    obtain⟨a1,_,_,p1,_,p0,p2,p3⟩:=hsrcfp _ _ (by omega) hf1
    exact absurd (m.disj a1 id _ _ x p2 hh p3 ((hS x).2 (.inr ⟨_,_,_,k2,hf2⟩))) p0
   ·have hi2:i2=i/\off<=j2/\j2<off+cs.length:=⟨k1,k2,k3⟩
    simp only[fs',hi2,h1,Xcy,Xag,Xaj]at hf1 hf2
    obtain⟨a1,_,_,p1,_,p0,p2,p3⟩:=hsrcfp _ _ (by omega) hf2
    exact absurd (m.disj a1 id _ _ x p2 hh p3 ((hS x).2 (.inr ⟨_,_,_,h2,hf1⟩))) p0
   ·simp only[fs',h1,k1,Xaj]at hf1 hf2
    exact r0.dis _ _ _ _ _ _ x h2 k2 hf1 hf2
 have hfall:∀ x,Fall (xs.set i (lay row off cs)) fs' x->(g.fp id x/\x≠b)\/∃ j o1,j∈is/\j≠id/\s.heap j=some o1/\g.fp j x:=by
  rintro x ⟨i',j,c,hcc,hf⟩
  rcases hcat i' j c hcc with ⟨h1,h2,h3,h4⟩|⟨h1,h2⟩
  ·have hi1:i'=i/\off<=j/\j<off+cs.length:=⟨h1,h2,h3⟩
   simp only[fs',hi1,Xcy,Xag]at hf
   obtain⟨a1,_,_,p1,p,p0,p2,p3⟩:=hsrcfp _ _ (by omega) hf
   exact .inr ⟨a1,_,p,p0,p2,p3⟩
  ·simp only[fs',h1,Xaj]at hf
   exact .inl ⟨(hS x).2 (.inr ⟨_,_,_,h2,hf⟩),fun e=>hnb (e ▸ ⟨_,_,_,h2,hf⟩)⟩
 have hnotb:¬ Fall (xs.set i (lay row off cs)) fs' b:=by
  intro hx
  rcases hfall b hx with ⟨_,h1⟩|⟨j,o1,_,h2,h3,h4⟩
  ·exact h1 rfl
  ·exact h2 (m.disj j id _ _ b h3 hh h4 hSb)
 have hIb:¬ g.I b:=(m.mine id _ b hh hSb).2
 have hcl1:=rr.own (w1:=w1) (b:=b) (cap:=cap) hnew (by rw[Xa0];exact hcap) hmax (by
   refine Xac hcur ?_
   simp only[List.size_toArray,Xs,Xbj,Xb3,Xau]
   rw[Xbt (by omega)]
   omega)
  (by
   intro i' j c hcc
   have hj:=Zbh rr.row hcc
   have hi':=Zcg hcc
   rw[Xa0]at hi'
   rw[Xbd,show us.size=us.toList.length by simp,getElem?_patch (by simp;omega)]
   simp only[Xau,Xbi]
   rcases hcat i' j c hcc with ⟨h1,h2,h3,h4⟩|⟨h1,h2⟩
   ·have hif:i'=i/\off<=j/\j<off+cs.length:=⟨h1,h2,h3⟩
    rw[Xr (by rw[h1];omega)]
    obtain⟨u,h5,_⟩:=hsrc _ _ h4
    simp only[us',hif,Xcy,Xag]
    rw[show i*sz+j-(i*sz+off)=j-off by omega,h5]
    rfl
   ·simp only[us',h1,Xaj]
    rw[Xu,hcell _ _ _ h2]
    rintro⟨h3,h4⟩
    -- the place would lie in another row
    have hii:i'=i:=by
     rcases Xcj i' i with hlt'|heq|hgt
     ·have:(i'+1)*sz<=i*sz:=Xaf _ hlt'
      rw[Xa2]at this;omega
     ·exact heq
     ·have:(i+1)*sz<=i'*sz:=Xaf _ hgt
      rw[Xa2]at this;omega
    subst hii
    exact h1 ⟨rfl,by omega,by omega⟩)
  (fun x hx=>hoth x (fun e=>hnotb (e ▸ hx))) (fun x hx=>hoth x (fun e=>hIb (e ▸ hx))) hnotb
 have hheap':∀ j,wsOn s.heap ((id,some (.arr sz (xs.set i (lay row off cs))))::kill is) j=if j∈is then none else if j=id then some (.arr sz (xs.set i (lay row off cs))) else s.heap j:=by
  intro j
  rw[wsOn,Ze0]
  rfl
 have hlive:∀ j o1,(j=id\/j∈is)->wsOn s.heap ((id,some (.arr sz (xs.set i (lay row off cs))))::kill is) j=some o1->j=id/\o1=.arr sz (xs.set i (lay row off cs)):=by
  intro j o1 hj ho
  rw[hheap']at ho
  by_cases h1:j∈is
  ·simp[h1]at ho
  ·have h2:=hj.resolve_right h1
   simp only[h1,Xaj]at ho
   rw[Xr h2]at ho
   exact⟨h2,(Xf ho).symm⟩
 let F':Nat->Prop:=fun x=>x=b\/Fall (xs.set i (lay row off cs)) fs' x
 have hF':∀ x,F' x->Of (fun j=>j=id\/j∈is) s.heap g x:=by
  rintro x (rfl|hx)
  ·exact⟨id,_,.inl rfl,hh,hSb⟩
  ·rcases hfall x hx with ⟨h1,_⟩|⟨j,o1,h1,_,h3,h4⟩
   ·exact⟨id,_,.inl rfl,hh,h1⟩
   ·exact⟨j,o1,.inr h1,h3,h4⟩
 have hfpid:upd g.fp id F' id=F':=by simp[upd]
 have t:Touch cx (fun j=>j=id\/j∈is) s.heap s.ep g w (wsOn s.heap ((id,some (.arr sz (xs.set i (lay row off cs))))::kill is)) (s.ep+1) ⟨g.v,upd g.fp id F',g.I,g.N,g.used⟩ w1:=by
  refine⟨hfr.1,hfr.2.1,hfr.2.2,by omega,Xca _,?_,?_,fun _ h=>h,?_,?_,?_,?_,fun _ h=>h,fun _ h=>.inl h,m.I_N,fun _ h=>h,fun _ h=>.inl h,fun he=>absurd he (by omega)⟩
  ·intro j hj
   have h1:j≠id:=fun e=>hj (.inl e)
   have h2:j ∉ is:=fun e=>hj (.inr e)
   exact⟨by rw[hheap'];simp[h1,h2],fun _=>⟨rfl,by simp[upd,h1]⟩⟩
  ·intro k hk hO
   exact hoth k (fun e=>hO ⟨id,_,.inl rfl,hh,e ▸ hSb⟩)
  ·intro j o1 hj ho
   obtain⟨rfl,_⟩:=hlive j o1 hj ho
   exact m.used _ _ hh
  ·intro j o1 hj _ ho
   obtain⟨rfl,rfl⟩:=hlive j o1 hj ho
   exact⟨_,hh,rfl,rfl⟩
  ·intro j o1 x hj ho hf
   obtain⟨rfl,_⟩:=hlive j o1 hj ho
   have hf':F' x:=by rw[<- hfpid];exact hf
   obtain⟨j2,o2,h1,h2,h3⟩:=hF' x hf'
   exact⟨.inr ⟨j2,o2,h1,h2,h3⟩,(m.mine j2 o2 x h2 h3).2⟩
  ·intro j j' o1 o2 x hj hj' ho ho' _ _
   exact (hlive j o1 hj ho).1.trans (hlive j' o2 hj' ho').1.symm
 have k:=t.keeps m
 refine⟨.skip,undef,w1,_,hr,.inr ⟨rfl,rfl⟩,k,t.mem m (fun j o1 hj ho=>?_),.any _,fun _ h=>.inl h⟩
 obtain⟨rfl,rfl⟩:=hlive j o1 hj ho
 show ORel _ _ _ _ _ _ (g.v j) (upd g.fp j F' j) _
 rw[hfpid,hv]
 rw[Xa0]at hcl1
 refine⟨hcl1,fun x hx=>?_⟩
 rcases hx with rfl|hx
 ·exact hN0 _ hSb
 ·rcases hfall x hx with ⟨h1,_⟩|⟨j2,o2,h1,_,h3,h4⟩
  ·exact hN0 x h1
  ·obtain⟨k2,hk2⟩:∃ k2,srcAt vs k2=some j2/\k2<cs.length:=by
    rw[hisv]at h1
    obtain⟨y,hy,hjy⟩:=Xbn.1 h1
    obtain⟨k2,hk2⟩:=Xak hy
    refine⟨k2,?_,by have:=(Xa.1 hk2).1;omega⟩
    rw[Zew hk2]
    cases y<;>simp[refId]at hjy ⊢
    exact hjy.symm
   obtain⟨_,_,sz0,xs0,h5⟩:=halive k2 j2 hk2.2 hk2.1
   exact (m.objs j2 _ h5).2 x h4
theorem Cl.plain_val{w:World}{I:Nat->Prop}{v:Value}{c:AV}{S:Nat->Prop}(h:Cl w I v c S)(hp:c.plain=true):v=plainVal c/\∀ x,¬ S x:=by
 cases h<;>first|(simp[AV.plain]at hp;done)|exact⟨rfl,by assumption⟩
theorem Zj0{zs:List (List AV)}{vs:List AV}{j:Nat}(h:rowsPlain zs=true)(hv:vs.all AV.plain=true):rowsPlain (zs.set j vs)=true:=by
 unfold rowsPlain at *
 rw[Xao]at *
 intro r hr
 rcases Xat hr with h1|h1
 ·exact h r h1
 ·rw[h1,Xao];exact hv
theorem Zj9{w w1:World}{I:Nat->Prop}{u:Value}{sz:Nat}{zs:List (List AV)}{S:Nat->Prop}(hcl:Cl w I u (.sl .own sz zs) S)(hp:rowsPlain zs=true){j:Nat}(hj:j<zs.length){vs:List AV}(hv:vs.all AV.plain=true)(hvl:vs.length=sz) :
  ∃ b cap cur e,u=.slice (some ⟨b,0,none⟩) zs.length cap/\w.heap[b]?=some (.cells cur e (0,0))/\j*sz+sz<=cur.size/\S b /\
   ∀ vals:Array Value,vals.size=sz->(∀ (k:Nat) (c:AV),vs[k]?=some c->vals[k]?=some (plainVal c))->w1.heap[b]?=some (.cells (cur.toList.take (j*sz)++vals.toList++cur.toList.drop (j*sz+vals.size)).toArray e (0,0))->Same w w1 I->Cl w1 I u (.sl .own sz (zs.set j vs)) S:=by
 rcases hcl.rows with ⟨_,h6,_⟩|⟨b,cap,cur,e,us,fs,h5,hheap,hcap,hmax,hcur,hcell,r0,hnb,hS⟩
 ·rw[h6]at hj;simp at hj
 have hin1:(j+1)*sz<=cap*sz:=Xaf _ (by omega)
 rw[Xa2,Nat.one_mul]at hin1
 refine⟨b,cap,cur,e,h5,hheap,by omega,(hS b).2 (.inl rfl),fun vals hvs hval hw1 hI=>?_⟩
 have hrow':∀ row∈zs.set j vs,row.length=sz:=fun r hr=>by
  rcases Xat hr with h1|h1
  ·exact r0.row r h1
  ·rw[h1];exact hvl
 have rp:=Rows.plain (w:=w1) (I:=I) hrow' (Zj0 (j:=j) hp hv)
 have key:=rp.own (w1:=w1) (b:=b) (cap:=cap) hw1 (by rw[Xa0];exact hcap) hmax (by
   refine Xac hcur ?_
   simp only[List.size_toArray,Xs,Xbj,Xb3,Xau]
   rw[Xbt (by omega)]
   omega)
  (by
   intro i' k c hcc
   have hk:=Zbh hrow' hcc
   have hi':=Zcg hcc
   rw[Xa0]at hi'
   rw[Xbd,show vals.size=vals.toList.length by simp,getElem?_patch (by simp;omega)]
   simp only[Xau,Xbi,hcc,Xw,Xbb]
   rw[Zba hj]at hcc
   by_cases h1:i'=j
   ·rw[Xr h1]at hcc
    rw[Xr (by rw[h1];omega),h1,show j*sz+k-j*sz=k by omega]
    exact hval k c hcc
   ·rw[Xu h1]at hcc
    have hne:¬ (j*sz<=i'*sz+k/\i'*sz+k<j*sz+vals.size):=by
     rintro⟨h3,h4⟩
     rcases Nat.lt_or_gt_of_ne h1 with hlt'|hgt
     ·have:(i'+1)*sz<=j*sz:=Xaf _ hlt'
      rw[Xa2]at this;omega
     ·have:(j+1)*sz<=i'*sz:=Xaf _ hgt
      rw[Xa2]at this;omega
    rw[Xu hne,hcell _ _ _ hcc,((r0.cl _ _ _ hcc).plain_val (Zbl hp hcc)).1])
  (fun _ hx=>by obtain⟨_,_,_,_,hf⟩:=hx;exact hf.elim) (fun _ _=>rfl) (fun ⟨_,_,_,_,hf⟩=>hf)
 rw[h5]
 rw[Xa0]at key
 refine key.blocks fun x=>?_
 rw[hS x]
 constructor
 ·rintro (h1|⟨i',k,c,hc,hf⟩)
  ·exact .inl h1
  ·exact absurd hf (((r0.cl _ _ _ hc).plain_val (Zbl hp hc)).2 x)
 ·rintro (h1|⟨_,_,_,_,hf⟩)
  ·exact .inl h1
  ·exact hf.elim
theorem Zic(m:Mem cx s.heap s.ep g w){x1 x2:Operand}{t:TypeId}{i0:TypeInfo}{v1:Value}{e id i off j sz2:Nat}{vs:List AV}(ho:o.op=.store t x1 x2)(hi:cx.P.info? t=some i0)(e1:a.eval x1=v1)
  (h1:SRel cx.num w cx.R g s.heap s.ep v1 (.inp e id i off j sz2)) (hc:CellsRel cx.num w cx.R g s.heap s.ep (a.eval x2).cells vs)
  (h:(if vs.length=i0.size/\e=s.ep/\vs.all AV.plain then match s.heap id with
   | some (.arr sz' xs)=>match xs[i]? with
    | none=>none
    | some row=>match row[off]? with
     | some (.sl .own sz3 ys)=>if j<ys.length/\sz3=sz2/\i0.size=sz2/\rowsPlain ys=true then some (⟨.any,[(id,some (.arr sz' (xs.set i (row.set off (.sl .own sz3 (ys.set j vs))))))],true⟩:Out) else none
     | _=>none
   | _=>none
   else none)=some out):Done cx s g a w o key out:=by
 split at h
 case isFalse=>cases h
 rename_i hcond
 obtain⟨hlen,rfl,hpl⟩:=hcond
 cases hh:s.heap id with
 | none=>rw[hh]at h;cases h
 | some ob =>
  rw[hh]at h
  cases ob<;>simp only[reduceCtorEq]at h
  rename_i sz xs
  cases hrow:xs[i]? with
  | none=>rw[hrow]at h;cases h
  | some row =>
   rw[hrow]at h
   simp only at h
   split at h
   case h_2=>cases h
   rename_i sz3 ys hro
   split at h
   case isFalse=>cases h
   rename_i hq
   obtain⟨hj,rfl,hsz,hrp⟩:=hq
   obtain rfl:=Xf h
   cases h1 with
   | inp _ _ _ _ _ _ _ _ hu _ hv =>
    obtain⟨b,n,c,b2,n2,c2,hg,hNb,hcell,hv1⟩:=hv rfl _ _ hh
    obtain⟨hcl0,hN0⟩:=m.objs id _ hh
    rcases hcl0.rows with ⟨h5,h6,_⟩|⟨b',cap',cur,e2,us,fs,h5,hheap,hcap,hmax,hcur,hcellm,r0,hnb,hS⟩
    ·rw[h6]at hrow;simp at hrow
    have hg0:=hg
    rw[hg]at h5
    simp only[Value.slice.injEq,Xb,Addr.mk.injEq,Xbv]at h5
    obtain⟨rfl,rfl,rfl⟩:=h5
    have hca:cellAt xs i off=some (.sl .own sz3 ys):=Zab.2 ⟨row,hrow,hro⟩
    have huv:us i off=.slice (some ⟨b2,0,none⟩) n2 c2:=by
     have h7:=hcellm i off _ hca
     rw[Zaf hheap,h7]at hcell
     exact Xf hcell
    have hlt:=(Xa.1 hrow).1
    have holt:=(Xa.1 hro).1
    have hMS:∀ x,fs i off x->g.fp id x:=fun x hx=>(hS x).2 (.inr ⟨i,off,_,hca,hx⟩)
    have hMI:∀ x,fs i off x->¬ g.I x:=fun x hx=>(m.mine id _ x hh (hMS x hx)).2
    have hvals:∀ k c,vs[k]?=some c->(a.eval x2).cells[k]?=some (plainVal c):=fun k c hk=>by
     have hk1:=(Xa.1 hk).1
     have hs:=hc.1
     have hu2:(a.eval x2).cells[k]?=some ((a.eval x2).cells[k]'(by omega)):=Xz (by omega)
     rw[hu2]
     have hpc:c.plain=true:=Xao.1 hpl c (Xe hk)
     have:=(hc.2 k _ _ hu2 hk).2
     generalize (a.eval x2).cells[k]=vv at this ⊢
     cases this<;>first|rfl|(simp[AV.plain]at hpc)
    obtain⟨b3,cap3,cur3,e3,h6,hheap3,hfit,hSb3,hmk⟩:=Zj9 (w1:=w.setRow b2 (match w.heap[b2]? with
     | some (.cells cur3 _ _)=>(cur3.toList.take (j*sz3)++(a.eval x2).cells.toList++cur3.toList.drop (j*sz3+(a.eval x2).cells.size)).toArray
     | _=>#[])) (r0.cl i off _ hca) hrp hj hpl (by omega)
    rw[huv]at h6
    simp only[Value.slice.injEq,Xb,Addr.mk.injEq,Xbv]at h6
    obtain⟨rfl,rfl,rfl⟩:=h6
    have hsz2:(a.eval x2).cells.size=sz3:=by rw[hc.1];omega
    have hr:=Zgb (P:=cx.P) (t:=t) hi hheap3 (a.eval x2) (by rw[hc.1,hlen]) hc.one (off:=j*sz3) (by omega)
    have hrun:(execOp a.eval o).run cx.P w=.ok .skip (w.setRow b2 (cur3.toList.take (j*sz3)++(a.eval x2).cells.toList++cur3.toList.drop (j*sz3+(a.eval x2).cells.size)).toArray):=by
     subst hv1
     simp[execOp,ho,e1,Instr.storeAt,Instr.sureAddr,hr]
    rw[hheap3]at hmk
    simp only at hmk
    have hnewb:=setRow_heap w b2 cur3 (cur3.toList.take (j*sz3)++(a.eval x2).cells.toList++cur3.toList.drop (j*sz3+(a.eval x2).cells.size)).toArray e3 (0,0) hheap3
    have hoth:∀ k,k≠b2->(w.setRow b2 (cur3.toList.take (j*sz3)++(a.eval x2).cells.toList++cur3.toList.drop (j*sz3+(a.eval x2).cells.size)).toArray).heap[k]?=w.heap[k]?:=fun k hk=>setRow_other w b2 k _ hk
    have hsize:(w.setRow b2 (cur3.toList.take (j*sz3)++(a.eval x2).cells.toList++cur3.toList.drop (j*sz3+(a.eval x2).cells.size)).toArray).heap.size=w.heap.size:=by simp[World.setRow]
    have hsame:Same w (w.setRow b2 (cur3.toList.take (j*sz3)++(a.eval x2).cells.toList++cur3.toList.drop (j*sz3+(a.eval x2).cells.size)).toArray) g.I:=fun x hx=>hoth x (fun e=>hMI b2 hSb3 (e ▸ hx))
    have hnew:=hmk (a.eval x2).cells hsz2 hvals hnewb hsame
    have hfr:(w.setRow b2 (cur3.toList.take (j*sz3)++(a.eval x2).cells.toList++cur3.toList.drop (j*sz3+(a.eval x2).cells.size)).toArray).os=w.os/\(w.setRow b2 (cur3.toList.take (j*sz3)++(a.eval x2).cells.toList++cur3.toList.drop (j*sz3+(a.eval x2).cells.size)).toArray).tape=w.tape/\(w.setRow b2 (cur3.toList.take (j*sz3)++(a.eval x2).cells.toList++cur3.toList.drop (j*sz3+(a.eval x2).cells.size)).toArray).output=w.output:=⟨rfl,rfl,rfl⟩
    generalize w.setRow b2 (cur3.toList.take (j*sz3)++(a.eval x2).cells.toList++cur3.toList.drop (j*sz3+(a.eval x2).cells.size)).toArray=w1 at *
    have hcat:∀ i' k c,cellAt (xs.set i (row.set off (.sl .own sz3 (ys.set j vs)))) i' k=some c->(i'=i/\k=off/\c=.sl .own sz3 (ys.set j vs))\/(¬ (i'=i/\k=off)/\cellAt xs i' k=some c):=by
     intro i' k c hcc
     rw[Zba hlt]at hcc
     by_cases h7:i'=i
     ·rw[Xr h7,List.getElem?_set]at hcc
      by_cases h8:off=k
      ·rw[Xr h8,Xr holt]at hcc
       exact .inl ⟨h7,h8.symm,(Xf hcc).symm⟩
      ·rw[Xu h8]at hcc
       exact .inr ⟨fun h=>h8 h.2.symm,Zab.2 ⟨row,by rw[h7];exact hrow,hcc⟩⟩
     ·rw[Xu h7]at hcc
      exact .inr ⟨fun h=>h7 h.1,hcc⟩
    have hbb2:b≠b2:=fun e=>hnb (e ▸ ⟨i,off,_,hca,hSb3⟩)
    have hrowl:∀ r∈xs.set i (row.set off (.sl .own sz3 (ys.set j vs))),r.length=sz:=fun r hr'=>by
     rcases Xat hr' with h7|h7
     ·exact r0.row r h7
     ·rw[h7,Xa0];exact r0.row row (Xe hrow)
    have hold:∀ i' k c,cellAt (xs.set i (row.set off (.sl .own sz3 (ys.set j vs)))) i' k=some c->∃ c0,cellAt xs i' k=some c0:=fun i' k c hcc=>by
     rcases hcat i' k c hcc with ⟨rfl,rfl,_⟩|⟨_,h7⟩
     ·exact⟨_,hca⟩
     ·exact⟨_,h7⟩
    have hcl2:Cl w1 g.I (g.v id) (.sl .own sz (xs.set i (row.set off (.sl .own sz3 (ys.set j vs))))) (g.fp id):=by
     rw[hg0]
     have hll:(xs.set i (row.set off (.sl .own sz3 (ys.set j vs)))).length=xs.length:=Xa0
     rw[<- hll]
     refine .own sz _ b c cur e2 us fs _ (by rw[hoth b hbb2];exact hheap) (by rw[hll];exact hcap) hmax hcur hrowl (fun i' k c hcc=>?_) (fun i' k c hcc=>?_) (fun i1 k1 c1 i2 k2 c2 x hc1 hc2 hf1 hf2=>?_) (fun i' k c hcc hf=>?_) (fun x=>?_)
     ·obtain⟨c0,h7⟩:=hold i' k c hcc
      exact hcellm _ _ _ h7
     ·rcases hcat i' k c hcc with ⟨rfl,rfl,rfl⟩|⟨h7,h8⟩
      ·exact hnew
      ·exact (r0.cl i' k c h8).mono (fun x hx=>hoth x (fun e=>h7 (r0.dis i' k c i off _ x h8 hca hx (e ▸ hSb3)))) hsame (fun _ h=>h)
     ·obtain⟨_,h7⟩:=hold _ _ _ hc1
      obtain⟨_,h8⟩:=hold _ _ _ hc2
      exact r0.dis _ _ _ _ _ _ x h7 h8 hf1 hf2
     ·obtain⟨_,h7⟩:=hold _ _ _ hcc
      exact hnb ⟨_,_,_,h7,hf⟩
     ·rw[hS x]
      refine or_congr Iff.rfl ⟨fun ⟨i',k,c,h7,h8⟩=>?_,fun ⟨i',k,c,h7,h8⟩=>?_⟩
      ·have hi':=Zcg h7
       have hk':=Zbh r0.row h7
       obtain⟨c',h9⟩:=Za9 hrowl (i:=i') (j:=k) (by rw[Xa0];exact hi') hk'
       exact⟨i',k,c',h9,h8⟩
      ·obtain⟨c0,h9⟩:=hold _ _ _ h7
       exact⟨i',k,c0,h9,h8⟩
    have t:Touch cx (fun k=>k=id) s.heap s.ep g w (wsOn s.heap [(id,some (.arr sz (xs.set i (row.set off (.sl .own sz3 (ys.set j vs))))))]) (s.ep+1) g w1:=by
     refine⟨hfr.1,hfr.2.1,hfr.2.2,by omega,Xca _,?_,?_,fun _ h=>h,?_,?_,?_,?_,fun _ h=>h,fun _ h=>.inl h,m.I_N,fun _ h=>h,fun _ h=>.inl h,fun he=>absurd he (by omega)⟩
     ·intro k hk
      exact⟨by simp[wsOn,upd,hk],fun _=>⟨rfl,rfl⟩⟩
     ·intro x _ hO
      exact hoth x (fun e=>hO ⟨id,_,rfl,hh,e ▸ hMS b2 hSb3⟩)
     ·intro k o1 hk _
      rw[hk];exact hu
     ·intro k o1 hk _ ho1
      subst hk
      simp only[wsOn,upd,Xag,Xb]at ho1
      exact⟨_,hh,by rw[<- ho1];rfl,rfl⟩
     ·intro k o1 x hk ho1 hf
      subst hk
      exact⟨.inr ⟨k,_,rfl,hh,hf⟩,(m.mine k _ x hh hf).2⟩
     ·intro k k' _ _ x hk hk' _ _ _ _
      exact hk.trans hk'.symm
    refine⟨.skip,undef,w1,g,hrun,.inr ⟨rfl,rfl⟩,t.keeps m,t.mem m (fun k o1 hk ho1=>?_),.any _,fun _ h=>.inl h⟩
    subst hk
    simp only[wsOn,upd,Xag,Xb]at ho1
    subst ho1
    exact⟨hcl2,hN0⟩
theorem Znv(m:Mem cx s.heap s.ep g w){x1 x2:Operand}{t:TypeId}{i0:TypeInfo}{y1 y2:Opd}(ho:o.op=.store t x1 x2)(hi:cx.P.info? t=some i0)
  (h1:SRel cx.num w cx.R g s.heap s.ep (a.eval x1) (y1.ev s.slots)) (h2:SRel cx.num w cx.R g s.heap s.ep (a.eval x2) (y2.ev s.slots))
  (h:sem cl (.store y1 y2 i0.size) key s.slots s.heap s.ep=some out):Done cx s g a w o key out:=by
 simp only[sem]at h
 generalize y1.ev s.slots=c1 at h h1
 generalize e1:a.eval x1=v1 at h1
 cases hp:(y2.ev s.slots).parts with
 | none=>rw[hp]at h;cases c1<;>cases h
 | some vs =>
  rw[hp]at h
  have hc:=Zep h2 hp
  cases c1<;>try (cases h;done)
  case inp e id i off j sz2=>exact Zic m ho hi e1 h1 hc h
  rename_i id i off
  dsimp only at h
  split at h
  case isFalse=>cases h
  rename_i hlen
  cases hh:s.heap id with
  | none=>rw[hh]at h;cases h
  | some ob =>
   rw[hh]at h
   cases h1 with
   | ptr _ _ _ _ _ _ hv =>
    have hpt:=hv ob hh
    have hrun:∀ (b off2:Nat),v1=.pointer (some ⟨b,off2,none⟩)->∀ cur e2,w.heap[b]?=some (.cells cur e2 (0,0))->off2+(a.eval x2).cells.size<=cur.size ->
      (execOp a.eval o).run cx.P w=.ok .skip (w.setRow b (cur.toList.take off2++(a.eval x2).cells.toList++cur.toList.drop (off2+(a.eval x2).cells.size)).toArray):=by
     intro b off2 hb cur e2 hg hfit
     have:=Zgb (P:=cx.P) hi hg (a.eval x2) (by rw[hc.1,hlen]) hc.one hfit
     subst hb
     simp[execOp,ho,e1,Instr.storeAt,Instr.sureAddr,this]
    cases ob with
    | box cells =>
     dsimp only at h
     split at h
     case isFalse=>cases h
     rename_i hle
     obtain⟨b,hg,he⟩:=hpt
     exact Zib m hh hg hc (by omega) (hrun b off he) (Xf h).symm
    | arr sz xs =>
     dsimp only at h
     obtain⟨b,n,cp,hg,he⟩:=hpt
     cases hx:xs[i]? with
     | none=>rw[hx]at h;cases h
     | some row =>
      rw[hx]at h
      cases ha:absorb s.heap vs with
      | none=>rw[ha]at h;cases h
      | some q =>
       obtain⟨us,is⟩:=q
       rw[ha]at h
       dsimp only at h
       split at h
       case isFalse=>cases h
       rename_i hle
       obtain⟨hl,_⟩:=Zdj (num:=cx.num) (w:=w) (R:=cx.R) (g:=g) (ep:=s.ep) ha
       exact Zia m hh hg hx hc ha (by omega) hle.2 (hrun b _ he) (Xf h).symm
    | map _ _=>cases h
end
end Go.Proofs.YtgdfelbedghhnaaGreatDoor
namespace Go.Proofs.YtgdfelbedghhnaaGreatDoor
open Go Go.RowKit
set_option linter.unusedSimpArgs false
/-! ### Zero values -/
def zeroB:Value->AV->Bool
 | .bool a,.bool b=>a == b
 | .int k n,.int k' n'=>decide (k=k') && n == n'
 | .string s,.str t=>s.data == t.data
 | .slice none 0 0,.sl .own _ []=>true
 | v,.any=>v.oneCell'
 | _,_=>false
def zerosB:List Value->List AV->Bool
 | [],[]=>true
 | v::vs,c::cs=>zeroB v c && zerosB vs cs
 | _,_=>false
theorem Zj4{v:Value}{c:AV}(h:zeroB v c=true)(w:World)(I:Nat->Prop):Cl w I v c (fun _=>False):=by
 unfold zeroB at h
 split at h
 ·rw[eq_of_beq h];exact .bool _ _ (fun _ h=>h)
 ·simp only[Xc,Xj,Xan]at h
  obtain⟨rfl,rfl⟩:=h
  exact .int _ _ _ (fun _ h=>h)
 ·rename_i s t
  have:=eq_of_beq h
  have he:s=t:=by cases s;cases t;simpa using this
  subst he
  exact .str _ _ (fun _ h=>h)
 ·exact .nil _ _ (fun _ h=>h)
 ·exact .any _ _ h (fun _ h=>h)
 ·cases h
theorem Zh7{v:Value}{c:AV}(h:zeroB v c=true)(num:Nat->Option FuncId)(w:World)(R:Nat->Prop)(g:Gh)(hp:Nat->Option AO)(ep:Nat):v.oneCell'=true/\SRel num w R g hp ep v c:=by
 refine⟨(Zj4 h w (fun _=>False)).one,?_⟩
 unfold zeroB at h
 split at h
 ·rw[eq_of_beq h];exact .bool _
 ·simp only[Xc,Xj,Xan]at h
  obtain⟨rfl,rfl⟩:=h
  exact .int _ _
 ·rename_i s t
  have:=eq_of_beq h
  have he:s=t:=by cases s;cases t;simpa using this
  subst he
  exact .str _
 ·exact .nil _
 ·exact .any _
 ·cases h
theorem Zct:∀ {vs:List Value} {cs:List AV},zerosB vs cs=true->vs.length=cs.length/\∀ (j:Nat) (u:Value) (c:AV),vs[j]?=some u->cs[j]?=some c->zeroB u c=true
 | [],[],_=>⟨rfl,fun j u c h=>by simp at h⟩
 | v::vs,c::cs,h=>by
  simp only[zerosB,Xc]at h
  obtain⟨h1,h2⟩:=Zct h.2
  refine⟨by simp[h1],fun j u d hu hd=>?_⟩
  cases j with
  | zero =>
   simp only[Xm,Xb]at hu hd
   subst hu;subst hd
   exact h.1
  | succ j=>exact h2 j u d (by simpa using hu) (by simpa using hd)
 | [],_::_,h=>by cases h
 | _::_,[],h=>by cases h
theorem Zgh{z:Value}{zs:List AV}(h:zerosB z.cells.toList zs=true)(num:Nat->Option FuncId)(w:World)(R:Nat->Prop)(g:Gh)(hp:Nat->Option AO)(ep:Nat):CellsRel num w R g hp ep z.cells zs:=by
 obtain⟨h1,h2⟩:=Zct h
 refine⟨by simpa using h1,fun i u c hu hc=>Zh7 (h2 i u c (by simpa using hu) hc) _ _ _ _ _ _⟩
theorem Zfs{h:Nat->Option AO}:∀ {vs cs:List AV} {is:List Nat},absorb h vs=some (cs,is)->∀ i∈is,∃ sz0 xs0,h i=some (.arr sz0 xs0)
 | [],cs,is,ha,i,hi=>by
  simp only[absorb,Xb,Xk]at ha
  rw[<- ha.2]at hi
  simp at hi
 | x::vs,cs,is,ha,i,hi=>by
  simp only[absorb]at ha
  cases h1:absorb1 h x with
  | none=>rw[h1]at ha;cases ha
  | some p =>
   obtain⟨d,i1⟩:=p
   rw[h1]at ha
   cases h2:absorb h vs with
   | none=>rw[h2]at ha;cases ha
   | some q =>
    obtain⟨ds,js⟩:=q
    rw[h2]at ha
    simp only[Xb,Xk]at ha
    rw[<- ha.2]at hi
    rcases Xg.1 hi with h3|h3
    ·cases x<;>simp only[absorb1,reduceCtorEq,Xb,Xk]at h1<;>try (rw[<- h1.2]at h3;simp at h3;done)
     ·rename_i md sz xs
      cases md<;>cases xs<;>simp only[reduceCtorEq,Xb,Xk]at h1<;>(rw[<- h1.2]at h3;simp at h3)
     ·rename_i id
      cases hh:h id with
      | none=>rw[hh]at h1;cases h1
      | some ob =>
       rw[hh]at h1
       cases ob<;>simp only[reduceCtorEq,Xb,Xk]at h1
       rw[<- h1.2,Xn]at h3
       exact⟨_,_,h3 ▸ hh⟩
    ·exact Zfs h2 i h3
section
variable {cx:Cx} {s:St} {g:Gh} {a:Act} {w:World} {o:Oper} {key:Nat} {out:Out} {cl:Callee}
theorem Zfx(m:Mem cx s.heap s.ep g w)(hk:¬ g.used key){sz:Nat}{rows:List (List AV)}{is:List Nat}{us:Nat->Nat->Value}{fs:Nat->Nat->Nat->Prop}{cur:Array Value}{e:TypeId}{w1:World}
  (hrows:Rows w g.I sz rows us fs) (hcell:∀ i j c,cellAt rows i j=some c->cur[i*sz+j]?=some (us i j)) (hcur:rows.length*sz<=cur.size) (hmax:rows.length<=maxLen)
  (his:∀ i∈is,∃ sz0 xs0,s.heap i=some (.arr sz0 xs0)) (hF:∀ x,Fall rows fs x->∃ i sz0 xs0,i∈is/\s.heap i=some (.arr sz0 xs0)/\g.fp i x) (p:Pushed w w1 (.cells cur e))
  (hrun:(execOp a.eval o).run cx.P w=.ok (.value (.slice (some ⟨w.heap.size,0,none⟩) rows.length rows.length)) w1) (h:out=⟨.ref key,(key,some (.arr sz rows))::kill is,false⟩):Done cx s g a w o key out:=by
 subst h
 let F:Nat->Prop:=fun x=>x=w.heap.size\/Fall rows fs x
 let v:Value:=.slice (some ⟨w.heap.size,0,none⟩) rows.length rows.length
 have hkis:key ∉ is:=fun hm=>by obtain⟨_,_,ho⟩:=his key hm;exact hk (m.used key _ ho)
 have hh:wsOn s.heap ((key,some (.arr sz rows))::kill is)=fun id=>if id∈is then none else if id=key then some (.arr sz rows) else s.heap id:=by
  funext id;rw[wsOn,Ze0];rfl
 have t:=Zh3 (ep':=s.ep) m hk (is:=is) (fun i hi=>by obtain⟨_,_,ho⟩:=his i hi;exact⟨_,ho⟩) (o:=.arr sz rows) (v:=v) (F:=F) (arr:=true) p (Xo _)
  (fun b hb=>hb.imp id fun hb=>by obtain⟨i,sz0,xs0,h1,h2,h3⟩:=hF b hb;exact⟨i,_,h1,h2,h3⟩)
 have k:=t.keeps m
 have hlt:∀ x,Fall rows fs x->x<w.heap.size:=fun x hx=>by
  obtain⟨i,sz0,xs0,h1,h2,h3⟩:=hF x hx
  exact (m.objs i _ h2).lt x h3
 have hcl:Cl w1 g.I v (.sl .own sz rows) F:=hrows.own (w1:=w1) (b:=w.heap.size) (cap:=rows.length) p.new (Xo _) hmax hcur hcell (fun x hx=>p.old (hlt x hx)) (fun x hx=>p.old (m.I_lt x hx))
  (fun hx=>Nat.lt_irrefl _ (hlt _ hx))
 refine⟨_,v,w1,newGh g w key v F true,hrun,.inl rfl,?_,?_,?_,?_⟩
 ·simp only[hh];exact k
 ·simp only[hh]
  refine t.mem m (fun id o' hT ho=>?_)
  by_cases h2:id∈is
  ·simp[h2]at ho
  ·have he:=hT.resolve_right h2
   subst he
   simp only[h2,Xaj,Xag,Xb]at ho
   subst ho
   simp only[newGh,upd,Xag]
   refine⟨hcl,fun x hx=>?_⟩
   rcases hx with hx|hx
   ·exact .inr ⟨by simp,hx⟩
   ·obtain⟨i,sz0,xs0,h1,h2,h3⟩:=hF x hx
    exact .inl ((m.objs i _ h2).2 x h3)
 ·simp only[hh]
  refine .ref _ _ rfl (.inr rfl) (fun o' _=>?_)
  simp[newGh,upd,v]
 ·intro id hu
  rcases hu with hu|rfl
  ·exact .inl hu
  ·exact .inr ⟨Xo _,by omega⟩
theorem Zjq{z:Value}{n sz i j:Nat}(hz:z.cells.size=sz)(hi:i<n)(hj:j<sz):(madeCells z.cells (n*sz))[i*sz+j]?=z.cells[j]?:=by
 have h1:i*sz+j<n*sz:=by
  have:(i+1)*sz<=n*sz:=Xaf _ hi
  rw[Xa2]at this
  omega
 have h3:(i*sz+j) % sz=j:=by rw[Nat.mul_comm,Nat.mul_add_mod,Nat.mod_eq_of_lt hj]
 have hjz:j<z.cells.size:=by omega
 simp only[madeCells,Array.getElem?_map,Array.getElem?_range,h1,Xag,Xw,hz,h3]
 rw[getElem!_pos z.cells j hjz,Xz hjz]
theorem Zgi{n:Nat}{zs:List AV}{i j:Nat}{c:AV}(h:cellAt (List.replicate n zs) i j=some c):i<n/\zs[j]?=some c:=by
 obtain⟨row,h1,h2⟩:=Zab.1 h
 rw[List.getElem?_replicate]at h1
 split at h1
 ·obtain rfl:=Xf h1
  exact⟨by assumption,h2⟩
 ·cases h1
theorem Zj5{z:Value}{zs:List AV}{sz n:Nat}(hzr:zerosB z.cells.toList zs=true)(hz:z.cells.size=sz){i j:Nat}{c:AV}(hc:cellAt (List.replicate n zs) i j=some c) :
  ∃ u,(madeCells z.cells (n*sz))[i*sz+j]?=some u/\u=z.cells[j]?.getD undef/\zeroB u c=true:=by
 obtain⟨h1,h2⟩:=Zgi hc
 obtain⟨hl,hg⟩:=Zct hzr
 have hj:=(Xa.1 h2).1
 have hj2:j<z.cells.size:=by simp at hl;omega
 rw[Zjq hz h1 (by omega)]
 have hu:z.cells[j]?=some z.cells[j]:=Xz hj2
 exact⟨_,hu,by rw[hu];rfl,hg j _ _ (by rw[Xbi];exact hu) h2⟩
theorem Zo4(m:Mem cx s.heap s.ep g w)(hk:¬ g.used key){t e:TypeId}{i0:TypeInfo}{z:Value}{zs:List AV}{x1 x2:Operand}{y:Opd}(ho:o.op=.makeSlice t x1 x2)(hx:a.eval x2=a.eval x1)(ht:cx.P.underlying t=some (.slice e))(hi:cx.P.info? e=some i0)
  (hz:i0.zero=some z) (hzs:z.cells.size=i0.size) (hzr:zerosB z.cells.toList zs=true) (hb:1<=i0.bytes) (h1:SRel cx.num w cx.R g s.heap s.ep (a.eval x1) (y.ev s.slots))
  (h:sem cl (.mksl i0.size zs i0.bytes y) key s.slots s.heap s.ep=some out):Done cx s g a w o key out:=by
 simp only[sem]at h
 generalize y.ev s.slots=c1 at h h1
 generalize e1:a.eval x1=v1 at h1
 cases c1<;>try (cases h;done)
 rename_i k n
 cases k<;>try (cases h;done)
 dsimp only at h
 split at h
 case isFalse=>cases h
 rename_i hn
 cases h1
 obtain⟨hl0,hg0⟩:=Zct hzr
 rw[Xau]at hl0
 have hn1:(n.toNat:Int)=n:=Int.toNat_of_nonneg hn.1
 have hn2:n.toNat*i0.bytes<=140737488355328:=by
  have h2:=hn.2
  have h3:((n.toNat*i0.bytes:Nat):Int)=n*i0.bytes:=by rw[Int.natCast_mul,hn1]
  omega
 have hn3:n.toNat<=maxLen:=by
  have:n.toNat*1<=n.toNat*i0.bytes:=Xco _ hb
  unfold maxLen
  omega
 have hn4:(i0.bytes:Int)*n<=281474976710656:=by
  rw[Int.mul_comm]
  have:=hn.2
  omega
 have hrun:=run_make (P:=cx.P) w t e i0 z ht hi hz .i64 .i64 n n hn.1 (Int.le_refl _) hn4 (by unfold maxLen at hn3;omega)
 have hll:(List.replicate n.toNat zs).length=n.toNat:=by simp
 refine Zfx (is:=[]) (rows:=List.replicate n.toNat zs) (us:=fun _ j=>z.cells[j]?.getD undef) (fs:=fun _ _ _=>False) (cur:=madeCells z.cells (n.toNat*i0.size)) (e:=e) m hk ⟨?_,?_,?_⟩ ?_ ?_ ?_ ?_ ?_ (Pushed.alloc w _) ?_ (Xf h).symm
 ·intro row hr
  rw[List.eq_of_mem_replicate hr];omega
 ·intro i j c hc
  obtain⟨u,_,hu,hz0⟩:=Zj5 hzr hzs hc
  rw[<- hu]
  exact Zj4 hz0 _ _
 ·exact fun _ _ _ _ _ _ _ _ _ hf=>hf.elim
 ·intro i j c hc
  obtain⟨u,hu1,hu,_⟩:=Zj5 hzr hzs hc
  rw[hu1,hu]
 ·rw[hll,size_madeCells];exact Xo _
 ·rw[hll];exact hn3
 ·simp
 ·rintro x ⟨_,_,_,_,hf⟩;exact hf.elim
 ·rw[hll]
  simp[execOp,ho,e1,hx.trans e1,hrun]
/-! ### Literals of slices -/
inductive RowParts (cx:Cx) (s:St) (g:Gh) (a:Act) (w:World):List (Nat×Value)->List (Nat×Opd)->Prop
 | nil:RowParts cx s g a w [] []
 | cons (i:Nat) (v:Value) (y:Opd) (ps:List (Nat×Value)) (qs:List (Nat×Opd)) (hv:SRel cx.num w cx.R g s.heap s.ep v (y.ev s.slots)) (h:RowParts cx s g a w ps qs):RowParts cx s g a w ((i,v)::ps) ((i,y)::qs)
structure Filling(h:Nat->Option AO)(g:Gh)(w:World)(sz:Nat)(rows:List (List AV))(cur:Array Value)(src:Nat->Nat->Option Nat)(gone:List Nat):Prop where
 size:cur.size=rows.length*sz
 row:∀ row∈rows,row.length=sz
 cell:∀ i j c,cellAt rows i j=some c->∃ u,cur[i*sz+j]?=some u/\CellIn h g w u c (src i j)
 mem:∀ i j c id,cellAt rows i j=some c->src i j=some id->id∈gone
 inj:∀ i j c i' j' c' id,cellAt rows i j=some c->cellAt rows i' j'=some c'->src i j=some id->src i' j'=some id->i=i'/\j=j'
theorem Zkg{ps:List (Nat×Value)}{qs:List (Nat×Opd)}{sz:Nat}(hp:RowParts cx s g a w ps qs):∀ {rows rows':List (List AV)} {cur:Array Value} {src:Nat->Nat->Option Nat} {gone is:List Nat},
  Filling s.heap g w sz rows cur src gone->fillRows s.heap s.slots sz rows qs=some (rows',is)->(gone++is).Nodup ->
  ∃ cur' src',Instr.fill (fun i=>some (i*sz,sz)) cur ps=some cur'/\Filling s.heap g w sz rows' cur' src' (gone++is)/\rows'.length=rows.length:=by
 induction hp with
 | nil =>
  intro rows rows' cur src gone is f h hn
  simp only[fillRows,Xb,Xk]at h
  obtain⟨rfl,rfl⟩:=h
  exact⟨cur,src,rfl,by simpa using f,rfl⟩
 | cons i v y ps qs hv _ ih =>
  intro rows rows' cur src gone is f h hn
  simp only[fillRows]at h
  cases hq:(y.ev s.slots).parts with
  | none=>rw[hq]at h;cases h
  | some vs =>
   rw[hq]at h
   simp only at h
   cases ha:absorb s.heap vs with
   | none=>rw[ha]at h;cases h
   | some p =>
    obtain⟨row,js⟩:=p
    rw[ha]at h
    simp only at h
    split at h
    case isFalse=>cases h
    rename_i hif
    obtain⟨hrl,hi⟩:=hif
    cases hr:fillRows s.heap s.slots sz (rows.set i row) qs with
    | none=>rw[hr]at h;cases h
    | some q =>
     obtain⟨rs,ks⟩:=q
     rw[hr]at h
     simp only[Xb,Xk]at h
     obtain⟨rfl,rfl⟩:=h
     have hc:=Zep hv hq
     have hcs:=hc.1
     obtain⟨hal,hav,hacc⟩:=Zdj (num:=cx.num) (w:=w) (R:=cx.R) (g:=g) (ep:=s.ep) ha
     have hfit:i*sz+sz<=rows.length*sz:=by
      have:(i+1)*sz<=rows.length*sz:=Xaf _ hi
      rw[Xa2]at this;omega
     rw[<- Xa7]at hn
     have hn1:(gone++js).Nodup:=(Xby.1 hn).1
     have hnj:(vs.flatMap refId).Nodup:=by rw[<- hav];exact (Xby.1 hn1).2.1
     have hdj:∀ x∈gone,x ∉ js:=fun x hx hxj=>(Xby.1 hn1).2.2 x hx x hxj rfl
     have f':Filling s.heap g w sz (rows.set i row) (v.cells.zipIdx.foldl (fun cs (c,j)=>cs.setIfInBounds (i*sz+j) c) cur) (fun i' j=>if i'=i then srcAt vs j else src i' j) (gone++js):=by
      have hsm:∀ j id,srcAt vs j=some id->id∈js:=fun j id hs=>by rw[hav];exact Zla hs
      refine⟨by rw[Zeg,Xa0];exact f.size,?_,?_,?_,?_⟩
      ·intro r hr
       rcases Xat hr with h1|h1
       ·exact f.row r h1
       ·rw[h1];exact hrl
      ·intro i' j c hcc
       rw[Zba hi]at hcc
       rw[Zm3]
       by_cases h1:i'=i
       ·subst h1
        rw[Xr rfl]at hcc
        have hj:=(Xa.1 hcc).1
        rw[Xr ⟨by omega,by omega,by rw[f.size];omega⟩,show i'*sz+j-i'*sz=j by omega]
        have hu:v.cells[j]?=some (v.cells[j]'(by omega)):=Xz (by omega)
        have hx:vs[j]?=some (vs[j]'(by omega)):=Xd (by omega)
        refine⟨_,hu,?_⟩
        simp only[Xag]
        rw[Zew hx]
        exact hacc j _ _ c hx hcc (hc.2 j _ _ hu hx).2
       ·rw[Xu h1]at hcc
        have hj:=Zbh f.row hcc
        have:¬ (i*sz<=i'*sz+j/\i'*sz+j<i*sz+v.cells.size/\i'*sz+j<cur.size):=by
         rintro⟨h2,h3,_⟩
         rcases Xcj i' i with hlt|heq|hgt
         ·have:(i'+1)*sz<=i*sz:=Xaf _ hlt
          rw[Xa2]at this;omega
         ·exact h1 heq
         ·have:(i+1)*sz<=i'*sz:=Xaf _ hgt
          rw[Xa2]at this;omega
        rw[Xu this]
        simp only[h1,Xaj]
        exact f.cell i' j c hcc
      ·intro i' j c id hcc hs
       rw[Zba hi]at hcc
       by_cases h1:i'=i
       ·simp only[h1,Xag]at hs
        exact Xg.2 (.inr (hsm j id hs))
       ·rw[Xu h1]at hcc
        simp only[h1,Xaj]at hs
        exact Xg.2 (.inl (f.mem i' j c id hcc hs))
      ·intro i1 j1 c1 i2 j2 c2 id hc1 hc2 hs1 hs2
       rw[Zba hi]at hc1 hc2
       by_cases h1:i1=i<;>by_cases h2:i2=i<;>simp only[h1,h2,Xag,Xaj]at hc1 hc2 hs1 hs2
       ·exact⟨by omega,Zk9 hnj hs1 hs2⟩
       ·exact absurd (hsm _ _ hs1) (hdj _ (f.mem _ _ _ _ hc2 hs2))
       ·exact absurd (hsm _ _ hs2) (hdj _ (f.mem _ _ _ _ hc1 hs1))
       ·exact f.inj _ _ _ _ _ _ _ hc1 hc2 hs1 hs2
     obtain⟨cur',src',h1,h2,h3⟩:=ih f' hr (by rw[Xa7]at hn ⊢;exact hn)
     refine⟨cur',src',?_,by rw[<- Xa7];exact h2,by rw[h3,Xa0]⟩
     have hbad:¬ (v.cells.size≠sz\/i*sz+v.cells.size > cur.size):=by
      rw[f.size]
      omega
     simp only[Instr.fill]
     rw[Xu (by simpa using hbad)]
     exact h1
theorem Zlp(m:Mem cx s.heap s.ep g w)(hk:¬ g.used key){t e:TypeId}{i0:TypeInfo}{z:Value}{zs:List AV}{len:Nat}{parts:Array (Nat×Operand)}{qs:List (Nat×Opd)}(ho:o.op=.buildSlice t len parts)(ht:cx.P.underlying t=some (.slice e))
  (hi:cx.P.info? e=some i0) (hz:i0.zero=some z) (hzs:z.cells.size=i0.size) (hzr:zerosB z.cells.toList zs=true) (hlen:len*i0.size<=16777216) (hl1:len<=16777216) (hp:RowParts cx s g a w (parts.toList.map fun p=>(p.1,a.eval p.2)) qs)
  (h:sem cl (.bslice i0.size zs len qs) key s.slots s.heap s.ep=some out):Done cx s g a w o key out:=by
 simp only[sem]at h
 cases hf:fillRows s.heap s.slots i0.size (List.replicate len zs) qs with
 | none=>rw[hf]at h;cases h
 | some p =>
  obtain⟨rows,is⟩:=p
  rw[hf]at h
  simp only at h
  split at h
  case isFalse=>cases h
  rename_i hd
  obtain⟨hl0,hg0⟩:=Zct hzr
  rw[Xau]at hl0
  have f0:Filling s.heap g w i0.size (List.replicate len zs) (madeCells z.cells (len*i0.size)) (fun _ _=>none) []:=by
   refine⟨by rw[size_madeCells];simp,fun row hr=>by rw[List.eq_of_mem_replicate hr];omega,fun i j c hc=>?_,fun _ _ _ _ _ h=>(nomatch h),fun _ _ _ _ _ _ _ _ _ h _=>(nomatch h)⟩
   obtain⟨u,hu1,_,hz0⟩:=Zj5 hzr hzs hc
   exact⟨u,hu1,Zj4 hz0 _ _⟩
  obtain⟨cur,src,hfill,ff,hll⟩:=Zkg hp f0 hf (by simpa using Za6 hd)
  rw[List.length_replicate]at hll
  simp only[Xa8]at ff
  -- who moved in
  have halive:∀ i j c id,cellAt rows i j=some c->src i j=some id->id∈is/\∃ sz0 xs0,s.heap id=some (.arr sz0 xs0):=by
   intro i j c id hc hs
   obtain⟨u,_,hin⟩:=ff.cell i j c hc
   rw[hs]at hin
   exact⟨ff.mem i j c id hc hs,hin.alive⟩
  have hisall:∀ (qs:List (Nat×Opd)) (r0 r1:List (List AV)) (is:List Nat),fillRows s.heap s.slots i0.size r0 qs=some (r1,is)->∀ i∈is,∃ sz0 xs0,s.heap i=some (.arr sz0 xs0):=by
   intro qs
   induction qs with
   | nil=>intro r0 r1 is h i hi;simp only[fillRows,Xb,Xk]at h;rw[<- h.2]at hi;simp at hi
   | cons q qs ih =>
    intro r0 r1 is h i hi
    obtain⟨qi,qx⟩:=q
    simp only[fillRows]at h
    cases hq:(qx.ev s.slots).parts with
    | none=>rw[hq]at h;cases h
    | some vs =>
     rw[hq]at h
     simp only at h
     cases ha:absorb s.heap vs with
     | none=>rw[ha]at h;cases h
     | some p =>
      obtain⟨row,js⟩:=p
      rw[ha]at h
      simp only at h
      split at h
      case isFalse=>cases h
      cases hr:fillRows s.heap s.slots i0.size (r0.set qi row) qs with
      | none=>rw[hr]at h;cases h
      | some p =>
       obtain⟨rs,ks⟩:=p
       rw[hr]at h
       simp only[Xb,Xk]at h
       rw[<- h.2]at hi
       rcases Xg.1 hi with h1|h1
       ·exact Zfs ha i h1
       ·exact ih _ _ _ hr i h1
  have his:=hisall _ _ _ _ hf
  refine Zfx (is:=is) (rows:=rows) (us:=fun i j=>cur[i*i0.size+j]?.getD undef) (fs:=fun i j=>srcFp g (src i j)) (cur:=cur) (e:=e) m hk ⟨ff.row,?_,?_⟩ ?_ ?_ ?_ his ?_ (Pushed.alloc w _) ?_ (Xf h).symm
  ·intro i j c hc
   obtain⟨u,hu,hin⟩:=ff.cell i j c hc
   simp only[hu,Xbb]
   exact hin.closed m
  ·intro i j c i' j' c' x hc hc' hf1 hf2
   cases hs:src i j with
   | none=>rw[hs]at hf1;exact hf1.elim
   | some id=>cases hs':src i' j' with
    | none=>rw[hs']at hf2;exact hf2.elim
    | some id' =>
     rw[hs]at hf1
     rw[hs']at hf2
     obtain⟨_,_,_,h1⟩:=halive i j c id hc hs
     obtain⟨_,_,_,h2⟩:=halive i' j' c' id' hc' hs'
     have:=m.disj id id' _ _ x h1 h2 hf1 hf2
     subst this
     exact ff.inj _ _ _ _ _ _ _ hc hc' hs hs'
  ·intro i j c hc
   obtain⟨u,hu,hin⟩:=ff.cell i j c hc
   rw[hu];rfl
  ·rw[ff.size];exact Xo _
  ·rw[hll];unfold maxLen;omega
  ·rintro x ⟨i,j,c,hc,hf1⟩
   cases hs:src i j with
   | none=>simp only[hs]at hf1;exact hf1.elim
   | some id =>
    simp only[hs]at hf1
    obtain⟨h1,sz0,xs0,h2⟩:=halive i j c id hc hs
    exact⟨id,sz0,xs0,h1,h2,hf1⟩
  ·rw[hll]
   have hn24:¬ (2 ^ 24<len*i0.size):=by omega
   by_cases h0:len*i0.size=0
   ·have hmade:(#[]:Array Value)=madeCells z.cells (len*i0.size):=by rw[h0];simp[madeCells]
    have hfill':Instr.fill (fun i=>some (i*i0.size,i0.size)) #[] (List.map (fun p=>(p.fst,a.eval p.snd)) parts.toList)=some cur:=by rw[hmade];exact hfill
    simp[execOp,ho,Instr.buildSlice,run_underlying ht,Zav hi,h0,Array.range_zero',hfill',newRow]
   ·have hmade:(Array.range (len*i0.size)).map (z.cells[· % z.cells.size]!)=madeCells z.cells (len*i0.size):=rfl
    simp[execOp,ho,Instr.buildSlice,run_underlying ht,Zav hi,h0,hn24,zeroValue,typeInfo,hi,hz,hmade,hfill,newRow]
end
end Go.Proofs.YtgdfelbedghhnaaGreatDoor
namespace Go.Proofs.YtgdfelbedghhnaaGreatDoor
open Go Go.RowKit
set_option linter.unusedSimpArgs false
def keyD(kb:Bool):TypeDesc:=if kb then .bool else .string
theorem Zfl(kb:Bool)(s:ByteArray):MapKept.IsKey (keyD kb) (keyV kb s):=by cases kb<;>trivial
theorem Zm6{kb:Bool}{num:Nat->Option FuncId}{w:World}{R:Nat->Prop}{g:Gh}{h:Nat->Option AO}{ep:Nat}{v:Value}{c:AV}{s:ByteArray}(hr:SRel num w R g h ep v c)(hk:keyOf kb c=some s):v=keyV kb s/\keyIs kb s:=by
 cases kb with
 | false =>
  cases hr<;>simp only[keyOf,reduceCtorEq,Xb]at hk
  subst hk
  exact⟨rfl,fun h=>by cases h⟩
 | true =>
  cases hr<;>simp only[keyOf,reduceCtorEq,Xb]at hk
  rename_i b
  subst hk
  refine⟨?_,fun _=>by cases b<;>simp⟩
  cases b
  ·have:sEq (bkey false) (bkey true)=false:=by
    rw[<- Xb2,Zac]
    intro e
    have:=Xct (fun x=>x.data.toList) e
    simp[bkey]at this
   simp[keyV,this]
  ·have:sEq (bkey true) (bkey true)=true:=(Zac _ _).2 rfl
   simp[keyV,this]
theorem Zmi(kb:Bool){s k:ByteArray}(hs:keyIs kb s)(hk:keyIs kb k):Instr.sameNow (keyD kb) (keyV kb s) (keyV kb k)=some (sEq s k):=by
 cases kb with
 | false =>
  simp only[keyD,keyV,Instr.sameNow,Xq,Xaj]
  congr 1
  rw[Bool.eq_iff_iff,Zac,MapKept.bytes_beq]
 | true =>
  have e1:sEq (bkey false) (bkey true)=false:=by
   rw[<- Xb2,Zac]
   intro e
   have:=Xct (fun x=>x.data.toList) e
   simp[bkey]at this
  have e2:sEq (bkey true) (bkey false)=false:=by
   rw[<- Xb2,Zac]
   intro e
   have:=Xct (fun x=>x.data.toList) e
   simp[bkey]at this
  have e3:∀ b,sEq (bkey b) (bkey b)=true:=fun b=>(Zac _ _).2 rfl
  rcases hs rfl with rfl|rfl<;>rcases hk rfl with rfl|rfl<;>simp[keyD,keyV,Instr.sameNow,e1,e2,e3]
theorem Zhg(k j:ByteArray)(v:AV):∀ m:List (ByteArray×AV),listGet k (listPut j v m)=if sEq k j then some v else listGet k m
 | []=>by simp[listPut,listGet]
 | (a,b)::r=>by
  by_cases h:sEq j a=true
  ·rw[listPut,Xr h,listGet,listGet,(Zac j a).1 h]
   by_cases h2:sEq k a=true<;>simp[h2]
  ·rw[listPut,Xu h,listGet,listGet,Zhg k j v r]
   by_cases h2:sEq k a=true
   ·have:sEq k j=false:=by
     rw[(Zac k a).1 h2,Zeu];simpa using h
    simp[h2,this]
   ·simp[h2]
theorem Zjm(kb:Bool)(s:ByteArray)(hks:keyIs kb s):∀ (es:List MapEntry) (kvs:List (ByteArray×AV)) (i0:Nat),es.length=kvs.length->(∀ (i:Nat) (m:MapEntry) (k:ByteArray) (c:AV),es[i]?=some m->kvs[i]?=some (k,c)->m.key=keyV kb k/\keyIs kb k) ->
  (Instr.findNow (keyD kb) (keyV kb s) es i0=some none/\listGet s kvs=none/\∀ v,listPut s v kvs=kvs++[(s,v)]) \/
  ∃ j m c,Instr.findNow (keyD kb) (keyV kb s) es i0=some (some (i0+j,m.val))/\es[j]?=some m/\m.key=keyV kb s/\kvs[j]?=some (s,c)/\listGet s kvs=some c/\∀ v,listPut s v kvs=kvs.set j (s,v)
 | [],[],i0,_,_=>.inl ⟨rfl,rfl,fun _=>rfl⟩
 | e::es,(k,c)::kvs,i0,hl,hk=>by
  obtain⟨hk0,hk1⟩:=hk 0 e k c rfl rfl
  simp only[Instr.findNow,hk0,Zmi kb hks hk1,listGet,listPut]
  cases hs:sEq s k with
  | true =>
   have:=(Zac _ _).1 hs
   subst this
   exact .inr ⟨0,e,c,rfl,rfl,hk0,rfl,by simp,fun v=>by simp⟩
  | false =>
   rcases Zjm kb s hks es kvs (i0+1) (by simpa using hl) (fun i m k c h1 h2=>hk (i+1) m k c (by simpa using h1) (by simpa using h2)) with ⟨h1,h2,h3⟩|⟨j,m,d,h1,h2,h3,h4,h5,h6⟩
   ·exact .inl ⟨h1,by simpa using h2,fun v=>by simp[h3]⟩
   ·exact .inr ⟨j+1,m,d,by simp only[h1];congr 3;omega,by simpa using h2,h3,by simpa using h4,by simpa using h5,fun v=>by simp[h6]⟩
section
variable {cx:Cx} {s:St} {g:Gh} {a:Act} {w:World} {o:Oper} {key:Nat} {out:Out} {cl:Callee}
theorem Zns{kb:Bool}(m:Mem cx s.heap s.ep g w)(hk:¬ g.used key){t:TypeId}(ho:o.op=.makeMap t none)(h:sem cl (.mkmap kb) key s.slots s.heap s.ep=some out):Done cx s g a w o key out:=by
 simp only[sem,Xb]at h
 subst h
 have hh:wsOn s.heap [(key,some (.map kb noKeys))]=fun id=>if id∈([]:List Nat) then none else if id=key then some (.map kb noKeys) else s.heap id:=by
  funext id;simp[wsOn,upd]
 have p:=Pushed.alloc w (.map #[] 0)
 have hrun:(execOp a.eval o).run cx.P w=.ok (.value (.map (some w.heap.size))) (w.alloc (.map #[] 0)):=by simp[execOp,ho,Instr.makeMap]
 generalize w.alloc (.map #[] 0)=w1 at p hrun
 have t':=Zh3 (ep':=s.ep) m hk (is:=[]) (by simp) (o:=.map kb noKeys) (v:=.map (some w.heap.size)) (F:=fun b=>b=w.heap.size) (arr:=false) p (Xo _) (fun b hb=>.inl hb)
 have k:=t'.keeps m
 refine⟨_,_,w1,newGh g w key (.map (some w.heap.size)) (fun b=>b=w.heap.size) false,hrun,.inl rfl,?_,?_,?_,?_⟩
 ·simp only[hh];exact k
 ·simp only[hh]
  refine t'.mem m (fun id o' hT ho=>?_)
  have he:id=key:=by simpa using hT
  subst he
  simp at ho
  subst ho
  simp only[newGh,upd,Xag]
  refine⟨w.heap.size,#[],0,[],rfl,p.new,fun x=>Iff.rfl,?_,fun _=>rfl,rfl,fun i m k c hm=>by simp at hm⟩
  rintro (hN|⟨h0,_⟩)
  ·have:=m.N_lt _ hN;omega
  ·cases h0
 ·simp only[hh]
  exact .mapr _ _ rfl (.inr rfl) (fun o' _=>by simp[newGh,upd])
 ·intro id hu
  rcases hu with hu|rfl
  ·exact .inl hu
  ·exact .inr ⟨Xo _,by omega⟩
theorem Zlr{kb:Bool}(m:Mem cx s.heap s.ep g w){x1 x2:Operand}{t kt et:TypeId}{i0:TypeInfo}{z0:Value}{z:AV}{y1 y2:Opd}(ho:o.op=.lookup t x1 x2 false)(ht:cx.P.underlying t=some (.map kt et))(hkt:cx.P.underlying kt=some (keyD kb))
  (hi:cx.P.info? et=some i0) (hz:i0.zero=some z0) (hzr:zeroB z0 z=true) (h1:SRel cx.num w cx.R g s.heap s.ep (a.eval x1) (y1.ev s.slots)) (h2:SRel cx.num w cx.R g s.heap s.ep (a.eval x2) (y2.ev s.slots))
  (h:sem cl (.lookup kb z y1 y2) key s.slots s.heap s.ep=some out):Done cx s g a w o key out:=by
 simp only[sem]at h
 generalize y1.ev s.slots=c1 at h h1
 generalize y2.ev s.slots=c2 at h h2
 cases hko:keyOf kb c2 with
 | none=>rw[hko]at h;cases c1<;>cases h
 | some st =>
 rw[hko]at h
 generalize e1:a.eval x1=v1 at h1
 generalize e2:a.eval x2=v2 at h2
 cases c1<;>try (cases h;done)
 rename_i id
 simp only at h
 cases hh:s.heap id with
 | none=>rw[hh]at h;cases h
 | some ob =>
  rw[hh]at h
  cases ob<;>simp only[reduceCtorEq]at h
  rename_i kb0 kvs
  split at h
  case isFalse=>cases h
  rename_i hkb
  subst hkb
  obtain⟨hkv,hki⟩:=Zm6 h2 hko
  cases h1 with
  | mapr _ _ _ hu hv =>
   have hv':=hv _ hh
   obtain⟨b,es,cl0,l,hv2,hheap,hS,hN,hkl,hsz,hes⟩:=m.objs id _ hh
   have hv3:=hv'.trans hv2
   have hf:=Zjm kb0 st hki es.toList l 0 (by simpa using hsz) (fun i m k c hm hc=>⟨(hes i m k c (by simpa using hm) hc).1,(hes i m k c (by simpa using hm) hc).2.1⟩)
   have hck:=MapKept.run_checkKey (P:=cx.P) (w:=w) hkt (Zfl kb0 st) es.isEmpty 9999
   rcases hf with ⟨hf1,hf2,_⟩|⟨j,m0,c,hf1,hf2,_,hf3,hf4,_⟩
   ·rw[mapGet,<- hkl st,hf2]at h
    refine Zai m ?_ (Zh7 hzr _ _ _ _ _ _).2 h
    have hfk:=MapKept.run_findKey (P:=cx.P) (w:=w) hkt hf1
    simp[execOp,ho,e1,e2,hkv,hv3,Instr.lookup,run_underlying ht,MapKept.run_getObj_map hheap,hck,hfk,zeroValue,typeInfo,hi,hz]
   ·rw[mapGet,<- hkl st,hf4]at h
    refine Zai m (v:=m0.val) ?_ (hes j m0 st c (by simpa using hf2) hf3).2.2.2 h
    have hfk:=MapKept.run_findKey (P:=cx.P) (w:=w) hkt hf1
    simp[execOp,ho,e1,e2,hkv,hv3,Instr.lookup,run_underlying ht,MapKept.run_getObj_map hheap,hck,hfk]
theorem Zgy{kb:Bool}(m:Mem cx s.heap s.ep g w){x1 x2 x3:Operand}{t kt et:TypeId}{y1 y2 y3:Opd}(ho:o.op=.mapUpdate t x1 x2 x3\/o.op=.insert t x1 x2 x3)(ht:cx.P.underlying t=some (.map kt et))(hkt:cx.P.underlying kt=some (keyD kb))
  (h1:SRel cx.num w cx.R g s.heap s.ep (a.eval x1) (y1.ev s.slots)) (h2:SRel cx.num w cx.R g s.heap s.ep (a.eval x2) (y2.ev s.slots)) (h3:SRel cx.num w cx.R g s.heap s.ep (a.eval x3) (y3.ev s.slots))
  (h:sem cl (.mapset kb y1 y2 y3) key s.slots s.heap s.ep=some out):Done cx s g a w o key out:=by
 simp only[sem]at h
 generalize y1.ev s.slots=c1 at h h1
 generalize y2.ev s.slots=c2 at h h2
 cases hko:keyOf kb c2 with
 | none=>rw[hko]at h;cases c1<;>cases h
 | some st =>
 rw[hko]at h
 generalize y3.ev s.slots=c3 at h h3
 generalize e1:a.eval x1=v1 at h1
 generalize e2:a.eval x2=v2 at h2
 generalize e3:a.eval x3=v3 at h3
 cases c1<;>try (cases h;done)
 rename_i id
 simp only at h
 cases hh:s.heap id with
 | none=>rw[hh]at h;cases h
 | some ob =>
  rw[hh]at h
  cases ob<;>simp only[reduceCtorEq]at h
  rename_i kb0 kvs
  split at h
  case isFalse=>cases h
  rename_i hpl
  obtain⟨hkb,hpl⟩:=hpl
  subst hkb
  simp only[Xb]at h
  obtain⟨hkv,hki⟩:=Zm6 h2 hko
  cases h1 with
  | mapr _ _ _ hu hv =>
   have hv':=hv _ hh
   obtain⟨b,es,clk,l,hv2,hheap,hS,hN,hkl,hsz,hes⟩:=m.objs id _ hh
   have hv3:=hv'.trans hv2
   have hf:=Zjm kb0 st hki es.toList l 0 (by simpa using hsz) (fun i m k c hm hc=>⟨(hes i m k c (by simpa using hm) hc).1,(hes i m k c (by simpa using hm) hc).2.1⟩)
   have hck:=MapKept.run_checkKey (P:=cx.P) (w:=w) hkt (Zfl kb0 st) false 9999
   -- the new entries
   have hnew:∃ es' clk',(execOp a.eval o).run cx.P w=.ok .skip { w with heap:=w.heap.setIfInBounds b (.map es' clk') }/\es'.size=(listPut st c3 l).length /\
     ∀ (i:Nat) (m:MapEntry) (k:ByteArray) (c:AV),es'[i]?=some m->(listPut st c3 l)[i]?=some (k,c)->m.key=keyV kb0 k/\keyIs kb0 k/\c.plain=true/\SRel cx.num w cx.R g s.heap s.ep m.val c:=by
    rcases hf with ⟨hf1,hf2,hf3⟩|⟨j,m0,c,hf1,hf2,hmk,hf3,hf4,hf5⟩
    ·have hfk:=MapKept.run_findKey (P:=cx.P) (w:=w) hkt hf1
     refine⟨es.push { key:=keyV kb0 st,val:=v3,born:=clk },clk+1,?_,?_,?_⟩
     ·rcases ho with ho|ho<;>simp[execOp,ho,e1,e2,e3,hkv,hv3,Instr.mapUpdate,run_underlying ht,MapKept.run_getObj_map hheap,hck,hfk,MapKept.run_setObj_map _ hheap]
     ·rw[hf3];simp[hsz]
     ·intro i m k c hm hc
      rw[hf3]at hc
      rw[Array.getElem?_push]at hm
      rw[Xa9]at hc
      by_cases hi:i=es.size
      ·subst hi
       rw[Xr rfl]at hm
       rw[Xu (by omega),hsz,Xcw]at hc
       simp only[Xm,Xb,Xk]at hm hc
       obtain⟨rfl,rfl⟩:=hc
       subst hm
       exact⟨rfl,hki,hpl,h3⟩
      ·rw[Xu hi]at hm
       have:=(Xab.1 hm).1
       rw[Xr (by omega)]at hc
       exact hes i m k c hm hc
    ·have hfk:=MapKept.run_findKey (P:=cx.P) (w:=w) hkt hf1
     have hj:es[j]?=some m0:=by simpa using hf2
     have hstay:=MapKept.run_keyThatStays (P:=cx.P) (w:=w) (Zfl kb0 st)
     refine⟨es.modify j fun e=>{ e with key:=keyV kb0 st,val:=v3 },clk,?_,?_,?_⟩
     ·rcases ho with ho|ho<;>simp[execOp,ho,e1,e2,e3,hkv,hv3,Instr.mapUpdate,run_underlying ht,MapKept.run_getObj_map hheap,hck,hfk,hj,hmk,hstay,MapKept.run_setObj_map _ hheap]
     ·rw[hf5];simp[hsz]
     ·intro i m k c hm hc
      rw[hf5]at hc
      rw[Array.getElem?_modify]at hm
      rw[List.getElem?_set]at hc
      by_cases hi:j=i
      ·subst hi
       have:=(Xa.1 hf3).1
       simp only[hj,Xag,Xw,Xb]at hm
       simp only[this,Xag,Xb,Xk]at hc
       obtain⟨rfl,rfl⟩:=hc
       subst hm
       exact⟨rfl,hki,hpl,h3⟩
      ·rw[Xu hi]at hm hc
       exact hes i m k c hm hc
   obtain⟨es',clk',hrun,hsz',hes'⟩:=hnew
   have hset:=MapKept.heap_set (o':=.map es' clk') hheap
   have hsize:(w.heap.setIfInBounds b (.map es' clk')).size=w.heap.size:=by simp
   generalize hw1:({ w with heap:=w.heap.setIfInBounds b (.map es' clk') }:World)=w1 at hrun
   have hw1h:w1.heap=w.heap.setIfInBounds b (.map es' clk'):=by rw[<- hw1]
   have hfr:w1.os=w.os/\w1.tape=w.tape/\w1.output=w.output:=by rw[<- hw1];exact⟨rfl,rfl,rfl⟩
   rw[<- hw1h]at hset hsize
   have hSb:g.fp id b:=(hS b).2 rfl
   subst h
   have t:Touch cx (fun j=>j=id) s.heap s.ep g w (upd s.heap id (some (.map kb0 (mapPut st c3 kvs)))) s.ep g w1:=by
    refine⟨hfr.1,hfr.2.1,hfr.2.2,by omega,Xo _,?_,?_,fun _ h=>h,?_,?_,?_,?_,fun _ h=>h,fun _ h=>.inl h,m.I_N,fun _ h=>h,fun _ h=>.inl h,?_⟩
    ·intro j hj
     exact⟨by simp[upd,hj],fun _=>⟨rfl,rfl⟩⟩
    ·intro k hk hO
     exact hset.2 k (fun e=>hO ⟨id,_,rfl,hh,e ▸ hSb⟩)
    ·intro j o' hj _
     rw[hj];exact m.used id _ hh
    ·intro j o' hj _ ho'
     rw[hj]at ho' ⊢
     simp only[upd,Xag,Xb]at ho'
     subst ho'
     exact⟨_,hh,rfl,rfl⟩
    ·intro j o' k hj _ hf
     rw[hj]at hf
     exact⟨.inr ⟨id,_,rfl,hh,hf⟩,(m.mine id _ k hh hf).2⟩
    ·intro j j' _ _ k hj hj' _ _ _ _
     exact hj.trans hj'.symm
    ·intro _ k hk
     exact hset.2 k (fun e=>hN (e ▸ hk))
   have k:=t.keeps m
   refine⟨.skip,undef,w1,g,hrun,.inr ⟨rfl,rfl⟩,k,t.mem m (fun j o' hj ho'=>?_),.any _,fun _ h=>.inl h⟩
   rw[hj]at ho' ⊢
   simp only[upd,Xag,Xb]at ho'
   subst ho'
   exact⟨b,es',clk',listPut st c3 l,hv2,hset.1,hS,hN,fun k=>by rw[Zhg,hkl k];rfl,hsz',fun i m k' c hm hc=>⟨(hes' i m k' c hm hc).1,(hes' i m k' c hm hc).2.1,(hes' i m k' c hm hc).2.2.1,(hes' i m k' c hm hc).2.2.2.mono k⟩⟩
end
end Go.Proofs.YtgdfelbedghhnaaGreatDoor
namespace Go.Proofs.YtgdfelbedghhnaaGreatDoor
open Go Go.RowKit
set_option linter.unusedSimpArgs false
theorem Zgg:∀ {xs:List (List AV)} {bs:List UInt8},toBytes xs=some bs->∃ ns:List Int,xs=ns.map (fun n=>[AV.int .u8 n])/\bs=ns.map fun n=>UInt8.ofNat n.toNat
 | [],bs,h=>by
  simp only[toBytes,Xb]at h
  exact⟨[],rfl,h.symm⟩
 | r::xs,bs,h=>by
  unfold toBytes at h
  split at h
  ·cases h
   rename_i he
   cases he
  ·rename_i n xs' he
   obtain⟨rfl,rfl⟩:=List.cons.inj he
   cases hr:toBytes xs with
   | none=>rw[hr]at h;cases h
   | some b =>
    rw[hr]at h
    simp only[Xb]at h
    obtain⟨ns,h1,h2⟩:=Zgg hr
    exact⟨n::ns,by simp[h1],by simp[<- h,h2]⟩
  ·cases h
section
variable {cx:Cx} {s:St} {g:Gh} {a:Act} {w:World} {o:Oper} {key:Nat} {out:Out} {cl:Callee}
theorem Znw(m:Mem cx s.heap s.ep g w){x:Operand}{t t' e:TypeId}{y:Opd}(ho:o.op=.convert t t' x)(ht:cx.P.underlying t=some (.slice e))(he:cx.P.underlying e=some (.int .u8))(ht':cx.P.underlying t'=some .string)
  (h1:SRel cx.num w cx.R g s.heap s.ep (a.eval x) (y.ev s.slots)) (h:sem cl (.toStr y) key s.slots s.heap s.ep=some out):Done cx s g a w o key out:=by
 simp only[sem]at h
 cases hc:content s.heap s.ep (y.ev s.slots) with
 | none=>rw[hc]at h;cases h
 | some p =>
  obtain⟨sz,xs⟩:=p
  rw[hc]at h
  simp only at h
  cases hb:toBytes xs with
  | none=>rw[hb]at h;cases h
  | some bs =>
   rw[hb]at h
   obtain⟨ns,hxs,hbs⟩:=Zgg hb
   have hstr:(⟨bs.toArray⟩:ByteArray)=strOfNums ns:=by rw[hbs];rfl
   simp only at h
   rw[hstr]at h
   rcases Zef m h1 hc with ⟨rfl,ad,cap,hv⟩|⟨b,off,cap,us,hv,hrow,hcell⟩
   ·have hns:ns=[]:=by cases ns with|nil=>rfl|cons _ _=>simp at hxs
    subst hns
    refine Zai m (v:=.string (strOfNums [])) ?_ (.str _) h
    cases ad with
    | none =>
     have:=run_convert_bytes_nil (P:=cx.P) w t e ht he 0 cap t' ht'
     simp[execOp,ho,hv,this]
     rfl
    | some ad =>
     have h2:=run_convert_bytes_string (P:=cx.P) w t t' e (some ad) 0 cap ht he ht'
     have h3:(Conv.bytesToString (.slice (some ad) 0 cap)).run cx.P w=.ok (.string ByteArray.empty) w:=by
      have:=run_bytesToString (P:=cx.P) w ad 0 cap [] (by simp[loadCells,loadCellsFrom])
      simpa using this
     simp[execOp,ho,hv,h2,h3]
     rfl
   ·refine Zai m (v:=.string (strOfNums ns)) ?_ (.str _) h
    have hlen:xs.length=ns.length:=by rw[hxs];simp
    have:=run_convert_bytes_arg (P:=cx.P) w t e ht he b off xs.length cap ns hlen.symm (fun i hi=>by
     have hni:ns[i]?=some (ns.getD i 0):=by simp[List.getD,Xd (show i<ns.length by omega)]
     have hx:xs[i]?=some [AV.int .u8 (ns.getD i 0)]:=by rw[hxs,Xam,hni];rfl
     have hsz:sz=1:=by have:=hrow _ (Xe hx);simpa using this.symm
     subst hsz
     obtain⟨h2,h3⟩:=hcell i 0 (.int .u8 (ns.getD i 0)) (Zab.2 ⟨_,hx,rfl⟩)
     generalize us i 0=u at h2 h3
     cases h3
     simpa using h2) t' ht'
    simp[execOp,ho,hv,this]
end
end Go.Proofs.YtgdfelbedghhnaaGreatDoor
namespace Go.Proofs.YtgdfelbedghhnaaGreatDoor
open Go Go.RowKit
set_option linter.unusedSimpArgs false
structure ClCells(w:World)(I N:Nat->Prop)(us:List Value)(cs:List AV)(fs:Nat->Nat->Prop):Prop where
 size:us.length=cs.length
 cl:∀ (i:Nat) (u:Value) (c:AV),us[i]?=some u->cs[i]?=some c->Cl w I u c (fs i)
 inN:∀ i x,i<cs.length->fs i x->N x
 dis:∀ i j x,i<cs.length->j<cs.length->fs i x->fs j x->i=j
inductive Shut (w:World) (I N:Nat->Prop):Value->AV->(Nat->Prop)->Prop
 | one (v:Value) (c:AV) (S:Nat->Prop) (h:Cl w I v c S) (hN:∀ x,S x->N x):Shut w I N v c S
 | agg (vs:Array Value) (cs:List AV) (fs:Nat->Nat->Prop) (S:Nat->Prop) (h:ClCells w I N vs.toList cs fs) (hS:∀ x,S x↔∃ i,i<cs.length/\fs i x):Shut w I N (.agg vs) (.agg cs) S
 | cellp (b:Nat) (cur:Array Value) (e:TypeId) (cs:List AV) (fs:Nat->Nat->Prop) (S:Nat->Prop) (hh:w.heap[b]?=some (.cells cur e (0,0))) (h:ClCells w I N cur.toList cs fs) (hb:¬ N b)
   (hS:∀ x,S x↔x=b\/∃ i,i<cs.length/\fs i x):Shut w I N (.pointer (some ⟨b,0,none⟩)) (.cellp cs) S
structure ShutL(w:World)(I N:Nat->Prop)(vs:List Value)(cs:List AV)(fs:Nat->Nat->Prop):Prop where
 size:vs.length=cs.length
 sh:∀ (i:Nat) (u:Value) (c:AV),vs[i]?=some u->cs[i]?=some c->Shut w I N u c (fs i)
 dis:∀ i j x,i<cs.length->j<cs.length->fs i x->fs j x->i=j
def AV.isTup:AV->Bool
 | .tup _=>true
 | _=>false
inductive ResRel (w:World) (I N:Nat->Prop):Value->AV->(Nat->Prop)->Prop
 | one (v:Value) (c:AV) (S:Nat->Prop) (h:Shut w I N v c S) (ht:c.isTup=false):ResRel w I N v c S
 | tup (vs:Array Value) (cs:List AV) (fs:Nat->Nat->Prop) (S:Nat->Prop) (h:ShutL w I N vs.toList cs fs) (hS:∀ x,S x↔∃ i,i<cs.length/\fs i x):ResRel w I N (.tuple vs) (.tup cs) S
def OpenRel(gv:Nat->Value)(lo hi:Nat)(w:World)(I:Nat->Prop)(u:Value)(c:AV):Prop :=
 (∃ n,c=.ref n/\lo<=n/\n<hi/\u=gv n/\u.oneCell'=true)\/((∃ S,Cl w I u c S)/\∀ sz xs,c≠.sl .own sz xs)
theorem OpenRel.srel{gv:Nat->Value}{lo hi:Nat}{w:World}{I:Nat->Prop}{u:Value}{c:AV}(h:OpenRel gv lo hi w I u c){num:Nat->Option FuncId}{R:Nat->Prop}{g:Gh}{hp:Nat->Option AO}{ep:Nat}
  (hv:∀ n,lo<=n->n<hi->g.v n=gv n/\g.used n) (hI:∀ b,I b->g.I b):u.oneCell'=true/\SRel num w R g hp ep u c:=by
 rcases h with ⟨n,rfl,h1,h2,h3,h4⟩|⟨⟨S,h1⟩,h2⟩
 ·obtain⟨h5,h6⟩:=hv n h1 h2
  exact⟨h4,.ref _ _ h4 h6 (fun _ _=>h3.trans h5.symm)⟩
 ·refine⟨h1.one,?_⟩
  have h5:=h1.one
  cases h1 with
  | any=>exact .any _
  | bool=>exact .bool _
  | int=>exact .int _ _
  | str=>exact .str _
  | imm _ sz xs _ hb _=>exact .sl _ _ _ _ h5 (fun _=>hb.mono (Same.refl _ _) hI) (fun e he=>by cases he) (by simp)
  | nil sz=>exact absurd rfl (h2 _ _)
  | own sz xs=>exact absurd rfl (h2 _ _)
theorem OpenRel.mono{gv gv':Nat->Value}{lo hi lo' hi':Nat}{w:World}{I:Nat->Prop}{u:Value}{c:AV}(h:OpenRel gv lo hi w I u c)(hv:∀ n,lo<=n->n<hi->gv' n=gv n)(hl:lo'<=lo)(hh:hi<=hi'):OpenRel gv' lo' hi' w I u c:=by
 rcases h with ⟨n,rfl,h1,h2,h3,h4⟩|h
 ·exact .inl ⟨n,rfl,by omega,by omega,by rw[hv n h1 h2];exact h3,h4⟩
 ·exact .inr h
def OObj(w:World)(I N:Nat->Prop)(gv:Nat->Value)(lo hi:Nat)(v:Value)(S:Nat->Prop):AO->Prop
 | .arr sz xs=>Cl w I v (.sl .own sz xs) S/\∀ x,S x->N x
 | .box cells=>∃ b cur e,v=.pointer (some ⟨b,0,none⟩)/\w.heap[b]?=some (.cells cur e (0,0))/\cur.size=cells.length/\(∀ x,S x↔x=b)/\¬ N b /\
   ∀ (i:Nat) (u:Value) (c:AV),cur[i]?=some u->cells[i]?=some c->OpenRel gv lo hi w I u c
 | .map _ _=>False
theorem OObj.mono{w:World}{I N:Nat->Prop}{gv gv':Nat->Value}{lo hi lo' hi':Nat}{v:Value}{S:Nat->Prop}{o:AO}(h:OObj w I N gv lo hi v S o)(hv:∀ n,lo<=n->n<hi->gv' n=gv n)(hl:lo'<=lo)(hh:hi<=hi'):OObj w I N gv' lo' hi' v S o:=by
 cases o with
 | arr sz xs=>exact h
 | map _ _=>exact h
 | box cells =>
  obtain⟨b,cur,e,h1,h2,h3,h4,h5,h6⟩:=h
  exact⟨b,cur,e,h1,h2,h3,h4,h5,fun i u c hu hc=>(h6 i u c hu hc).mono hv hl hh⟩
structure Seg(w:World)(I N:Nat->Prop)(gv:Nat->Value)(gf:Nat->Nat->Prop)(key:Nat)(ws:List (Nat×Option AO))(F:Nat->Prop):Prop where
 nums:∀ (j:Nat) (p:Nat×Option AO),ws[j]?=some p->p.1=key+j
 obj:∀ p∈ws,∃ o,p.2=some o/\OObj w I N gv key (key+ws.length) (gv p.1) (gf p.1) o
 inF:∀ p∈ws,∀ x,gf p.1 x->F x
 dis:∀ p∈ws,∀ q∈ws,∀ x,gf p.1 x->gf q.1 x->p.1=q.1
def Agree{α:Type}(f f':Nat->α)(key len:Nat):Prop:=∀ n,(n<key\/key+len<=n)->f' n=f n
section
variable {w:World} {I N:Nat->Prop}
theorem Seg.range{gv:Nat->Value}{gf:Nat->Nat->Prop}{key:Nat}{ws:List (Nat×Option AO)}{F:Nat->Prop}(h:Seg w I N gv gf key ws F):∀ p∈ws,key<=p.1/\p.1<key+ws.length:=by
 intro p hp
 obtain⟨j,hj⟩:=Xak hp
 have:=h.nums j p hj
 have:=(Xa.1 hj).1
 omega
theorem Seg.nil(gv:Nat->Value)(gf:Nat->Nat->Prop)(key:Nat)(F:Nat->Prop):Seg w I N gv gf key [] F :=
 ⟨fun j p h=>by simp at h,fun p h=>by simp at h,fun p h=>by simp at h,fun p h=>by simp at h⟩
theorem Seg.append{gv gv':Nat->Value}{gf gf':Nat->Nat->Prop}{key:Nat}{ws ws':List (Nat×Option AO)}{F F':Nat->Prop}(h:Seg w I N gv gf key ws F)(h':Seg w I N gv' gf' (key+ws.length) ws' F')
  (av:Agree gv gv' (key+ws.length) ws'.length) (af:Agree gf gf' (key+ws.length) ws'.length) (hd:∀ x,F x->¬ F' x):Seg w I N gv' gf' key (ws++ws') (fun x=>F x\/F' x):=by
 have e1:∀ p∈ws,gv' p.1=gv p.1/\gf' p.1=gf p.1:=fun p hp=>by
  have:=h.range p hp
  exact⟨av _ (.inl (by omega)),af _ (.inl (by omega))⟩
 refine⟨fun j p hj=>?_,fun p hp=>?_,fun p hp x hx=>?_,fun p hp q hq x hx hx'=>?_⟩
 ·rw[Xa9]at hj
  split at hj
  ·exact h.nums j p hj
  ·have:=h'.nums _ p hj;omega
 ·rw[Xs]
  rcases Xg.1 hp with hp|hp
  ·obtain⟨o,h1,h2⟩:=h.obj p hp
   rw[(e1 p hp).1,(e1 p hp).2]
   exact⟨o,h1,h2.mono (fun n h3 h4=>av n (.inl h4)) (Xo _) (by omega)⟩
  ·obtain⟨o,h1,h2⟩:=h'.obj p hp
   exact⟨o,h1,h2.mono (fun _ _ _=>rfl) (by omega) (by omega)⟩
 ·rcases Xg.1 hp with hp|hp
  ·rw[(e1 p hp).2]at hx;exact .inl (h.inF p hp x hx)
  ·exact .inr (h'.inF p hp x hx)
 ·rcases Xg.1 hp with hp|hp<;>rcases Xg.1 hq with hq|hq
  ·rw[(e1 p hp).2]at hx;rw[(e1 q hq).2]at hx';exact h.dis p hp q hq x hx hx'
  ·rw[(e1 p hp).2]at hx;exact absurd (h'.inF q hq x hx') (hd x (h.inF p hp x hx))
  ·rw[(e1 q hq).2]at hx';exact absurd (h'.inF p hp x hx) (hd x (h.inF q hq x hx'))
  ·exact h'.dis p hp q hq x hx hx'
theorem Seg.weak{gv:Nat->Value}{gf:Nat->Nat->Prop}{key:Nat}{ws:List (Nat×Option AO)}{F F':Nat->Prop}(h:Seg w I N gv gf key ws F)(hF:∀ x,F x->F' x):Seg w I N gv gf key ws F' :=
 ⟨h.nums,h.obj,fun p hp x hx=>hF x (h.inF p hp x hx),h.dis⟩
theorem Agree.refl{α:Type}(f:Nat->α)(key len:Nat):Agree f f key len:=fun _ _=>rfl
theorem Agree.append{α:Type}{f f' f'':Nat->α}{key a b:Nat}(h:Agree f f' key a)(h':Agree f' f'' (key+a) b):Agree f f'' key (a+b):=by
 intro n hn
 rw[h' n (by omega),h n (by omega)]
theorem Zkt{u:Value}{c:AV}{S:Nat->Prop}(h:Cl w I u c S)(hN:∀ x,S x->N x)(gv0:Nat->Value)(gf0:Nat->Nat->Prop)(key:Nat) :
  ∃ gv gf,Agree gv0 gv key (open1 key c).2.length/\Agree gf0 gf key (open1 key c).2.length/\Seg w I N gv gf key (open1 key c).2 S/\OpenRel gv key (key+(open1 key c).2.length) w I u (open1 key c).1:=by
 have other:(∀ sz xs,c≠.sl .own sz xs)->open1 key c=(c,[]):=by
  intro hn
  cases c<;>try rfl
  rename_i md sz xs
  cases md<;>first|rfl|exact absurd rfl (hn _ _)
 by_cases hc:∃ sz xs,c=.sl .own sz xs
 ·obtain⟨sz,xs,rfl⟩:=hc
  refine⟨upd gv0 key u,upd gf0 key S,fun n hn=>?_,fun n hn=>?_,⟨fun j p hj=>?_,fun p hp=>?_,fun p hp x hx=>?_,fun p hp q hq _ _ _=>?_⟩,.inl ⟨key,rfl,Xo _,by simp[open1],by simp[upd],h.one⟩⟩
  ·simp only[open1,Xbm]at hn;simp only[upd];rw[Xu (by omega)]
  ·simp only[open1,Xbm]at hn;simp only[upd];rw[Xu (by omega)]
  ·simp only[open1]at hj
   cases j with
   | zero=>simp only[Xm,Xb]at hj;rw[<- hj];rfl
   | succ j=>simp at hj
  ·simp only[open1,Xn]at hp
   subst hp
   exact⟨_,rfl,by simpa [upd] using h,by simpa [upd] using hN⟩
  ·simp only[open1,Xn]at hp
   subst hp
   simpa [upd] using hx
  ·simp only[open1,Xn]at hp hq
   rw[hp,hq]
 ·have hn:∀ sz xs,c≠.sl .own sz xs:=fun sz xs e=>hc ⟨sz,xs,e⟩
  rw[other hn]
  exact⟨gv0,gf0,Agree.refl _ _ _,Agree.refl _ _ _,Seg.nil _ _ _ _,.inr ⟨⟨S,h⟩,hn⟩⟩
theorem Zde(key:Nat):∀ cs:List AV,(openL key cs).1.length=cs.length:=by
 intro cs
 induction cs generalizing key with
 | nil=>rfl
 | cons c cs ih=>simp[openL,ih]
theorem Zeo:∀ {us:List Value} {cs:List AV} {fs:Nat->Nat->Prop},ClCells w I N us cs fs->∀ (gv0:Nat->Value) (gf0:Nat->Nat->Prop) (key:Nat),
  ∃ gv gf,Agree gv0 gv key (openL key cs).2.length/\Agree gf0 gf key (openL key cs).2.length/\Seg w I N gv gf key (openL key cs).2 (fun x=>∃ i,i<cs.length/\fs i x) /\
   ∀ (i:Nat) (u:Value) (c:AV),us[i]?=some u->(openL key cs).1[i]?=some c->OpenRel gv key (key+(openL key cs).2.length) w I u c
 | [],[],fs,_,gv0,gf0,key=>⟨gv0,gf0,Agree.refl _ _ _,Agree.refl _ _ _,Seg.nil _ _ _ _,fun i u c hu=>by simp at hu⟩
 | [],_::_,_,h,_,_,_=>by have:=h.size;simp at this
 | _::_,[],_,h,_,_,_=>by have:=h.size;simp at this
 | u::us,c::cs,fs,h,gv0,gf0,key=>by
  obtain⟨gv1,gf1,a1,b1,s1,r1⟩:=Zkt (N:=N) (h.cl 0 u c rfl rfl) (fun x hx=>h.inN 0 x (by simp) hx) gv0 gf0 key
  have ht:ClCells w I N us cs (fun i=>fs (i+1)):=⟨by have:=h.size;simpa using this,fun i v d hv hd=>h.cl (i+1) v d (by simpa using hv) (by simpa using hd),
   fun i x hi hx=>h.inN (i+1) x (by simp;omega) hx,fun i j x hi hj h1 h2=>by have:=h.dis (i+1) (j+1) x (by simp;omega) (by simp;omega) h1 h2;omega⟩
  obtain⟨gv2,gf2,a2,b2,s2,r2⟩:=Zeo ht gv1 gf1 (key+(open1 key c).2.length)
  have hlen:(openL key (c::cs)).2.length=(open1 key c).2.length+(openL (key+(open1 key c).2.length) cs).2.length:=by simp[openL]
  refine⟨gv2,gf2,by rw[hlen];exact a1.append a2,by rw[hlen];exact b1.append b2,?_,?_⟩
  ·refine (s1.append s2 a2 b2 (fun x hx=>?_)).weak ?_
   ·rintro⟨i,hi,hx2⟩
    have:=h.dis 0 (i+1) x (by simp) (by simp;omega) hx hx2
    omega
   ·rintro x (hx|⟨i,hi,hx⟩)
    ·exact⟨0,by simp,hx⟩
    ·exact⟨i+1,by simp;omega,hx⟩
  ·intro i v d hv hd
   rw[hlen]
   cases i with
   | zero =>
    simp only[openL,Xm,Xb]at hv hd
    subst hv;subst hd
    exact r1.mono (fun n h1 h2=>a2 n (.inl h2)) (Xo _) (by omega)
   | succ i =>
    exact (r2 i v d (by simpa using hv) (by simpa [openL] using hd)).mono (fun _ _ _=>rfl) (by omega) (by omega)
inductive OpenV (gv:Nat->Value) (lo hi:Nat) (w:World) (I:Nat->Prop) (isBox:Nat->Prop):Value->AV->Prop
 | one (u:Value) (c:AV) (h:OpenRel gv lo hi w I u c):OpenV gv lo hi w I isBox u c
 | agg (us:Array Value) (cs:List AV) (hl:us.size=cs.length) (h:∀ (i:Nat) (u:Value) (c:AV),us[i]?=some u->cs[i]?=some c->OpenRel gv lo hi w I u c):OpenV gv lo hi w I isBox (.agg us) (.agg cs)
 | ptr (n b:Nat) (h1:lo<=n) (h2:n<hi) (hb:isBox n) (hv:gv n=.pointer (some ⟨b,0,none⟩)):OpenV gv lo hi w I isBox (.pointer (some ⟨b,0,none⟩)) (.ptr n 0 0)
def BoxIn(ws:List (Nat×Option AO))(n:Nat):Prop:=∃ cells,(n,some (.box cells))∈ws
theorem OpenV.mono{gv gv':Nat->Value}{lo hi lo' hi':Nat}{B B':Nat->Prop}{u:Value}{c:AV}(h:OpenV gv lo hi w I B u c)(hv:∀ n,lo<=n->n<hi->gv' n=gv n)(hl:lo'<=lo)(hh:hi<=hi')(hB:∀ n,B n->B' n):OpenV gv' lo' hi' w I B' u c:=by
 cases h with
 | one u c h=>exact .one u c (h.mono hv hl hh)
 | agg us cs hl' h=>exact .agg us cs hl' fun i u c hu hc=>(h i u c hu hc).mono hv hl hh
 | ptr n b h1 h2 hb hv'=>exact .ptr n b (by omega) (by omega) (hB n hb) (by rw[hv n h1 h2];exact hv')
theorem Zkw{v:Value}{c:AV}{S:Nat->Prop}(h:Shut w I N v c S)(gv0:Nat->Value)(gf0:Nat->Nat->Prop)(key:Nat) :
  ∃ gv gf,Agree gv0 gv key (openV key c).2.length/\Agree gf0 gf key (openV key c).2.length/\Seg w I N gv gf key (openV key c).2 S/\OpenV gv key (key+(openV key c).2.length) w I (BoxIn (openV key c).2) v (openV key c).1:=by
 cases h with
 | one v c S h hN =>
  have hc:openV key c=open1 key c:=by
   cases h<;>rfl
  rw[hc]
  obtain⟨gv,gf,h1,h2,h3,h4⟩:=Zkt h hN gv0 gf0 key
  exact⟨gv,gf,h1,h2,h3,.one _ _ h4⟩
 | agg vs cs fs S h hS =>
  obtain⟨gv,gf,h1,h2,h3,h4⟩:=Zeo h gv0 gf0 key
  exact⟨gv,gf,h1,h2,h3.weak fun x hx=>(hS x).2 hx,.agg _ _ (by rw[Zde];simpa using h.size) fun i u c hu hc=>h4 i u c (by simpa using hu) hc⟩
 | cellp b cur e cs fs S hh h hb hS =>
  obtain⟨gv,gf,h1,h2,h3,h4⟩:=Zeo h (upd gv0 key (.pointer (some ⟨b,0,none⟩))) (upd gf0 key fun x=>x=b) (key+1)
  have hlen:(openV key (.cellp cs)).2.length=1+(openL (key+1) cs).2.length:=by simp[openV];omega
  have ek:gv key=.pointer (some ⟨b,0,none⟩):=by rw[h1 key (.inl (by omega))];simp[upd]
  have ef:gf key=fun x=>x=b:=by rw[h2 key (.inl (by omega))];simp[upd]
  refine⟨gv,gf,?_,?_,?_,?_⟩
  ·rw[hlen]
   refine Agree.append (f':=upd gv0 key (.pointer (some ⟨b,0,none⟩))) (fun n hn=>?_) h1
   simp only[upd];rw[Xu (by omega)]
  ·rw[hlen]
   refine Agree.append (f':=upd gf0 key fun x=>x=b) (fun n hn=>?_) h2
   simp only[upd];rw[Xu (by omega)]
  ·refine⟨fun j p hj=>?_,fun p hp=>?_,fun p hp x hx=>?_,fun p hp q hq x hx hx'=>?_⟩
   ·simp only[openV]at hj
    cases j with
    | zero=>simp only[Xm,Xb]at hj;rw[<- hj];rfl
    | succ j=>have:=h3.nums j p (by simpa using hj);omega
   ·simp only[openV,Xl]at hp
    rw[hlen]
    rcases hp with rfl|hp
    ·rw[ek,ef]
     refine⟨_,rfl,b,cur,e,rfl,hh,by rw[Zde];simpa using h.size,fun x=>Iff.rfl,hb,fun i u c hu hc=>?_⟩
     exact (h4 i u c (by simpa using hu) hc).mono (fun _ _ _=>rfl) (by omega) (by omega)
    ·obtain⟨o,h5,h6⟩:=h3.obj p hp
     exact⟨o,h5,h6.mono (fun _ _ _=>rfl) (by omega) (by omega)⟩
   ·simp only[openV,Xl]at hp
    rcases hp with rfl|hp
    ·rw[ef]at hx;exact (hS x).2 (.inl hx)
    ·exact (hS x).2 (.inr (h3.inF p hp x hx))
   ·simp only[openV,Xl]at hp hq
    have hbn:∀ p∈(openL (key+1) cs).2,¬ gf p.1 b:=fun p hp hx=>by
     obtain⟨i,hi,hx⟩:=h3.inF p hp b hx
     exact hb (h.inN i b hi hx)
    rcases hp with rfl|hp<;>rcases hq with rfl|hq
    ·rfl
    ·rw[ef]at hx;exact absurd (hx ▸ hx') (hbn q hq)
    ·rw[ef]at hx';exact absurd (hx' ▸ hx) (hbn p hp)
    ·exact h3.dis p hp q hq x hx hx'
  ·refine .ptr key b (Xo _) (by rw[hlen];omega) ⟨_,by simp[openV];exact .inl rfl⟩ ek
theorem Zku(key:Nat):∀ cs:List AV,(openT key cs).1.length=cs.length:=by
 intro cs
 induction cs generalizing key with
 | nil=>rfl
 | cons c cs ih=>simp[openT,ih]
theorem Zkv:∀ {us:List Value} {cs:List AV} {fs:Nat->Nat->Prop},ShutL w I N us cs fs->∀ (gv0:Nat->Value) (gf0:Nat->Nat->Prop) (key:Nat),
  ∃ gv gf,Agree gv0 gv key (openT key cs).2.length/\Agree gf0 gf key (openT key cs).2.length/\Seg w I N gv gf key (openT key cs).2 (fun x=>∃ i,i<cs.length/\fs i x) /\
   ∀ (i:Nat) (u:Value) (c:AV),us[i]?=some u->(openT key cs).1[i]?=some c->OpenV gv key (key+(openT key cs).2.length) w I (BoxIn (openT key cs).2) u c
 | [],[],fs,_,gv0,gf0,key=>⟨gv0,gf0,Agree.refl _ _ _,Agree.refl _ _ _,Seg.nil _ _ _ _,fun i u c hu=>by simp at hu⟩
 | [],_::_,_,h,_,_,_=>by have:=h.size;simp at this
 | _::_,[],_,h,_,_,_=>by have:=h.size;simp at this
 | u::us,c::cs,fs,h,gv0,gf0,key=>by
  obtain⟨gv1,gf1,a1,b1,s1,r1⟩:=Zkw (h.sh 0 u c rfl rfl) gv0 gf0 key
  have ht:ShutL w I N us cs (fun i=>fs (i+1)):=⟨by have:=h.size;simpa using this,fun i v d hv hd=>h.sh (i+1) v d (by simpa using hv) (by simpa using hd),
   fun i j x hi hj h1 h2=>by have:=h.dis (i+1) (j+1) x (by simp;omega) (by simp;omega) h1 h2;omega⟩
  obtain⟨gv2,gf2,a2,b2,s2,r2⟩:=Zkv ht gv1 gf1 (key+(openV key c).2.length)
  have hlen:(openT key (c::cs)).2.length=(openV key c).2.length+(openT (key+(openV key c).2.length) cs).2.length:=by simp[openT]
  refine⟨gv2,gf2,by rw[hlen];exact a1.append a2,by rw[hlen];exact b1.append b2,?_,?_⟩
  ·refine (s1.append s2 a2 b2 (fun x hx=>?_)).weak ?_
   ·rintro⟨i,hi,hx2⟩
    have:=h.dis 0 (i+1) x (by simp) (by simp;omega) hx hx2
    omega
   ·rintro x (hx|⟨i,hi,hx⟩)
    ·exact⟨0,by simp,hx⟩
    ·exact⟨i+1,by simp;omega,hx⟩
  ·intro i v d hv hd
   rw[hlen]
   cases i with
   | zero =>
    simp only[openT,Xm,Xb]at hv hd
    subst hv;subst hd
    exact r1.mono (fun n h1 h2=>a2 n (.inl h2)) (Xo _) (by omega) (fun n ⟨cells,hc⟩=>⟨cells,by simp only[openT,Xg];exact .inl hc⟩)
   | succ i =>
    exact (r2 i v d (by simpa using hv) (by simpa [openT] using hd)).mono (fun _ _ _=>rfl) (by omega) (by omega) (fun n ⟨cells,hc⟩=>⟨cells,by simp only[openT,Xg];exact .inr hc⟩)
inductive OpenT (gv:Nat->Value) (lo hi:Nat) (w:World) (I:Nat->Prop) (isBox:Nat->Prop):Value->AV->Prop
 | one (u:Value) (c:AV) (h:OpenV gv lo hi w I isBox u c):OpenT gv lo hi w I isBox u c
 | tup (us:Array Value) (cs:List AV) (hl:us.size=cs.length) (h:∀ (i:Nat) (u:Value) (c:AV),us[i]?=some u->cs[i]?=some c->OpenV gv lo hi w I isBox u c):OpenT gv lo hi w I isBox (.tuple us) (.tup cs)
theorem Zpu{v:Value}{c:AV}{S:Nat->Prop}(h:ResRel w I N v c S)(gv0:Nat->Value)(gf0:Nat->Nat->Prop)(key:Nat) :
  ∃ gv gf,Agree gv0 gv key (openR key c).2.length/\Agree gf0 gf key (openR key c).2.length/\Seg w I N gv gf key (openR key c).2 S/\OpenT gv key (key+(openR key c).2.length) w I (BoxIn (openR key c).2) v (openR key c).1:=by
 cases h with
 | one v c S h ht =>
  have hc:openR key c=openV key c:=by
   cases c<;>first|rfl|(simp[AV.isTup]at ht)
  rw[hc]
  obtain⟨gv,gf,h1,h2,h3,h4⟩:=Zkw h gv0 gf0 key
  exact⟨gv,gf,h1,h2,h3,.one _ _ h4⟩
 | tup vs cs fs S h hS =>
  obtain⟨gv,gf,h1,h2,h3,h4⟩:=Zkv h gv0 gf0 key
  exact⟨gv,gf,h1,h2,h3.weak fun x hx=>(hS x).2 hx,.tup _ _ (by rw[Zku];simpa using h.size) fun i u c hu hc=>h4 i u c (by simpa using hu) hc⟩
theorem OpenV.srel{gv:Nat->Value}{lo hi:Nat}{B:Nat->Prop}{u:Value}{c:AV}(h:OpenV gv lo hi w I B u c){num:Nat->Option FuncId}{R:Nat->Prop}{g:Gh}{hp:Nat->Option AO}{ep:Nat}
  (hv:∀ n,lo<=n->n<hi->g.v n=gv n/\g.used n) (hI:∀ b,I b->g.I b) (hB:∀ n,B n->∀ o,hp n=some o->∃ cells,o=.box cells):SRel num w R g hp ep u c:=by
 cases h with
 | one u c h=>exact (h.srel hv hI).2
 | agg us cs hl h =>
  refine .agg _ _ hl (fun i v hv'=>?_) (fun i v c hv' hc=>((h i v c hv' hc).srel hv hI).2)
  have hi2:=(Xab.1 hv').1
  exact ((h i v _ hv' (Xd (by omega))).srel (num:=num) (R:=R) (hp:=hp) (ep:=ep) hv hI).1
 | ptr n b h1 h2 hb hv' =>
  obtain⟨h5,h6⟩:=hv n h1 h2
  refine .ptr _ _ _ _ rfl h6 (fun o ho=>?_)
  obtain⟨cells,rfl⟩:=hB n hb o ho
  exact⟨b,by rw[h5,hv'],rfl⟩
theorem OpenT.srel{gv:Nat->Value}{lo hi:Nat}{B:Nat->Prop}{u:Value}{c:AV}(h:OpenT gv lo hi w I B u c){num:Nat->Option FuncId}{R:Nat->Prop}{g:Gh}{hp:Nat->Option AO}{ep:Nat}
  (hv:∀ n,lo<=n->n<hi->g.v n=gv n/\g.used n) (hI:∀ b,I b->g.I b) (hB:∀ n,B n->∀ o,hp n=some o->∃ cells,o=.box cells):SRel num w R g hp ep u c:=by
 cases h with
 | one u c h=>exact h.srel hv hI hB
 | tup us cs hl h=>exact .tup _ _ hl (fun i v c hv' hc=>(h i v c hv' hc).srel hv hI hB)
end
end Go.Proofs.YtgdfelbedghhnaaGreatDoor
namespace Go.Proofs.YtgdfelbedghhnaaGreatDoor
open Go Go.RowKit
set_option linter.unusedSimpArgs false
def AO.av:AO->AV
 | .box cs=>.cellp cs
 | .arr sz xs=>.sl .own sz xs
 | .map _ _=>.tup []
section
variable {w:World} {I N:Nat->Prop}
theorem Shut.av_inv{v:Value}{o:AO}{S:Nat->Prop}(h:Shut w I N v o.av S) :
  (∃ sz xs,o=.arr sz xs/\Cl w I v (.sl .own sz xs) S/\∀ x,S x->N x) \/
  ∃ b cur e cs fs,o=.box cs/\v=.pointer (some ⟨b,0,none⟩)/\w.heap[b]?=some (.cells cur e (0,0))/\ClCells w I N cur.toList cs fs/\¬ N b/\∀ x,S x↔x=b\/∃ i,i<cs.length/\fs i x:=by
 cases o with
 | arr sz xs =>
  cases h with
  | one v c S h hN=>exact .inl ⟨sz,xs,rfl,h,hN⟩
 | box cs =>
  cases h with
  | one v c S h hN=>cases h
  | cellp b cur e _ fs S hh h hb hS=>exact .inr ⟨b,cur,e,cs,fs,rfl,rfl,hh,h,hb,hS⟩
 | map _ _ =>
  cases h with
  | one v c S h hN=>cases h
structure Heads(w:World)(I N:Nat->Prop)(gv:Nat->Value)(lo hi:Nat)(v0:Nat->Value)(fo hf:Nat->Nat->Prop)(ids:List Nat)(outs:List (Option AO))(heads:List (Nat×Option AO)):Prop where
 size:heads.length=ids.length
 num:∀ (k:Nat) (p:Nat×Option AO),heads[k]?=some p->ids[k]?=some p.1
 obj:∀ (k:Nat) (p:Nat×Option AO) (o1:AO),heads[k]?=some p->p.2=some o1->∃ o,outs[k]?=some (some o)/\o.alike o1/\OObj w I N gv lo hi (v0 k) (hf k) o1
 inF:∀ k,k<ids.length->∀ x,hf k x->fo k x
theorem Zdh:∀ {ids:List Nat} {outs:List (Option AO)} {v0:Nat->Value} {fo:Nat->Nat->Prop},ids.length=outs.length->(∀ k o,outs[k]?=some (some o)->Shut w I N (v0 k) o.av (fo k)) ->
  (∀ k l x,k<ids.length->l<ids.length->fo k x->fo l x->k=l)->∀ (gv0:Nat->Value) (gf0:Nat->Nat->Prop) (key:Nat),
  ∃ gv gf hf,Agree gv0 gv key (takeBack key ids outs).2.length/\Agree gf0 gf key (takeBack key ids outs).2.length /\
   Seg w I N gv gf key (takeBack key ids outs).2 (fun x=>∃ k,k<ids.length/\fo k x)/\Heads w I N gv key (key+(takeBack key ids outs).2.length) v0 fo hf ids outs (takeBack key ids outs).1 /\
   (∀ k,k<ids.length->∀ x,hf k x->∀ q∈(takeBack key ids outs).2,¬ gf q.1 x)
 | [],[],v0,fo,_,_,_,gv0,gf0,key=>⟨gv0,gf0,fun _ _=>False,Agree.refl _ _ _,Agree.refl _ _ _,Seg.nil _ _ _ _,⟨rfl,fun k p h=>by simp[takeBack]at h,fun k p o h=>by simp[takeBack]at h,fun k hk=>by simp at hk⟩,fun k hk=>by simp at hk⟩
 | [],_::_,_,_,h,_,_,_,_,_=>by simp at h
 | _::_,[],_,_,h,_,_,_,_,_=>by simp at h
 | id::ids,o::outs,v0,fo,hl,hsh,hdis,gv0,gf0,key=>by
  have hsh':∀ k o,outs[k]?=some (some o)->Shut w I N (v0 (k+1)) o.av (fo (k+1)):=fun k o h=>hsh (k+1) o (by simpa using h)
  have hdis':∀ k l x,k<ids.length->l<ids.length->fo (k+1) x->fo (l+1) x->k=l:=fun k l x hk hl' h1 h2=>by
   have:=hdis (k+1) (l+1) x (by simp;omega) (by simp;omega) h1 h2;omega
  -- an entry that opens nothing
  have flat:∀ (hf0:Nat->Prop),takeBack key (id::ids) (o::outs)=((id,o)::(takeBack key ids outs).1,(takeBack key ids outs).2)->(∀ o1,o=some o1->∀ (gv:Nat->Value) (hi:Nat),OObj w I N gv key hi (v0 0) hf0 o1)->(∀ x,hf0 x->fo 0 x) ->
    ∃ gv gf hf,Agree gv0 gv key (takeBack key (id::ids) (o::outs)).2.length/\Agree gf0 gf key (takeBack key (id::ids) (o::outs)).2.length /\
    Seg w I N gv gf key (takeBack key (id::ids) (o::outs)).2 (fun x=>∃ k,k<(id::ids).length/\fo k x)/\Heads w I N gv key (key+(takeBack key (id::ids) (o::outs)).2.length) v0 fo hf (id::ids) (o::outs) (takeBack key (id::ids) (o::outs)).1 /\
    (∀ k,k<(id::ids).length->∀ x,hf k x->∀ q∈(takeBack key (id::ids) (o::outs)).2,¬ gf q.1 x):=by
   intro hf0 htb hob hin
   obtain⟨gv,gf,hf,a,b,sg,hd,ap⟩:=Zdh (by simpa using hl) hsh' hdis' gv0 gf0 key
   rw[htb]
   refine⟨gv,gf,fun k=>match k with|0=>hf0|k+1=>hf k,a,b,sg.weak ?_,⟨by simp[hd.size],?_,?_,?_⟩,?_⟩
   ·rintro x ⟨k,hk,hx⟩;exact⟨k+1,by simp;omega,hx⟩
   ·intro k p hp
    cases k with
    | zero=>simp only[Xm,Xb]at hp;rw[<- hp];rfl
    | succ k=>have:=hd.num k p (by simpa using hp);simpa using this
   ·intro k p o1 hp ho1
    cases k with
    | zero =>
     simp only[Xm,Xb]at hp
     rw[<- hp]at ho1
     exact⟨o1,by simpa using ho1,AO.alike_refl _,hob o1 ho1 gv _⟩
    | succ k =>
     obtain⟨o2,h1,h2,h3⟩:=hd.obj k p o1 (by simpa using hp) ho1
     exact⟨o2,by simpa using h1,h2,h3⟩
   ·intro k hk x hx
    cases k with
    | zero=>exact hin x hx
    | succ k=>exact hd.inF k (by simpa using hk) x hx
   ·intro k hk x hx q hq hg
    cases k with
    | zero =>
     obtain⟨l,hl',hx2⟩:=sg.inF q hq x hg
     have:=hdis 0 (l+1) x (by simp) (by simp;omega) (hin x hx) hx2
     omega
    | succ k=>exact ap k (by simpa using hk) x hx q hq hg
  cases o with
  | none=>exact flat (fun _=>False) (by simp[takeBack]) (fun o1 h=>by cases h) (fun _ h=>h.elim)
  | some o =>
   rcases (hsh 0 o rfl).av_inv with ⟨sz,xs,rfl,h1,h2⟩|⟨bb,cur,e,cs,fs,rfl,hv,hh,hc,hb,hS⟩
   ·exact flat (fo 0) (by simp[takeBack]) (fun o1 h gv hi=>by obtain rfl:=Xf h;exact⟨h1,h2⟩) (fun _ h=>h)
   ·obtain⟨gv1,gf1,a1,b1,s1,r1⟩:=Zeo hc gv0 gf0 key
    obtain⟨gv,gf,hf,a,b,sg,hd,ap⟩:=Zdh (by simpa using hl) hsh' hdis' gv1 gf1 (key+(openL key cs).2.length)
    have htb:takeBack key (id::ids) (some (.box cs)::outs)=((id,some (.box (openL key cs).1))::(takeBack (key+(openL key cs).2.length) ids outs).1,(openL key cs).2++(takeBack (key+(openL key cs).2.length) ids outs).2):=by simp[takeBack]
    rw[htb]
    have hf0:∀ x,(∃ i,i<cs.length/\fs i x)->fo 0 x:=fun x hx=>(hS x).2 (.inr hx)
    refine⟨gv,gf,fun k=>match k with|0=>(fun x=>x=bb)|k+1=>hf k,by simp only[Xs];exact a1.append a,by simp only[Xs];exact b1.append b,(s1.append sg a b ?_).weak ?_,⟨by simp[hd.size],?_,?_,?_⟩,?_⟩
    ·rintro x hx ⟨l,hl',hx2⟩
     have:=hdis 0 (l+1) x (by simp) (by simp;omega) (hf0 x hx) hx2
     omega
    ·rintro x (hx|⟨k,hk,hx⟩)
     ·exact⟨0,by simp,hf0 x hx⟩
     ·exact⟨k+1,by simp;omega,hx⟩
    ·intro k p hp
     cases k with
     | zero=>simp only[Xm,Xb]at hp;rw[<- hp];rfl
     | succ k=>have:=hd.num k p (by simpa using hp);simpa using this
    ·intro k p o1 hp ho1
     simp only[Xs]
     cases k with
     | zero =>
      simp only[Xm,Xb]at hp
      rw[<- hp]at ho1
      simp only[Xb]at ho1
      subst ho1
      refine⟨_,rfl,trivial,bb,cur,e,hv,hh,by rw[Zde];simpa using hc.size,fun x=>Iff.rfl,hb,fun i u c hu hcc=>?_⟩
      exact (r1 i u c (by simpa using hu) hcc).mono (fun n h3 h4=>a n (.inl h4)) (Xo _) (by omega)
     | succ k =>
      obtain⟨o2,h1,h2,h3⟩:=hd.obj k p o1 (by simpa using hp) ho1
      exact⟨o2,by simpa using h1,h2,h3.mono (fun _ _ _=>rfl) (by omega) (by omega)⟩
    ·intro k hk x hx
     cases k with
     | zero=>exact (hS x).2 (.inl hx)
     | succ k=>exact hd.inF k (by simpa using hk) x hx
    ·intro k hk x hx q hq hg
     rcases Xg.1 hq with hq|hq
     ·have hr:=s1.range q hq
      rw[b q.1 (.inl hr.2)]at hg
      have hin:=s1.inF q hq x hg
      cases k with
      | zero =>
       obtain⟨i,hi,hx2⟩:=hin
       have hx':x=bb:=hx
       exact hb (hx' ▸ hc.inN i x hi hx2)
      | succ k =>
       have:=hdis 0 (k+1) x (by simp) hk (hf0 x hin) (hd.inF k (by simpa using hk) x hx)
       omega
     ·cases k with
      | zero =>
       obtain⟨l,hl',hx2⟩:=sg.inF q hq x hg
       have:=hdis 0 (l+1) x (by simp) (by simp;omega) ((hS x).2 (.inl hx)) hx2
       omega
      | succ k=>exact ap k (by simpa using hk) x hx q hq hg
end
end Go.Proofs.YtgdfelbedghhnaaGreatDoor
namespace Go.Proofs.YtgdfelbedghhnaaGreatDoor
open Go Go.RowKit
set_option linter.unusedSimpArgs false
def GivenB(h:Nat->Option AO)(g:Gh)(ids:List Nat)(b:Nat):Prop:=∃ id o,id∈ids/\h id=some o/\g.fp id b
def GivenN(h:Nat->Option AO)(g:Gh)(ids:List Nat)(b:Nat):Prop:=g.I b\/∃ id sz xs,id∈ids/\h id=some (.arr sz xs)/\g.fp id b
def calleeCx(cx:Cx)(h:Nat->Option AO)(g:Gh)(w:World)(ids:List Nat)(objs:List AO):Cx :=
 ⟨cx.P,cx.num,fun b=>b<w.heap.size/\¬ GivenB h g ids b,GivenB h g ids,g.I,GivenN h g ids,w,ids.length,startHeap objs 0,fun k=>g.v (ids.getD k 0),cx.fz⟩
def calleeGh(h:Nat->Option AO)(g:Gh)(ids:List Nat):Gh:=⟨fun k=>g.v (ids.getD k 0),fun k=>g.fp (ids.getD k 0),g.I,GivenN h g ids,fun k=>k<ids.length⟩
theorem Zbf:∀ (os:List AO) (i k:Nat),startHeap os i k=if i<=k then os[k-i]? else none
 | [],i,k=>by simp[startHeap]
 | o::os,i,k=>by
  simp only[startHeap,upd]
  by_cases h:k=i
  ·subst h;simp
  ·rw[Xu h,Zbf os (i+1) k]
   by_cases h2:i<=k
   ·rw[Xr (by omega),Xr h2,show k-i=(k-(i+1))+1 by omega];simp
   ·rw[Xu (by omega),Xu h2]
theorem Zd1:∀ (vs:List AV) (i k:Nat),startSlots vs i k=if i<=k then vs.getD (k-i) .any else .any
 | [],i,k=>by simp[startSlots]
 | o::os,i,k=>by
  simp only[startSlots,upd]
  by_cases h:k=i
  ·subst h;simp
  ·rw[Xu h,Zd1 os (i+1) k]
   by_cases h2:i<=k
   ·rw[Xr (by omega),Xr h2,show k-i=(k-(i+1))+1 by omega];simp
   ·rw[Xu (by omega),Xu h2]
section
variable {cx:Cx} {h:Nat->Option AO} {ep:Nat} {g:Gh} {w:World}
def LookB(cx:Cx)(h:Nat->Option AO)(g:Gh)(x:AV)(b:Nat):Prop:=g.I b\/cx.R b\/(x.snaps1=true/\g.N b)\/∃ id o,id∈x.id?/\h id=some o/\g.fp id b
theorem Zlm(m:Mem cx h ep g w){v:Value}{x:AV}{sz:Nat}{xs:List (List AV)}{md:Md}(hr:SRel cx.num w cx.R g h ep v x)(hc:content h ep x=some (sz,xs)):Bor w (LookB cx h g x) v (.sl md sz xs):=by
 cases x<;>simp only[content,reduceCtorEq]at hc
 ·rename_i md' sz' ys
  cases hr with
  | nil=>simp only[Xb,Xk]at hc;obtain⟨_,rfl⟩:=hc;exact .nil _ _ _ _
  | sl _ _ _ _ _ hm hlim hown =>
   have h':md'.ok ep=true/\sz'=sz/\ys=xs:=by
    cases md'<;>cases ys<;>simp_all[Md.ok]<;>(split at hc<;>simp_all)
   obtain⟨hok,rfl,rfl⟩:=h'
   refine ((hm hok).mono (Same.refl _ _) (fun b hb=>?_)).md
   cases md' with
   | own=>exact absurd rfl hown
   | imm=>exact .inl hb
   | bor=>exact .inr (.inl hb)
   | snap e=>exact .inr (.inr (.inl ⟨rfl,hb⟩))
 ·rename_i id
  cases hh:h id with
  | none=>rw[hh]at hc;cases hc
  | some ob =>
   rw[hh]at hc
   cases ob<;>simp only[reduceCtorEq,Xb,Xk]at hc
   obtain⟨rfl,rfl⟩:=hc
   cases hr with
   | ref _ _ _ hu hv =>
    rw[hv _ hh]
    exact ((m.objs id _ hh).1.bor (fun b hb=>.inr (.inr (.inr ⟨id,_,by simp[AV.id?],hh,hb⟩))) (fun b hb=>.inl hb)).md
 ·rename_i id lo len
  cases hh:h id with
  | none=>rw[hh]at hc;cases hc
  | some ob =>
   rw[hh]at hc
   cases ob<;>simp only[reduceCtorEq]at hc
   rename_i sz0 xs0
   split at hc
   case isFalse=>cases hc
   rename_i hle
   simp only[Xb,Xk]at hc
   obtain⟨rfl,rfl⟩:=hc
   have hlen:(List.take len (List.drop lo xs0)).length=len:=by simp;omega
   cases hr with
   | view _ _ _ _ _ hu hv =>
    obtain⟨a',cap,h5,h6,h7⟩:=hv _ _ hh
    by_cases hz:len=0
    ·subst hz
     rw[h5]
     simp only[List.take_zero]
     exact .nil _ _ _ _
    ·obtain⟨b,n',c',h8,h9⟩:=h7 hz
     rcases (m.objs id _ hh).1.rows with ⟨_,h6,_⟩|⟨b',cap',cur,e',us,fs,h5',hheap,_,_,_,hcell,hrows,_,hS⟩
     ·subst h6;simp at hle;omega
     ·rw[h8]at h5'
      simp only[Value.slice.injEq,Xb,Addr.mk.injEq,Xbv]at h5'
      obtain⟨rfl,_⟩:=h5'
      have hat:∀ i j c,cellAt (List.take len (List.drop lo xs0)) i j=some c->cellAt xs0 (lo+i) j=some c:=by
       intro i j c hc
       obtain⟨row,hr1,hr2⟩:=Zab.1 hc
       refine Zab.2 ⟨row,?_,hr2⟩
       rw[Xal]at hr1
       split at hr1
       ·rwa [Xaq]at hr1
       ·cases hr1
      have hin:∀ b1,g.fp id b1->LookB cx h g (.view id lo len) b1:=fun b1 hb1=>.inr (.inr (.inr ⟨id,_,by simp[AV.id?],hh,hb1⟩))
      rw[h5,h9,<- hlen]
      rw[hlen]
      have:=Bor.sl (w:=w) (R:=LookB cx h g (.view id lo len)) md sz0 (List.take len (List.drop lo xs0)) b (lo*sz0) cap (fun i j=>us (lo+i) j) (by rw[hlen];exact h6) (hin _ ((hS _).2 (.inl rfl)))
       (fun row hr=>hrows.row row (Xbq (Xbf hr)))
       (fun i j c hc=>by rw[Zaf hheap,show lo*sz0+i*sz0+j=(lo+i)*sz0+j by rw[Xa2]];exact hcell _ _ _ (hat i j c hc))
       (fun i j c hc=>(hrows.cl _ _ _ (hat i j c hc)).bor (fun x hx=>hin x ((hS x).2 (.inr ⟨_,_,_,hat i j c hc,hx⟩))) (fun x hx=>.inl hx))
      rw[hlen]at this
      exact this
def NoArr(h:Nat->Option AO)(ids:List Nat):Prop:=∀ i∈ids,∀ o,h i=some o->o.isArr=false
theorem Zrb(m:Mem cx h ep g w){ids:List Nat}{x:AV}(hids:∀ i∈x.id?,i ∉ ids)(hsn:NoArr h ids\/x.snaps1=false){b:Nat}(hb:LookB cx h g x b):b<w.heap.size/\¬ GivenB h g ids b:=by
 rcases hb with hb|hb|⟨h1,hb⟩|⟨id,o,h1,h2,hb⟩
 ·exact⟨m.I_lt b hb,fun ⟨id,o,_,h2,h3⟩=>(m.mine id o b h2 h3).2 hb⟩
 ·obtain⟨h3,h4⟩:=m.R_old b hb
  refine⟨Xaw h3 m.frame.size,fun ⟨id,o,_,h2,h5⟩=>?_⟩
  rcases (m.mine id o b h2 h5).1 with h6|h6
  ·exact h4 h6
  ·omega
 ·rcases hsn with hsn|hsn
  ·refine⟨m.N_lt b hb,fun ⟨id,o,h3,h4,h5⟩=>?_⟩
   have h6:=m.objs id o h4
   have h7:=hsn id h3 o h4
   cases o with
   | box cells=>obtain⟨b',_,_,_,_,_,hS,hn,_⟩:=h6;exact hn ((hS b).1 h5 ▸ hb)
   | arr _ _=>cases h7
   | map _ _=>obtain⟨b',_,_,_,_,_,hS,hn,_⟩:=h6;exact hn ((hS b).1 h5 ▸ hb)
  ·rw[hsn]at h1;cases h1
 ·exact⟨(m.objs id o h2).lt b hb,fun ⟨id',o',h3,h4,h5⟩=>hids id h1 (m.disj id id' o o' b h2 h4 hb h5 ▸ h3)⟩
def Seen(cx:Cx)(h:Nat->Option AO)(ep:Nat)(g:Gh)(w:World)(ids:List Nat)(objs:List AO)(v d:AV):Prop :=
 ∀ u,SRel cx.num w cx.R g h ep u v->SRel cx.num w (calleeCx cx h g w ids objs).R (calleeGh h g ids) (startHeap objs 0) 0 u d
theorem Zix(m:Mem cx h ep g w){ids:List Nat}{objs:List AO}{v d:AV}(hl:lend1 h ep v=some d)(hids:∀ i∈v.id?,i ∉ ids)(hsn:NoArr h ids\/v.snaps1=false):Seen cx h ep g w ids objs v d:=by
 intro u hr
 have other:∀ sz xs,content h ep v=some (sz,xs)->u.oneCell'=true->SRel cx.num w (calleeCx cx h g w ids objs).R (calleeGh h g ids) (startHeap objs 0) 0 u (.sl .bor sz xs):=fun sz xs hc h1 =>
  .sl _ _ _ _ h1 (fun _=>(Zlm m hr hc).mono (Same.refl _ _) (fun b hb=>Zrb m hids hsn hb)) (fun e he=>by cases he) (by simp)
 cases v<;>simp only[lend1,reduceCtorEq,Xb]at hl
 ·exact absurd hl (by simp[content])
 ·subst hl;cases hr;exact .bool _
 ·subst hl;cases hr;exact .int _ _
 ·subst hl;cases hr;exact .str _
 ·rename_i md sz xs
  have h1:=hr.one (by simp[AV.parts])
  cases md with
  | imm =>
   simp only[Xb]at hl
   subst hl
   cases hr with
   | sl _ _ _ _ h1 hm _ _=>exact .sl _ _ _ _ h1 (fun _=>hm rfl) (fun e he=>by cases he) (by simp)
  | own =>
   simp only at hl
   cases hc:content h ep (.sl .own sz xs) with
   | none=>rw[hc]at hl;cases hl
   | some p=>rw[hc]at hl;simp only[Xb]at hl;subst hl;exact other _ _ hc h1
  | bor =>
   simp only at hl
   cases hc:content h ep (.sl .bor sz xs) with
   | none=>rw[hc]at hl;cases hl
   | some p=>rw[hc]at hl;simp only[Xb]at hl;subst hl;exact other _ _ hc h1
  | snap e =>
   simp only at hl
   cases hc:content h ep (.sl (.snap e) sz xs) with
   | none=>rw[hc]at hl;cases hl
   | some p=>rw[hc]at hl;simp only[Xb]at hl;subst hl;exact other _ _ hc h1
 ·rename_i id
  have h1:=hr.one (by simp[AV.parts])
  cases hc:content h ep (.ref id) with
  | none=>rw[hc]at hl;cases hl
  | some p=>rw[hc]at hl;simp only[Xb]at hl;subst hl;exact other _ _ hc h1
 ·rename_i id lo len
  have h1:=hr.one (by simp[AV.parts])
  cases hc:content h ep (.view id lo len) with
  | none=>rw[hc]at hl;cases hl
  | some p=>rw[hc]at hl;simp only[Xb]at hl;subst hl;exact other _ _ hc h1
 all_goals first|exact absurd hl (by simp[content])|(subst hl;cases hr;exact .fn _ _ ‹_›)
theorem Ziy(m:Mem cx h ep g w){ids:List Nat}{objs:List AO}:∀ {cs ds:List AV},lendL h ep cs=some ds->(∀ i∈cs.flatMap AV.id?,i ∉ ids)->(NoArr h ids\/cs.any AV.snaps1=false) ->
  ds.length=cs.length/\∀ (i:Nat) (c d:AV),cs[i]?=some c->ds[i]?=some d->Seen cx h ep g w ids objs c d
 | [],ds,hl,_,_=>by
  simp only[lendL,Xb]at hl
  subst hl
  exact⟨rfl,fun i c d hc=>by simp at hc⟩
 | c::cs,ds,hl,hids,hsn=>by
  simp only[lendL]at hl
  cases h1:lend1 h ep c with
  | none=>rw[h1]at hl;cases hl
  | some d =>
   rw[h1]at hl
   cases h2:lendL h ep cs with
   | none=>rw[h2]at hl;cases hl
   | some ds' =>
    rw[h2]at hl
    simp only[Xb]at hl
    subst hl
    have hsn1:NoArr h ids\/c.snaps1=false:=hsn.imp id fun h=>by simp[Xbc]at h;exact h.1
    have hsn2:NoArr h ids\/cs.any AV.snaps1=false:=hsn.imp id fun h=>by simp only[Xbc,Xa4]at h;exact h.2
    obtain⟨h3,h4⟩:=Ziy m h2 (fun i hi=>hids i (by rw[Xai];exact Xg.2 (.inr hi))) hsn2
    refine⟨by simp[h3],fun i c' d' hc hd=>?_⟩
    cases i with
    | zero =>
     simp only[Xm,Xb]at hc hd
     subst hc;subst hd
     exact Zix m h1 (fun i hi=>hids i (by rw[Xai];exact Xg.2 (.inl hi))) hsn1
    | succ i=>exact h4 i c' d' (by simpa using hc) (by simpa using hd)
theorem Zn9(m:Mem cx h ep g w){ids:List Nat}{objs:List AO}{v d:AV}(hl:lendV h ep v=some d)(hids:∀ i∈v.ids,i ∉ ids)(hsn:NoArr h ids\/v.snaps=false):Seen cx h ep g w ids objs v d:=by
 by_cases hv:∃ cs,v=.agg cs
 ·obtain⟨cs,rfl⟩:=hv
  simp only[lendV]at hl
  cases h2:lendL h ep cs with
  | none=>rw[h2]at hl;cases hl
  | some ds =>
   rw[h2]at hl
   simp only[Xb]at hl
   subst hl
   obtain⟨h3,h4⟩:=Ziy (objs:=objs) m h2 hids hsn
   intro u hr
   cases hr with
   | agg us _ hl' h1 hc =>
    refine .agg us _ (by omega) h1 (fun i u d hu hd=>?_)
    have hi:=(Xa.1 hd).1
    have hci:cs[i]?=some (cs[i]'(by omega)):=Xd (by omega)
    exact h4 i _ d hci hd u (hc i u _ hu hci)
 ·have e1:lendV h ep v=lend1 h ep v:=by cases v<;>first|rfl|exact absurd ⟨_,rfl⟩ hv
  have e2:v.ids=v.id?:=by cases v<;>first|rfl|exact absurd ⟨_,rfl⟩ hv
  have e3:v.snaps=v.snaps1:=by cases v<;>first|rfl|exact absurd ⟨_,rfl⟩ hv
  rw[e1]at hl
  rw[e2]at hids
  rw[e3]at hsn
  exact Zix m hl hids hsn
/-! ### What is given away -/
def SubAt(ids:List Nat)(n:Nat)(is:List Nat):Prop:=∀ (j i:Nat),is[j]?=some i->ids[n+j]?=some i
theorem SubAt.left{ids:List Nat}{n:Nat}{is js:List Nat}(h:SubAt ids n (is++js)):SubAt ids n is:=fun j i hj=>h j i (by rw[Xay (Xa.1 hj).1];exact hj)
theorem SubAt.right{ids:List Nat}{n:Nat}{is js:List Nat}(h:SubAt ids n (is++js)):SubAt ids (n+is.length) js:=fun j i hj=>by
 have:=h (is.length+j) i (by rw[Xar (by omega),Nat.add_sub_cancel_left];exact hj)
 rwa [<- Xb0]at this
def GObj(h:Nat->Option AO)(seen:AV->AV->Prop)(i:Nat)(o':AO):Prop :=
 (∃ sz xs,o'=.arr sz xs/\h i=some (.arr sz xs))\/∃ cs ds,o'=.box ds/\h i=some (.box cs)/\ds.length=cs.length/\∀ (j:Nat) (c d:AV),cs[j]?=some c->ds[j]?=some d->seen c d
theorem Zrh{ids:List Nat}{objs:List AO}{n i:Nat}(hn:ids[n]?=some i){o:AO}(ho:h i=some o):Seen cx h ep g w ids objs (.ref i) (.ref n):=by
 intro u hr
 cases hr with
 | ref _ _ h1 hu hv =>
  have hlt:=(Xa.1 hn).1
  refine .ref _ _ h1 hlt (fun _ _=>?_)
  rw[hv o ho]
  simp[calleeGh,List.getD,hn]
theorem Zit{ids:List Nat}{objs:List AO}{n:Nat}{v d:AV}{is:List Nat}{os:List AO}(hg:give1 h n v=some (d,is,os))(hsub:SubAt ids n is) :
  is.length=os.length/\(∀ (k i:Nat) (o':AO),is[k]?=some i->os[k]?=some o'->∃ sz xs,o'=.arr sz xs/\h i=some (.arr sz xs))/\Seen cx h ep g w ids objs v d:=by
 cases v<;>simp only[give1,reduceCtorEq,Xb,Xk]at hg
 ·obtain⟨rfl,rfl,rfl⟩:=hg
  exact⟨rfl,fun k i o' hk=>by simp at hk,fun u hr=>by cases hr;exact .bool _⟩
 ·obtain⟨rfl,rfl,rfl⟩:=hg
  exact⟨rfl,fun k i o' hk=>by simp at hk,fun u hr=>by cases hr;exact .int _ _⟩
 ·obtain⟨rfl,rfl,rfl⟩:=hg
  exact⟨rfl,fun k i o' hk=>by simp at hk,fun u hr=>by cases hr;exact .str _⟩
 ·rename_i md sz xs
  cases md with
  | own=>cases xs with
   | nil =>
    simp only[Xb,Xk]at hg
    obtain⟨rfl,rfl,rfl⟩:=hg
    refine⟨rfl,fun k i o' hk=>by simp at hk,fun u hr=>?_⟩
    cases hr with
    | nil=>exact .nil _
    | sl _ _ _ _ _ _ _ hown=>exact absurd rfl hown
   | cons _ _=>simp at hg
  | imm =>
   have hb:d=.sl .imm sz xs/\is=[]/\os=[]:=by cases xs<;>simp_all
   obtain⟨rfl,rfl,rfl⟩:=hb
   refine⟨rfl,fun k i o' hk=>by simp at hk,fun u hr=>?_⟩
   cases hr with
   | sl _ _ _ _ h1 hm _ _=>exact .sl _ _ _ _ h1 (fun _=>hm rfl) (fun e he=>by cases he) (by simp)
  | bor=>cases xs<;>simp at hg
  | snap e=>cases xs<;>simp at hg
 ·rename_i id
  cases hh:h id with
  | none=>rw[hh]at hg;cases hg
  | some ob =>
   rw[hh]at hg
   cases ob<;>simp only[reduceCtorEq,Xb,Xk]at hg
   obtain⟨rfl,rfl,rfl⟩:=hg
   refine⟨rfl,fun k i o' hk ho=>?_,Zrh (by simpa using hsub 0 id rfl) hh⟩
   cases k with
   | zero=>simp at hk ho;subst hk;subst ho;exact⟨_,_,rfl,hh⟩
   | succ k=>simp at hk
theorem Zfh{ids:List Nat}{objs:List AO}:∀ {n:Nat} {cs ds:List AV} {is:List Nat} {os:List AO},giveL h n cs=some (ds,is,os)->SubAt ids n is ->
  is.length=os.length/\ds.length=cs.length/\(∀ (k i:Nat) (o':AO),is[k]?=some i->os[k]?=some o'->∃ sz xs,o'=.arr sz xs/\h i=some (.arr sz xs)) /\
   ∀ (j:Nat) (c d:AV),cs[j]?=some c->ds[j]?=some d->Seen cx h ep g w ids objs c d
 | n,[],ds,is,os,hg,_=>by
  simp only[giveL,Xb,Xk]at hg
  obtain⟨rfl,rfl,rfl⟩:=hg
  exact⟨rfl,rfl,fun k i o' hk=>by simp at hk,fun j c d hc=>by simp at hc⟩
 | n,c::cs,ds,is,os,hg,hsub=>by
  simp only[giveL]at hg
  cases h1:give1 h n c with
  | none=>rw[h1]at hg;cases hg
  | some p =>
   obtain⟨d,i1,o1⟩:=p
   rw[h1]at hg
   simp only at hg
   cases h2:giveL h (n+i1.length) cs with
   | none=>rw[h2]at hg;cases hg
   | some q =>
    obtain⟨ds',i2,o2⟩:=q
    rw[h2]at hg
    simp only[Xb,Xk]at hg
    obtain⟨rfl,rfl,rfl⟩:=hg
    obtain⟨l1,a1,s1⟩:=Zit (cx:=cx) (ep:=ep) (g:=g) (w:=w) (objs:=objs) h1 hsub.left
    obtain⟨l2,l3,a2,s2⟩:=Zfh (objs:=objs) h2 hsub.right
    refine⟨by simp[l1,l2],by simp[l3],fun k i o' hk ho=>?_,fun j c' d' hc hd=>?_⟩
    ·by_cases hlt:k<i1.length
     ·rw[Xay hlt]at hk
      rw[Xay (by omega)]at ho
      exact a1 k i o' hk ho
     ·rw[Xar (by omega)]at hk ho
      rw[<- l1]at ho
      exact a2 _ i o' hk ho
    ·cases j with
     | zero =>
      simp only[Xm,Xb]at hc hd
      subst hc;subst hd
      exact s1
     | succ j=>exact s2 j c' d' (by simpa using hc) (by simpa using hd)
theorem Zn6{ids:List Nat}{objs:List AO}{n:Nat}{v d:AV}{is:List Nat}{os:List AO}(hg:giveV h n v=some (d,is,os))(hsub:SubAt ids n is)(hobjs:∀ (k:Nat) (o':AO),os[k]?=some o'->objs[n+k]?=some o') :
  is.length=os.length/\(∀ (k i:Nat) (o':AO),is[k]?=some i->os[k]?=some o'->GObj h (Seen cx h ep g w ids objs) i o')/\Seen cx h ep g w ids objs v d:=by
 by_cases hv:∃ cs,v=.agg cs
 ·obtain⟨cs,rfl⟩:=hv
  simp only[giveV]at hg
  cases h2:giveL h n cs with
  | none=>rw[h2]at hg;cases hg
  | some q =>
   obtain⟨ds,i2,o2⟩:=q
   rw[h2]at hg
   simp only[Xb,Xk]at hg
   obtain⟨rfl,rfl,rfl⟩:=hg
   obtain⟨l2,l3,a2,s2⟩:=Zfh (cx:=cx) (ep:=ep) (g:=g) (w:=w) (objs:=objs) h2 hsub
   refine⟨l2,fun k i o' hk ho=>.inl (a2 k i o' hk ho),fun u hr=>?_⟩
   cases hr with
   | agg us _ hl' h1 hc =>
    refine .agg us _ (by omega) h1 (fun i u d hu hd=>?_)
    have hi:=(Xa.1 hd).1
    have hci:cs[i]?=some (cs[i]'(by omega)):=Xd (by omega)
    exact s2 i _ d hci hd u (hc i u _ hu hci)
 ·by_cases hp:∃ id,v=.ptr id 0 0
  ·obtain⟨id,rfl⟩:=hp
   simp only[giveV]at hg
   cases hh:h id with
   | none=>rw[hh]at hg;cases hg
   | some ob =>
    rw[hh]at hg
    cases ob<;>simp only[reduceCtorEq]at hg
    rename_i cells
    cases h2:giveL h (n+1) cells with
    | none=>rw[h2]at hg;cases hg
    | some q =>
     obtain⟨ds,i2,o2⟩:=q
     rw[h2]at hg
     simp only[Xb,Xk]at hg
     obtain⟨rfl,rfl,rfl⟩:=hg
     have hsub2:SubAt ids (n+1) i2:=fun j i hj=>by
      have:=hsub (j+1) i (by simpa using hj)
      rwa [<- Xb0,Nat.add_right_comm]at this
     obtain⟨l2,l3,a2,s2⟩:=Zfh (cx:=cx) (ep:=ep) (g:=g) (w:=w) (objs:=objs) h2 hsub2
     refine⟨by simp[l2],fun k i o' hk ho=>?_,fun u hr=>?_⟩
     ·cases k with
      | zero =>
       simp only[Xm,Xb]at hk ho
       subst hk;subst ho
       exact .inr ⟨cells,ds,rfl,hh,l3,s2⟩
      | succ k=>exact .inl (a2 k i o' (by simpa using hk) (by simpa using ho))
     ·cases hr with
      | ptr _ _ _ _ h1 hu hv' =>
       have hn:ids[n]?=some id:=by simpa using hsub 0 id rfl
       have hlt:=(Xa.1 hn).1
       refine .ptr _ _ _ _ h1 hlt (fun o ho=>?_)
       rw[Zbf,Xr (Xp _),Xcx,show objs[n]?=some (.box ds) from hobjs 0 _ rfl]at ho
       obtain rfl:=Xf ho
       obtain⟨b,h5,h6⟩:=hv' _ hh
       exact⟨b,by simpa [calleeGh,List.getD,hn] using h5,h6⟩
  ·have e1:giveV h n v=give1 h n v:=by
    cases v<;>first|rfl|exact absurd ⟨_,rfl⟩ hv|skip
    rename_i id i off
    cases i<;>cases off<;>first|rfl|exact absurd ⟨_,rfl⟩ hp
   rw[e1]at hg
   obtain⟨l1,a1,s1⟩:=Zit (cx:=cx) (ep:=ep) (g:=g) (w:=w) (objs:=objs) hg hsub
   exact⟨l1,fun k i o' hk ho=>.inl (a1 k i o' hk ho),s1⟩
theorem Zc4(m:Mem cx h ep g w){ids:List Nat}{objs:List AO}:∀ {n:Nat} {ms:List Bool} {vs:List AV} {G:Given},passArgs h ep n ms vs=some G->SubAt ids n G.ids->(∀ (k:Nat) (o':AO),G.objs[k]?=some o'->objs[n+k]?=some o') ->
  (∀ i∈G.looks,i ∉ ids)->(NoArr h ids\/G.snaps=false) ->
  G.ids.length=G.objs.length/\G.args.length=vs.length/\(∀ (k i:Nat) (o':AO),G.ids[k]?=some i->G.objs[k]?=some o'->GObj h (Seen cx h ep g w ids objs) i o') /\
   ∀ (j:Nat) (v d:AV),vs[j]?=some v->G.args[j]?=some d->Seen cx h ep g w ids objs v d
 | n,[],[],G,hp,_,_,_,_=>by
  simp only[passArgs,Xb]at hp
  subst hp
  exact⟨rfl,rfl,fun k i o' hk=>by simp at hk,fun j v d hv=>by simp at hv⟩
 | n,[],_::_,G,hp,_,_,_,_=>by simp[passArgs]at hp
 | n,b::ms,[],G,hp,_,_,_,_=>by cases b<;>simp[passArgs]at hp
 | n,true::ms,v::vs,G,hp,hsub,hobjs,hlk,hsn=>by
  simp only[passArgs]at hp
  cases h1:giveV h n v with
  | none=>rw[h1]at hp;cases hp
  | some p =>
   obtain⟨d,is,os⟩:=p
   rw[h1]at hp
   simp only at hp
   cases h2:passArgs h ep (n+is.length) ms vs with
   | none=>rw[h2]at hp;cases hp
   | some G' =>
    rw[h2]at hp
    simp only[Xb]at hp
    subst hp
    simp only at hsub hobjs hlk hsn ⊢
    obtain⟨l1,a1,s1⟩:=Zn6 (cx:=cx) (ep:=ep) (g:=g) (w:=w) (objs:=objs) h1 hsub.left (fun k o' hk=>hobjs k o' (by rw[Xay (Xa.1 hk).1];exact hk))
    obtain⟨l2,l3,a2,s2⟩:=Zc4 (objs:=objs) m h2 hsub.right (fun k o' hk=>by
     have:=hobjs (os.length+k) o' (by rw[Xar (by omega),Nat.add_sub_cancel_left];exact hk)
     rw[l1,Xb0];exact this) hlk hsn
    refine⟨by simp[l1,l2],by simp[l3],fun k i o' hk ho=>?_,fun j v' d' hv hd=>?_⟩
    ·by_cases hlt:k<is.length
     ·rw[Xay hlt]at hk
      rw[Xay (by omega)]at ho
      exact a1 k i o' hk ho
     ·rw[Xar (by omega)]at hk ho
      rw[<- l1]at ho
      exact a2 _ i o' hk ho
    ·cases j with
     | zero =>
      simp only[Xm,Xb]at hv hd
      subst hv;subst hd
      exact s1
     | succ j=>exact s2 j v' d' (by simpa using hv) (by simpa using hd)
 | n,false::ms,v::vs,G,hp,hsub,hobjs,hlk,hsn=>by
  simp only[passArgs]at hp
  cases h1:lendV h ep v with
  | none=>rw[h1]at hp;cases hp
  | some d =>
   rw[h1]at hp
   simp only at hp
   cases h2:passArgs h ep n ms vs with
   | none=>rw[h2]at hp;cases hp
   | some G' =>
    rw[h2]at hp
    simp only[Xb]at hp
    subst hp
    simp only at hsub hobjs hlk hsn ⊢
    have s1:=Zn9 (objs:=objs) m h1 (fun i hi=>hlk i (Xg.2 (.inl hi))) (hsn.imp id fun h=>by simp only[Xa4]at h;exact h.1)
    obtain⟨l2,l3,a2,s2⟩:=Zc4 (objs:=objs) m h2 hsub hobjs (fun i hi=>hlk i (Xg.2 (.inr hi))) (hsn.imp id fun h=>by simp only[Xa4]at h;exact h.2)
    refine⟨l2,by simp[l3],a2,fun j v' d' hv hd=>?_⟩
    cases j with
    | zero =>
     simp only[Xm,Xb]at hv hd
     subst hv;subst hd
     exact s1
    | succ j=>exact s2 j v' d' (by simpa using hv) (by simpa using hd)
theorem Zg4{n:Nat}{v d:AV}{is:List Nat}{os:List AO}(hg:give1 h n v=some (d,is,os))(ha:os.any AO.isArr=false):NoArr h is:=by
 cases v<;>simp only[give1,reduceCtorEq,Xb,Xk]at hg
 case ref id =>
  cases hh:h id with
  | none=>rw[hh]at hg;cases hg
  | some ob =>
   rw[hh]at hg
   cases ob<;>simp only[reduceCtorEq,Xb,Xk]at hg
   obtain⟨_,_,rfl⟩:=hg
   cases ha
 case sl m sz xs =>
  cases m<;>cases xs<;>simp only[reduceCtorEq,Xb,Xk]at hg<;>(obtain⟨_,rfl,_⟩:=hg;exact fun i hi=>by cases hi)
 all_goals (obtain⟨_,rfl,_⟩:=hg;exact fun i hi=>by cases hi)
theorem Zd5:∀ {n:Nat} {cs ds:List AV} {is:List Nat} {os:List AO},giveL h n cs=some (ds,is,os)->os.any AO.isArr=false->NoArr h is
 | n,[],ds,is,os,hg,_=>by
  simp only[giveL,Xb,Xk]at hg
  obtain⟨_,rfl,_⟩:=hg
  exact fun i hi=>by cases hi
 | n,c::cs,ds,is,os,hg,ha=>by
  simp only[giveL]at hg
  cases h1:give1 h n c with
  | none=>rw[h1]at hg;cases hg
  | some p =>
   obtain⟨d,i1,o1⟩:=p
   rw[h1]at hg
   simp only at hg
   cases h2:giveL h (n+i1.length) cs with
   | none=>rw[h2]at hg;cases hg
   | some q =>
    obtain⟨d2,i2,o2⟩:=q
    rw[h2]at hg
    simp only[Xb,Xk]at hg
    obtain⟨_,rfl,rfl⟩:=hg
    simp only[List.any_append,Xa4]at ha
    intro i hi
    rcases Xg.1 hi with hi|hi
    ·exact Zg4 h1 ha.1 i hi
    ·exact Zd5 h2 ha.2 i hi
theorem Zlz{n:Nat}{v d:AV}{is:List Nat}{os:List AO}(hg:giveV h n v=some (d,is,os))(ha:os.any AO.isArr=false):NoArr h is:=by
 unfold giveV at hg
 split at hg
 ·split at hg
  ·rename_i e
   simp only[Xb,Xk]at hg
   obtain⟨_,rfl,rfl⟩:=hg
   exact Zd5 e ha
  ·cases hg
 ·split at hg
  ·rename_i e0
   split at hg
   ·rename_i e
    simp only[Xb,Xk]at hg
    obtain⟨_,rfl,rfl⟩:=hg
    simp only[Xbc,Xa4]at ha
    intro i hi
    rcases Xl.1 hi with rfl|hi
    ·intro o ho;rw[e0]at ho;obtain rfl:=Xf ho;rfl
    ·exact Zd5 e ha.2 i hi
   ·cases hg
  ·cases hg
 ·exact Zg4 hg ha
theorem Zcb:∀ {n:Nat} {ms:List Bool} {vs:List AV} {G:Given},passArgs h ep n ms vs=some G->G.objs.any AO.isArr=false->NoArr h G.ids
 | n,[],[],G,hp,_=>by
  simp only[passArgs,Xb]at hp
  subst hp
  exact fun i hi=>by cases hi
 | n,[],_::_,G,hp,_=>by simp[passArgs]at hp
 | n,b::ms,[],G,hp,_=>by cases b<;>simp[passArgs]at hp
 | n,b::ms,v::vs,G,hp,ha=>by
  cases b<;>simp only[passArgs]at hp<;>split at hp<;>try (cases hp;done)
  ·split at hp<;>simp only[reduceCtorEq,Xb]at hp
   rename_i e2
   subst hp
   have:=Zcb e2 ha
   exact this
  ·split at hp<;>simp only[reduceCtorEq,Xb]at hp
   rename_i e1 _ _ e2
   subst hp
   simp only[List.any_append,Xa4]at ha
   intro i hi
   rcases Xg.1 hi with hi|hi
   ·exact Zlz e1 ha.1 i hi
   ·exact Zcb e2 ha.2 i hi
theorem Znj(m:Mem cx h ep g w){ids:List Nat}{objs:List AO}(hlen:ids.length=objs.length)(hnd:ids.Nodup)(hobj:∀ (k i:Nat) (o':AO),ids[k]?=some i->objs[k]?=some o'->GObj h (Seen cx h ep g w ids objs) i o') :
  Mem (calleeCx cx h g w ids objs) (startHeap objs 0) 0 (calleeGh h g ids) w:=by
 have hget:∀ k o',startHeap objs 0 k=some o'->∃ i o,k<ids.length/\ids[k]?=some i/\ids.getD k 0=i/\i∈ids/\objs[k]?=some o'/\h i=some o/\GObj h (Seen cx h ep g w ids objs) i o':=by
  intro k o' hk
  rw[Zbf,Xr (Xp _),Xcx]at hk
  have hlt:=(Xa.1 hk).1
  have hi:ids[k]?=some (ids[k]'(by omega)):=Xd (by omega)
  have hg:=hobj k _ o' hi hk
  refine⟨ids[k]'(by omega),?_⟩
  have hmem:ids[k]'(by omega)∈ids:=Xbx _
  have hgd:ids.getD k 0=ids[k]'(by omega):=by simp[List.getD,hi]
  rcases hg with ⟨sz,xs,h1,h2⟩|⟨cs,ds,h1,h2,h3⟩
  ·exact⟨_,by omega,hi,hgd,hmem,hk,h2,.inl ⟨sz,xs,h1,h2⟩⟩
  ·exact⟨_,by omega,hi,hgd,hmem,hk,h2,.inr ⟨cs,ds,h1,h2,h3⟩⟩
 refine⟨?_,?_,?_,?_,m.I_lt,fun b hb=>hb,fun b hb=>.inl hb,fun b hb=>.inl hb,fun b hb=>hb,fun b hb=>.inl hb,fun k hk=>hk,fun k o' _ ho=>⟨o',ho,AO.alike_refl _,rfl⟩,?_,?_,?_,FrameW.refl _ _,fun p hp=>⟨⟨(m.fz_now hp).1,fun ⟨id,o,_,h2,h3⟩=>(m.fz_now hp).2.2 id o h2 h3⟩,(m.fz_now hp).2.1⟩,m.srt⟩
 ·intro k o' hk
  obtain⟨i,o,hlt,hi,hgd,hmem,hko,hio,hg⟩:=hget k o' hk
  simp only[calleeGh,hgd]
  rcases hg with ⟨sz,xs,rfl,h2⟩|⟨cs,ds,rfl,h2,h3,h4⟩
  ·obtain⟨h5,h6⟩:=m.objs i _ h2
   exact⟨h5,fun x hx=>.inr ⟨i,sz,xs,hmem,h2,hx⟩⟩
  ·obtain⟨b,cur,e,h5,h6,h7,h8,h9,h10⟩:=m.objs i _ h2
   refine⟨b,cur,e,h5,h6,by omega,h8,?_,fun j u d hu hd=>?_⟩
   ·rintro (hI|⟨i',sz,xs,h11,h12,h13⟩)
    ·exact h9 (m.I_N b hI)
    ·exact h9 ((m.objs i' _ h12).2 b h13)
   ·have hj:=(Xa.1 hd).1
    have hcj:cs[j]?=some (cs[j]'(by omega)):=Xd (by omega)
    obtain⟨h11,h12⟩:=h10 j u _ hu hcj
    exact⟨h11,h4 j _ d hcj hd u h12⟩
 ·intro k o' hk
  obtain⟨i,o,hlt,_⟩:=hget k o' hk
  exact hlt
 ·intro k k' o1 o2 b hk hk' hf hf'
  obtain⟨i,o,hlt,hi,hgd,_,_,hio,_⟩:=hget k o1 hk
  obtain⟨i',o',hlt',hi',hgd',_,_,hio',_⟩:=hget k' o2 hk'
  simp only[calleeGh,hgd,hgd']at hf hf'
  have:=m.disj i i' o o' b hio hio' hf hf'
  subst this
  have e1:=(Xa.1 hi).2
  have e2:=(Xa.1 hi').2
  have hpw:=Xbs.1 hnd
  rcases Xcj k k' with h1|h1|h1
  ·exact absurd (e1.trans e2.symm) (hpw k k' _ _ h1)
  ·exact h1
  ·exact absurd (e2.trans e1.symm) (hpw k' k _ _ h1)
 ·intro k o' b hk hf
  obtain⟨i,o,hlt,hi,hgd,hmem,_,hio,_⟩:=hget k o' hk
  simp only[calleeGh,hgd]at hf
  exact⟨.inl ⟨i,o,hmem,hio,hf⟩,(m.mine i o b hio hf).2⟩
 ·rintro b (hI|⟨i,sz,xs,_,h2,h3⟩)
  ·exact m.I_lt b hI
  ·exact (m.objs i _ h2).lt b h3
 ·exact fun b hb=>hb
 ·exact fun b hb=>⟨m.I_lt b hb,fun ⟨id,o,_,h2,h3⟩=>(m.mine id o b h2 h3).2 hb⟩
end
end Go.Proofs.YtgdfelbedghhnaaGreatDoor
namespace Go.Proofs.YtgdfelbedghhnaaGreatDoor
open Go Go.RowKit
set_option linter.unusedSimpArgs false
structure Post(cx:Cx)(w':World)(v:Value)(r:AV)(outs:List (Option AO))(I N S:Nat->Prop)(fo:Nat->Nat->Prop):Prop where
 frame:FrameW cx.w0 w' cx.M
 len:outs.length=cx.base
 I_up:∀ b,cx.I0 b->I b
 I_new:∀ b,I b->cx.I0 b\/(cx.M b\/cx.w0.heap.size<=b)
 I_N:∀ b,I b->N b
 N_up:∀ b,cx.N0 b->N b
 N_new:∀ b,N b->cx.N0 b\/cx.w0.heap.size<=b
 N_lt:∀ b,N b->b<w'.heap.size
 res:ResRel w' I N v r S
 out:∀ k o,outs[k]?=some (some o)->Shut w' I N (cx.v0 k) o.av (fo k)/\∃ o0,cx.h0 k=some o0/\o0.alike o
 mineS:∀ x,S x->(cx.M x\/cx.w0.heap.size<=x)/\¬ I x
 mineO:∀ k x,k<cx.base->fo k x->(cx.M x\/cx.w0.heap.size<=x)/\¬ I x
 disS:∀ k x,k<cx.base->S x->¬ fo k x
 disO:∀ k l x,k<cx.base->l<cx.base->fo k x->fo l x->k=l
def Contract(P:Program)(num:Nat->Option FuncId)(fz:List (Nat×Obj))(f:FuncId)(args:List AV)(objs:List AO)(r:AV)(outs:List (Option AO)):Prop :=
 ∀ (cx:Cx) (g:Gh) (w:World) (vs:Array Value),cx.P=P->cx.num=num->cx.fz=fz->cx.w0=w->cx.base=objs.length->cx.h0=startHeap objs 0->cx.v0=g.v->(∀ id,g.used id->id<objs.length)->Mem cx (startHeap objs 0) 0 g w ->
  vs.size=args.length->(∀ (i:Nat) (v:Value) (c:AV),vs[i]?=some v->args[i]?=some c->SRel num w cx.R g (startHeap objs 0) 0 v c) ->
  Callable P f vs w fun v w'=>∃ I N S fo,Post cx w' v r outs I N S fo
def Goes(cx:Cx)(s:St)(g:Gh)(a:Act)(w:World)(o:Oper)(key:Nat)(out:Out):Prop :=
 ∀ (next:Act->World->Prop) (Q:Exit->Act->World->Prop),
  (∀ v w' g',Keeps w cx.R g s.heap s.ep w' g' (wsOn s.heap out.ws) (if out.bump then s.ep+1 else s.ep)->Mem cx (wsOn s.heap out.ws) (if out.bump then s.ep+1 else s.ep) g' w' ->
   SRel cx.num w' cx.R g' (wsOn s.heap out.ws) (if out.bump then s.ep+1 else s.ep) v out.v->(∀ id,g'.used id->g.used id\/(key<=id/\id<key+64))->next (a.put o.dst v) w') ->
  o.wp cx.P a w next Q
theorem Zfe(g:Nat->AV):∀ ys:List Opd,(evL g ys).length=ys.length
 | []=>rfl
 | y::ys=>by simp[evL,Zfe g ys]
section
variable {cx:Cx} {s:St} {g:Gh} {a:Act} {w:World} {o:Oper} {key:Nat} {out:Out} {cl:Callee}
theorem Done.goes(h:Done cx s g a w o key out):Goes cx s g a w o key out:=by
 obtain⟨n,v,w',g',hrun,hn,h1,h2,h3,h4⟩:=h
 intro next Q hnext
 unfold Oper.wp
 rw[hrun]
 rcases hn with rfl|⟨rfl,rfl⟩
 ·exact hnext v w' g' h1 h2 h3 h4
 ·exact hnext undef w' g' h1 h2 h3 h4
/-! ### Writing a list of objects -/
theorem Zc8(h:Nat->Option AO):∀ (a b:List (Nat×Option AO)),wsOn h (a++b)=wsOn (wsOn h a) b
 | [],b=>rfl
 | (i,o)::a,b=>by simp only[Xa1,wsOn];exact Zc8 _ a b
theorem Ze1:∀ (ws:List (Nat×Option AO)) (h:Nat->Option AO) (n:Nat),(∀ p∈ws,p.1≠n)->wsOn h ws n=h n
 | [],h,n,_=>rfl
 | (i,o)::ws,h,n,hn=>by
  simp only[wsOn]
  rw[Ze1 ws _ n (fun p hp=>hn p (Xh _ hp))]
  have:i≠n:=hn (i,o) Xi
  simp[upd,Ne.symm this]
theorem Zms:∀ (ws:List (Nat×Option AO)) (h:Nat->Option AO),(ws.map (·.1)).Nodup->∀ p∈ws,wsOn h ws p.1=p.2
 | [],h,_,p,hp=>by simp at hp
 | (i,o)::ws,h,hn,p,hp=>by
  simp only[Xx,List.nodup_cons]at hn
  rcases Xl.1 hp with rfl|hp
  ·simp only[wsOn]
   rw[Ze1]
   ·simp[upd]
   ·intro q hq e
    exact hn.1 (Xap.2 ⟨q,hq,e⟩)
  ·simp only[wsOn]
   exact Zms ws _ hn.2 p hp
theorem Zhm{l:List Nat}(h:l.Nodup){i j x:Nat}(hi:l[i]?=some x)(hj:l[j]?=some x):i=j:=by
 have e1:=(Xa.1 hi).2
 have e2:=(Xa.1 hj).2
 have hpw:=Xbs.1 h
 rcases Xcj i j with h1|h1|h1
 ·exact absurd (e1.trans e2.symm) (hpw i j _ _ h1)
 ·exact h1
 ·exact absurd (e2.trans e1.symm) (hpw j i _ _ h1)
theorem Seg.nodup{I N:Nat->Prop}{gv:Nat->Value}{gf:Nat->Nat->Prop}{k:Nat}{ws:List (Nat×Option AO)}{F:Nat->Prop}(h:Seg w I N gv gf k ws F):(ws.map (·.1)).Nodup:=by
 refine Xbs.2 (fun i j hi hj hlt e=>?_)
 simp only[Xb1]at hi hj
 simp only[List.getElem_map]at e
 have h1:=h.nums i ws[i] (Xd hi)
 have h2:=h.nums j ws[j] (Xd hj)
 omega
theorem Zpj(m:Mem cx s.heap s.ep g w)(hkey:∀ id,g.used id->¬ (key<=id/\id<key+64)){ids:List Nat}{objs:List AO}(hnd:ids.Nodup)(hlen:ids.length=objs.length)
  (hobj:∀ (k i:Nat) (o':AO),ids[k]?=some i->objs[k]?=some o'->GObj s.heap (Seen cx s.heap s.ep g w ids objs) i o') {w':World} {v:Value} {r:AV} {outs:List (Option AO)} {I N S:Nat->Prop} {fo:Nat->Nat->Prop}
  (p:Post (calleeCx cx s.heap g w ids objs) w' v r outs I N S fo) (hcnt:(openR key r).2.length+(takeBack (key+(openR key r).2.length) ids outs).2.length<=64)
  (hout:out=⟨(openR key r).1,(takeBack (key+(openR key r).2.length) ids outs).1++((openR key r).2++(takeBack (key+(openR key r).2.length) ids outs).2),objs.any AO.isArr⟩) :
  ∃ g',Keeps w cx.R g s.heap s.ep w' g' (wsOn s.heap out.ws) (if out.bump then s.ep+1 else s.ep)/\Mem cx (wsOn s.heap out.ws) (if out.bump then s.ep+1 else s.ep) g' w' /\
   SRel cx.num w' cx.R g' (wsOn s.heap out.ws) (if out.bump then s.ep+1 else s.ep) v out.v/\∀ id,g'.used id->g.used id\/(key<=id/\id<key+64):=by
 subst hout
 have hlo:ids.length=outs.length:=p.len.symm
 obtain⟨gv1,gf1,av1,af1,sg1,rv⟩:=Zpu p.res g.v g.fp key
 obtain⟨gv2,gf2,hf,av2,af2,sg2,hd,ap⟩:=Zdh hlo (fun k o h=>(p.out k o h).1) (fun k l x hk hl'=>p.disO k l x hk hl') gv1 gf1 (key+(openR key r).2.length)
 generalize hrw:(openR key r).2=rws at *
 generalize hrv:(openR key r).1=rv0 at *
 generalize hb1:(takeBack (key+rws.length) ids outs).1=heads at *
 generalize hb2:(takeBack (key+rws.length) ids outs).2=news at *
 have sg:=sg1.append sg2 av2 af2 (fun x hx ⟨k,hk,hx2⟩=>p.disS k x hk hx hx2)
 have av:Agree g.v gv2 key (rws++news).length:=by rw[Xs];exact av1.append av2
 have hall:(rws++news).length<=64:=by rw[Xs];exact hcnt
 have hidlt:∀ i∈ids,(∃ o,s.heap i=some o)/\¬ (key<=i/\i<key+64):=by
  intro i hi
  obtain⟨k,hk⟩:=Xak hi
  have hk1:=(Xa.1 hk).1
  have:=hobj k i _ hk (Xd (by omega))
  have hex:∃ o,s.heap i=some o:=by
   rcases this with ⟨sz,xs,_,h2⟩|⟨cs,ds,_,h2,_⟩
   ·exact⟨_,h2⟩
   ·exact⟨_,h2⟩
  obtain⟨o,ho⟩:=hex
  exact⟨⟨o,ho⟩,hkey i (m.used i o ho)⟩
 have hheadmem:∀ q∈heads,q.1∈ids:=by
  intro q hq
  obtain⟨k,hk⟩:=Xak hq
  exact Xe (hd.num k q hk)
 have hheadnd:(heads.map (·.1)).Nodup:=by
  have he:heads.map (·.1)=ids:=by
   apply List.ext_getElem?
   intro k
   rw[Xam]
   cases hk:heads[k]? with
   | none =>
    have:=Xbr.1 hk
    rw[hd.size]at this
    rw[Xbr.2 this];rfl
   | some q=>rw[hd.num k q hk];rfl
  rw[he];exact hnd
 have hnewr:∀ q∈rws++news,key<=q.1/\q.1<key+(rws++news).length:=sg.range
 -- the heap behind the call
 let h':=wsOn s.heap (heads++(rws++news))
 have hnew:∀ q∈rws++news,h' q.1=q.2:=fun q hq=>by
  show wsOn s.heap (heads++(rws++news)) q.1=q.2
  rw[Zc8];exact Zms _ _ sg.nodup q hq
 have hhead:∀ q∈heads,h' q.1=q.2:=fun q hq=>by
  show wsOn s.heap (heads++(rws++news)) q.1=q.2
  rw[Zc8,Ze1 _ _ _ (fun n hn e=>?_)]
  ·exact Zms _ _ hheadnd q hq
  ·have h1:=hnewr n hn
   have h2:=(hidlt q.1 (hheadmem q hq)).2
   omega
 have hrest:∀ n,n ∉ ids->¬ (key<=n/\n<key+(rws++news).length)->h' n=s.heap n:=fun n h1 h2=>by
  show wsOn s.heap (heads++(rws++news)) n=s.heap n
  have e1:∀ q∈rws++news,q.1≠n:=fun q hq e=>h2 (by rw[<- e];exact hnewr q hq)
  have e2:∀ q∈heads,q.1≠n:=fun q hq e=>h1 (by rw[<- e];exact hheadmem q hq)
  rw[Zc8,Ze1 _ _ _ e1,Ze1 _ _ _ e2]
 have hnumnew:∀ n,key<=n->n<key+(rws++news).length->∃ q∈rws++news,q.1=n:=fun n h1 h2=>by
  have hj:(rws++news)[n-key]?=some ((rws++news)[n-key]'(by omega)):=Xd (by omega)
  exact⟨_,Xe hj,by have:=sg.nums _ _ hj;omega⟩
 have hidk:∀ i∈ids,∃ (k:Nat) (q:Nat×Option AO),ids[k]?=some i/\heads[k]?=some q/\q.1=i:=fun i hi=>by
  obtain⟨k,hk⟩:=Xak hi
  have hk1:=(Xa.1 hk).1
  have hq:heads[k]?=some (heads[k]'(by rw[hd.size];exact hk1)):=Xd _
  have:=hd.num k _ hq
  rw[hk]at this
  exact⟨k,_,hk,hq,(Xf this).symm⟩
 let inNew:Nat->Prop:=fun n=>key<=n/\n<key+(rws++news).length
 -- who lives behind the call
 have hlive:∀ n o1,(n∈ids\/inNew n)->h' n=some o1->(inNew n/\n ∉ ids/\OObj w' I N gv2 key (key+(rws++news).length) (gv2 n) (gf2 n) o1/\∃ q∈rws++news,q.1=n/\q.2=some o1) \/
   (¬ inNew n/\∃ k o0,ids[k]?=some n/\outs[k]?=some (some o0)/\o0.alike o1/\OObj w' I N gv2 key (key+(rws++news).length) (g.v n) (hf k) o1):=by
  intro n o1 hn ho
  by_cases hin:inNew n
  ·obtain⟨q,hq,hqn⟩:=hnumnew n hin.1 hin.2
   subst hqn
   rw[hnew q hq]at ho
   obtain⟨o2,h1,h2⟩:=sg.obj q hq
   rw[h1]at ho
   obtain rfl:=Xf ho
   refine .inl ⟨hin,fun hi=>?_,h2,q,hq,rfl,h1⟩
   have h3:=hin
   have h4:=(hidlt _ hi).2
   exact h4 ⟨h3.1,by have:=h3.2;omega⟩
  ·have hi:=hn.resolve_right hin
   obtain⟨k,q,hk,hq,hqn⟩:=hidk n hi
   subst hqn
   rw[hhead q (Xe hq)]at ho
   obtain⟨o0,h1,h2,h3⟩:=hd.obj k q o1 hq ho
   refine .inr ⟨hin,k,o0,hk,h1,h2,?_⟩
   have hgd:ids.getD k 0=q.1:=by simp[List.getD,hk]
   have h4:OObj w' I N gv2 (key+rws.length) (key+rws.length+news.length) (g.v q.1) (hf k) o1:=by
    have:=h3
    simp only[calleeCx,hgd]at this
    exact this
   exact h4.mono (fun _ _ _=>rfl) (by omega) (by rw[Xs];omega)
 let fp':Nat->Nat->Prop:=fun n x=>(inNew n/\gf2 n x)\/(¬ inNew n/\∃ k,ids[k]?=some n/\hf k x)\/(¬ inNew n/\n ∉ ids/\g.fp n x)
 let g':Gh:=⟨gv2,fp',I,fun b=>g.N b\/N b,fun n=>g.used n\/inNew n⟩
 have hgv:∀ n,¬ inNew n->gv2 n=g.v n:=fun n hn=>av n (by
  by_cases h:n<key
  ·exact .inl h
  ·exact .inr (by by_cases h2:key+(rws++news).length<=n;exact h2;exact absurd ⟨by omega,by omega⟩ hn))
 have hfpnew:∀ n,inNew n->fp' n=gf2 n:=fun n hn=>funext fun x=>propext (by simp[fp',hn])
 have hfphead:∀ n k,¬ inNew n->ids[k]?=some n->fp' n=hf k:=fun n k hn hk=>funext fun x=>propext (by
  have hmem:n∈ids:=Xe hk
  simp only[fp',hn,hmem,false_and,not_true,not_false_eq_true,true_and,and_false,Xcb,false_or]
  constructor
  ·rintro⟨k',hk',hx⟩
   rw[Zhm hnd hk hk'];exact hx
  ·exact fun hx=>⟨k,hk,hx⟩)
 have hfprest:∀ n,¬ inNew n->n ∉ ids->fp' n=g.fp n:=fun n hn hi=>funext fun x=>propext (by
  simp only[fp',hn,hi,false_and,not_false_eq_true,true_and,false_or]
  constructor
  ·rintro (⟨k,hk,_⟩|h)
   ·exact absurd (Xe hk) hi
   ·exact h
  ·exact fun h=>.inr h)
 have hfoM:∀ k x,k<ids.length->fo k x->(GivenB s.heap g ids x\/w.heap.size<=x)/\¬ I x:=fun k x hk hx=>p.mineO k x hk hx
 have hgf2:∀ n,inNew n->∀ x,gf2 n x->(GivenB s.heap g ids x\/w.heap.size<=x)/\¬ I x:=fun n hn x hx=>by
  obtain⟨q,hq,rfl⟩:=hnumnew n hn.1 hn.2
  rcases sg.inF q hq x hx with h1|⟨k,hk,h1⟩
  ·exact p.mineS x h1
  ·exact hfoM k x hk h1
 have hGOf:∀ x,GivenB s.heap g ids x->Of (fun n=>n∈ids\/inNew n) s.heap g x:=fun x ⟨id,o,h1,h2,h3⟩=>⟨id,o,.inl h1,h2,h3⟩
 have t:Touch cx (fun n=>n∈ids\/inNew n) s.heap s.ep g w h' (if objs.any AO.isArr then s.ep+1 else s.ep) g' w':=by
  refine⟨p.frame.os,p.frame.tape,p.frame.output,p.frame.size,by split<;>omega,?_,?_,fun _ h=>.inl h,?_,?_,?_,?_,p.I_up,?_,fun b hb=>.inr (p.I_N b hb),fun _ h=>.inl h,?_,?_⟩
  ·intro n hT
   have h1:n ∉ ids:=fun e=>hT (.inl e)
   have h2:¬ inNew n:=fun e=>hT (.inr e)
   exact⟨hrest n h1 h2,fun _=>⟨hgv n h2,hfprest n h2 h1⟩⟩
  ·intro b hb hO
   exact p.frame.block b hb (fun hG=>hO (hGOf b hG))
  ·intro n o1 hT ho
   rcases hT with hi|hi
   ·obtain⟨⟨o,ho2⟩,_⟩:=hidlt n hi
    exact .inl (m.used n o ho2)
   ·exact .inr hi
  ·intro n o1 hT hu ho
   have hlt:=hkey n hu
   rcases hlive n o1 hT ho with ⟨h1,_⟩|⟨h1,k,o0,hk,h2,h3,_⟩
   ·exact absurd ⟨h1.1,by have:=h1.2;omega⟩ hlt
   ·obtain⟨_,o00,h4,h5⟩:=p.out k o0 h2
    have h4':objs[k]?=some o00:=by
     have:startHeap objs 0 k=some o00:=h4
     rwa [Zbf,Xr (Xp _),Xcx]at this
    have hg:=hobj k n o00 hk h4'
    rcases hg with ⟨sz,xs,rfl,h6⟩|⟨cs,ds,rfl,h6,_⟩
    ·exact⟨_,h6,h5.trans h3,hgv n h1⟩
    ·refine⟨_,h6,AO.alike.trans (p:=.box ds) trivial (h5.trans h3),hgv n h1⟩
  ·intro n o1 b hT ho hf1
   rcases hlive n o1 hT ho with ⟨h1,h2,_⟩|⟨h1,k,o0,hk,_⟩
   ·have hf2:gf2 n b:=by rw[<- hfpnew n h1];exact hf1
    obtain⟨h5,h6⟩:=hgf2 n h1 b hf2
    exact⟨h5.symm.imp id (hGOf b),h6⟩
   ·have hf2:hf k b:=by rw[<- hfphead n k h1 hk];exact hf1
    have hk1:=(Xa.1 hk).1
    obtain⟨h5,h6⟩:=hfoM k b hk1 (hd.inF k hk1 b hf2)
    exact⟨h5.symm.imp id (hGOf b),h6⟩
  ·intro n n' o1 o2 b hT hT' ho ho' hf1 hf2
   have newHead:∀ n,inNew n->∀ k,k<ids.length->gf2 n b->hf k b->False:=by
    intro n hn k hk hx hx2
    obtain⟨q,hq,rfl⟩:=hnumnew n hn.1 hn.2
    rcases Xg.1 hq with hq|hq
    ·have hr:=sg1.range q hq
     rw[af2 q.1 (.inl hr.2)]at hx
     exact p.disS k b hk (sg1.inF q hq b hx) (hd.inF k hk b hx2)
    ·exact ap k hk b hx2 q hq hx
   rcases hlive n o1 hT ho with ⟨h1,_⟩|⟨h1,k,o0,hk,_⟩<;>rcases hlive n' o2 hT' ho' with ⟨h1',_⟩|⟨h1',k',o0',hk',_⟩
   ·have e1:gf2 n b:=by rw[<- hfpnew n h1];exact hf1
    have e2:gf2 n' b:=by rw[<- hfpnew n' h1'];exact hf2
    obtain⟨q,hq,rfl⟩:=hnumnew n h1.1 h1.2
    obtain⟨q',hq',rfl⟩:=hnumnew n' h1'.1 h1'.2
    exact sg.dis q hq q' hq' b e1 e2
   ·exact (newHead n h1 k' (Xa.1 hk').1 (by rw[<- hfpnew n h1];exact hf1) (by rw[<- hfphead n' k' h1' hk'];exact hf2)).elim
   ·exact (newHead n' h1' k (Xa.1 hk).1 (by rw[<- hfpnew n' h1'];exact hf2) (by rw[<- hfphead n k h1 hk];exact hf1)).elim
   ·have e1:hf k b:=by rw[<- hfphead n k h1 hk];exact hf1
    have e2:hf k' b:=by rw[<- hfphead n' k' h1' hk'];exact hf2
    have hk1:=(Xa.1 hk).1
    have hk1':=(Xa.1 hk').1
    have:=p.disO k k' b hk1 hk1' (hd.inF k hk1 b e1) (hd.inF k' hk1' b e2)
    subst this
    rw[hk]at hk'
    exact Xf hk'
  ·intro b hb
   rcases p.I_new b hb with h1|h1|h1
   ·exact .inl h1
   ·exact .inr (.inl (hGOf b h1))
   ·exact .inr (.inr ⟨h1,p.N_lt b (p.I_N b hb)⟩)
  ·rintro b (hb|hb)
   ·exact .inl hb
   ·rcases p.N_new b hb with (h1|⟨i,sz,xs,h1,h2,h3⟩)|h1
    ·exact .inl (m.I_N b h1)
    ·exact .inl ((m.objs i _ h2).2 b h3)
    ·exact .inr ⟨h1,p.N_lt b hb⟩
  ·intro he b hb
   have hno:objs.any AO.isArr=false:=by
    cases hq:objs.any AO.isArr with
    | false=>rfl
    | true=>rw[hq]at he;simp at he
   refine p.frame.block b (m.N_lt b hb) ?_
   rintro⟨i,o,h1,h2,h3⟩
   obtain⟨k,hk⟩:=Xak h1
   have hk1:=(Xa.1 hk).1
   have hkk:objs[k]?=some (objs[k]'(by omega)):=Xd (by omega)
   rcases hobj k i _ hk hkk with ⟨sz,xs,e1,_⟩|⟨cs,ds,_,h6,_⟩
   ·have:=Xbo.1 hno _ (Xe hkk)
    rw[e1]at this
    exact absurd rfl this
   ·rw[h6]at h2
    cases h2
    obtain⟨b',_,_,_,_,_,h10,h11,_⟩:=m.objs i _ h6
    rw[(h10 b).1 h3]at hb
    exact h11 hb
 have hsrel:∀ {u:Value} {c:AV},OpenRel gv2 key (key+(rws++news).length) w' I u c->u.oneCell'=true/\SRel cx.num w' cx.R g' h' (if objs.any AO.isArr then s.ep+1 else s.ep) u c:=fun hr =>
  hr.srel (g:=g') (fun n h1 h2=>⟨rfl,.inr ⟨h1,h2⟩⟩) (fun _ h=>h)
 have hOO:∀ n S' o1,(∀ x,S' x->GivenB s.heap g ids x\/w.heap.size<=x)->OObj w' I N gv2 key (key+(rws++news).length) n S' o1->ORel cx.num w' cx.R g' h' (if objs.any AO.isArr then s.ep+1 else s.ep) n S' o1:=by
  intro n S' o1 hS' ho
  cases o1 with
  | arr sz xs=>exact⟨ho.1,fun x hx=>.inr (ho.2 x hx)⟩
  | map _ _=>exact ho.elim
  | box cells =>
   obtain⟨b,cur,e,h1,h2,h3,h4,h5,h6⟩:=ho
   refine⟨b,cur,e,h1,h2,h3,h4,?_,fun i u c hu hc=>hsrel (h6 i u c hu hc)⟩
   rintro (hN|hN)
   ·rcases hS' b ((h4 b).2 rfl) with ⟨i,oi,h7,h8,h9⟩|h7
    ·cases oi with
     | arr sz xs=>exact h5 (p.N_up b (.inr ⟨i,sz,xs,h7,h8,h9⟩))
     | box cs =>
      obtain⟨b',_,_,_,_,_,h10,h11,_⟩:=m.objs i _ h8
      rw[(h10 b).1 h9]at hN
      exact h11 hN
     | map kb kvs =>
      obtain⟨b',_,_,_,_,_,h10,h11,_⟩:=m.objs i _ h8
      rw[(h10 b).1 h9]at hN
      exact h11 hN
    ·have:=m.N_lt b hN;omega
   ·exact h5 hN
 refine⟨g',t.keeps m,t.mem m (fun n o1 hT ho=>?_),?_,?_⟩
 ·rcases hlive n o1 hT ho with ⟨h1,_,h3,_⟩|⟨h1,k,o0,hk,_,_,h4⟩
  ·show ORel cx.num w' cx.R g' h' _ (gv2 n) (fp' n) o1
   rw[hfpnew n h1]
   exact hOO _ _ _ (fun x hx=>(hgf2 n h1 x hx).1) h3
  ·show ORel cx.num w' cx.R g' h' _ (gv2 n) (fp' n) o1
   rw[hfphead n k h1 hk,hgv n h1]
   have hk1:=(Xa.1 hk).1
   exact hOO _ _ _ (fun x hx=>(hfoM k x hk1 (hd.inF k hk1 x hx)).1) h4
 ·refine rv.srel (g:=g') (fun n h1 h2=>⟨av2 n (.inl h2),.inr ⟨h1,by rw[Xs];omega⟩⟩) (fun _ h=>h) ?_
  rintro n ⟨cells,hc⟩ o1 ho
  have hq:(n,some (AO.box cells))∈rws++news:=Xg.2 (.inl hc)
  have:=hnew _ hq
  have ho':h' n=some o1:=ho
  rw[this]at ho'
  exact⟨cells,(Xf ho').symm⟩
 ·rintro id (h1|h1)
  ·exact .inl h1
  ·exact .inr ⟨h1.1,by have:=h1.2;omega⟩
theorem Zki(m:Mem cx s.heap s.ep g w)(hkey:∀ id,g.used id->¬ (key<=id/\id<key+64)){c:Call}{x:Operand}{f:FuncId}{k:Nat}{modes:List Bool}{ys:List Opd}(ho:o.op=.call c)(hce:c.callee=.value x)(hx:a.eval x=.func (.func f) #[] #[])
  (hsz:c.args.size=ys.length) (hargs:∀ (i:Nat) (xo:Operand) (y:Opd),c.args[i]?=some xo->ys[i]?=some y->SRel cx.num w cx.R g s.heap s.ep (a.eval xo) (y.ev s.slots))
  (hC:∀ args objs r outs,cl k args objs=some (r,outs)->Contract cx.P cx.num cx.fz f args objs r outs) (h:semCall cl k modes (evL s.slots ys) key s.heap s.ep=some out):Goes cx s g a w o key out:=by
 unfold semCall at h
 cases hp:passArgs s.heap s.ep 0 modes (evL s.slots ys) with
 | none=>rw[hp]at h;cases h
 | some G =>
  rw[hp]at h
  simp only at h
  split at h
  case isFalse=>cases h
  rename_i hcond
  simp only[Xc,Xao,Xv,Xch,Xa6,Xas]at hcond
  obtain⟨⟨hd,hlk⟩,hsn⟩:=hcond
  have hnd:=Za6 hd
  cases hcl:cl k G.args G.objs with
  | none=>rw[hcl]at h;cases h
  | some q =>
   obtain⟨r,outs⟩:=q
   rw[hcl]at h
   simp only at h
   split at h
   case isFalse=>cases h
   rename_i hlo
   split at h
   case isFalse=>cases h
   rename_i hcnt
   obtain⟨l1,l2,a1,s1⟩:=Zc4 (ids:=G.ids) (objs:=G.objs) m hp (fun j i hj=>by simpa using hj) (fun k o' hk=>by simpa using hk) (fun i hi hm=>hlk i hm hi) (hsn.imp (Zcb hp) fun h=>by simpa using h)
   have hevg:∀ (l:List Opd) (i:Nat) (y:Opd),l[i]?=some y->(evL s.slots l)[i]?=some (y.ev s.slots):=by
    intro l
    induction l with
    | nil=>intro i y hi;simp at hi
    | cons z l ih =>
     intro i y hi
     cases i with
     | zero=>simp only[Xm,Xb]at hi;subst hi;rfl
     | succ i=>exact ih i y (by simpa using hi)
   have hcm:=Znj m l1 hnd a1
   have hcon:=hC G.args G.objs r outs hcl (calleeCx cx s.heap g w G.ids G.objs) (calleeGh s.heap g G.ids) w (c.args.map a.eval) rfl rfl rfl rfl l1 rfl rfl (fun id hid=>by rw[<- l1];exact hid) hcm (by rw[l2,Zfe];simpa using hsz)
    (fun i v d hv hdd=>by
     rw[Array.getElem?_map]at hv
     cases hxo:c.args[i]? with
     | none=>rw[hxo]at hv;cases hv
     | some xo =>
      rw[hxo]at hv
      simp only[Xw,Xb]at hv
      have hi:=(Xab.1 hxo).1
      have hy:ys[i]?=some (ys[i]'(by omega)):=Xd (by omega)
      exact s1 i _ d (hevg ys i _ hy) hdd v (hv ▸ hargs i xo _ hxo hy))
   intro next Q hnext
   have hrun:(execOp a.eval o).run cx.P w=(callFunc f (c.args.map a.eval)).run cx.P w:=by
    simp[execOp,ho,resolve,hce,hx,Deferred.ofValue,invoke]
   unfold Oper.wp
   rw[hrun]
   refine hcon o a next Q ?_
   rintro v w' ⟨I,N,S,fo,hpost⟩
   obtain⟨g',h1,h2,h3,h4⟩:=Zpj (out:=out) m hkey hnd l1 a1 hpost hcnt (Xf h).symm
   exact hnext v w' g' h1 h2 h3 h4
end
end Go.Proofs.YtgdfelbedghhnaaGreatDoor
namespace Go.Proofs.YtgdfelbedghhnaaGreatDoor
open Go Go.RowKit
set_option linter.unusedSimpArgs false
theorem Zpb(g:Nat->AV):∀ {l:List Opd} {i:Nat} {d:AV},(evL g l)[i]?=some d->∃ y,l[i]?=some y/\d=y.ev g
 | [],i,d,h=>by simp[evL]at h
 | z::l,0,d,h=>by simp[evL]at h;exact⟨z,rfl,h.symm⟩
 | z::l,i+1,d,h=>by simp only[evL,List.getElem?_cons_succ]at h ⊢;exact Zpb g h
theorem SRel.plain{num:Nat->Option FuncId}{w:World}{R:Nat->Prop}{g:Gh}{h:Nat->Option AO}{ep:Nat}{v:Value}{c:AV}(hr:SRel num w R g h ep v c)(hp:c.plain=true)
  {w':World} {R':Nat->Prop} {g':Gh} {h':Nat->Option AO} {ep':Nat}:SRel num w' R' g' h' ep' v c:=by
 cases hr<;>first|exact .bool _|exact .int _ _|exact .str _|(simp[AV.plain]at hp)
section
variable {cx:Cx} {s:St} {g:Gh} {a:Act} {w:World} {o:Oper} {key:Nat} {out:Out} {cl:Callee}
def innCx(cx:Cx)(g:Gh)(w:World)(v:Value)(M:Nat->Prop)(ob:AO):Cx:=⟨cx.P,cx.num,fun b=>b<w.heap.size/\¬ M b,M,g.I,g.N,w,1,startHeap [ob] 0,fun _=>v,cx.fz⟩
def innGh(g:Gh)(v:Value)(M:Nat->Prop):Gh:=⟨fun _=>v,fun _=>M,g.I,g.N,fun k=>k<1⟩
theorem Zsd(m:Mem cx s.heap s.ep g w){v:Value}{M:Nat->Prop}{sz:Nat}{zs:List (List AV)}(hc:Cl w g.I v (.sl .own sz zs) M)(hN:∀ x,M x->g.N x)(hI:∀ x,M x->¬ g.I x){id:Nat}{ob:AO}(hid:s.heap id=some ob)(hMS:∀ x,M x->g.fp id x) :
  Mem (innCx cx g w v M (.arr sz zs)) (startHeap [.arr sz zs] 0) 0 (innGh g v M) w:=by
 have hget:∀ k o',startHeap [AO.arr sz zs] 0 k=some o'->k=0/\o'=.arr sz zs:=by
  intro k o' hk
  rw[Zbf,Xr (Xp _),Xcx]at hk
  cases k with
  | zero=>simp only[Xm,Xb]at hk;exact⟨rfl,hk.symm⟩
  | succ k=>simp at hk
 refine⟨?_,?_,?_,?_,m.I_lt,fun b hb=>hb,fun b hb=>.inl hb,m.I_N,fun b hb=>hb,fun b hb=>.inl hb,fun k hk=>hk,fun k o' _ ho=>⟨o',ho,AO.alike_refl _,rfl⟩,m.N_lt,fun b hb=>hb,fun b hb=>⟨m.I_lt b hb,fun hM=>hI b hM hb⟩,FrameW.refl _ _,fun p hp=>⟨⟨(m.fz_now hp).1,fun hM=>(m.fz_now hp).2.2 id ob hid (hMS _ hM)⟩,(m.fz_now hp).2.1⟩,m.srt⟩
 ·intro k o' hk
  obtain⟨rfl,rfl⟩:=hget k o' hk
  exact⟨hc,hN⟩
 ·intro k o' hk
  obtain⟨rfl,rfl⟩:=hget k o' hk
  exact Nat.lt_succ_self 0
 ·intro k k' o1 o2 b hk hk' _ _
  rw[(hget k o1 hk).1,(hget k' o2 hk').1]
 ·intro k o' b hk hf
  exact⟨.inl hf,hI b hf⟩
theorem Zl0(m:Mem cx s.heap s.ep g w){c:Call}{x:Operand}{f:FuncId}{k:Nat}{y:Opd}{ys:List Opd}(ho:o.op=.call c)(hce:c.callee=.value x)(hx:a.eval x=.func (.func f) #[] #[])
  (hsz:c.args.size=(y::ys).length) (hargs:∀ (i:Nat) (xo:Operand) (z:Opd),c.args[i]?=some xo->(y::ys)[i]?=some z->SRel cx.num w cx.R g s.heap s.ep (a.eval xo) (z.ev s.slots))
  (hC:∀ args objs r outs,cl k args objs=some (r,outs)->Contract cx.P cx.num cx.fz f args objs r outs) (h:sem cl (.callin k y ys) key s.slots s.heap s.ep=some out):Goes cx s g a w o key out:=by
 have hx0:∃ x0,c.args[0]?=some x0:=by
  have:0<c.args.size:=by rw[hsz];simp
  exact⟨_,Xz this⟩
 obtain⟨x0,hx0⟩:=hx0
 have hr0:=hargs 0 x0 y hx0 rfl
 simp only[sem]at h
 generalize y.ev s.slots=c1 at h hr0
 generalize hv0:a.eval x0=v0 at hr0
 cases c1<;>simp only[reduceCtorEq]at h
 rename_i e id i off
 split at h
 case isFalse=>cases h
 rename_i hcond
 obtain⟨rfl,hpl⟩:=hcond
 cases hh:s.heap id with
 | none=>rw[hh]at h;cases h
 | some ob =>
  rw[hh]at h
  cases ob<;>simp only[reduceCtorEq]at h
  rename_i sz xs
  cases hrow:xs[i]? with
  | none=>rw[hrow]at h;cases h
  | some row =>
   rw[hrow]at h
   simp only at h
   split at h
   case h_2=>cases h
   rename_i sz2 zs hro
   split at h
   case h_2=>cases h
   rename_i r sz3 zs' hcl
   split at h
   case isFalse=>cases h
   rename_i hrp
   obtain⟨hrp,rfl⟩:=hrp
   cases hr0 with
   | inn _ _ _ _ _ h1 hu hle hv =>
    obtain⟨b,n,cp,hg,hNb,hcell⟩:=hv rfl _ _ hh
    obtain⟨hcl0,hN0⟩:=m.objs id _ hh
    rcases hcl0.rows with ⟨h5,h6,_⟩|⟨b',cap',cur,e2,us,fs,h5,hheap,hcap,hmax,hcur,hcellm,r0,hnb,hS⟩
    ·rw[h6]at hrow;simp at hrow
    have hg0:=hg
    rw[hg]at h5
    simp only[Value.slice.injEq,Xb,Addr.mk.injEq,Xbv]at h5
    obtain⟨rfl,rfl,rfl⟩:=h5
    have hca:cellAt xs i off=some (.sl .own sz3 zs):=Zab.2 ⟨row,hrow,hro⟩
    have huv:us i off=v0:=by
     have h7:=hcellm i off _ hca
     rw[Zaf hheap,h7]at hcell
     exact Xf hcell
    have hcl1:=r0.cl i off _ hca
    have hMS:∀ x,fs i off x->g.fp id x:=fun x hx=>(hS x).2 (.inr ⟨i,off,_,hca,hx⟩)
    have hMN:∀ x,fs i off x->g.N x:=fun x hx=>hN0 x (hMS x hx)
    have hMI:∀ x,fs i off x->¬ g.I x:=fun x hx=>(m.mine id _ x hh (hMS x hx)).2
    have hmem:=Zsd (cx:=cx) m hcl1 hMN hMI hh hMS
    have hcon:=hC _ _ _ _ hcl (innCx cx g w (us i off) (fs i off) (.arr sz3 zs)) (innGh g (us i off) (fs i off)) w (c.args.map a.eval) rfl rfl rfl rfl rfl rfl rfl (fun _ h=>h) hmem (by simp[hsz,Zfe])
     (fun j v d hv' hd=>by
      rw[Array.getElem?_map]at hv'
      cases hxo:c.args[j]? with
      | none=>rw[hxo]at hv';cases hv'
      | some xo =>
       rw[hxo]at hv'
       simp only[Xw,Xb]at hv'
       subst hv'
       cases j with
       | zero =>
        simp only[Xm,Xb]at hd
        subst hd
        rw[hx0]at hxo
        obtain rfl:=Xf hxo
        rw[hv0]
        exact .ref 0 _ h1 (Nat.lt_succ_self 0) (fun _ _=>huv.symm)
       | succ j =>
        simp only[List.getElem?_cons_succ]at hd
        obtain⟨z,hz,rfl⟩:=Zpb _ hd
        have hp2:(z.ev s.slots).plain=true:=Xao.1 hpl _ (Xe hd)
        exact (hargs (j+1) xo z hxo (by simpa using hz)).plain hp2)
    intro next Q hnext
    have hrun:(execOp a.eval o).run cx.P w=(callFunc f (c.args.map a.eval)).run cx.P w:=by
     simp[execOp,ho,resolve,hce,hx,Deferred.ofValue,invoke]
    unfold Oper.wp
    rw[hrun]
    refine hcon o a next Q ?_
    rintro v w' ⟨I,N,S,fo,p⟩
    obtain rfl:=Xf h
    obtain⟨hsh,_⟩:=p.out 0 (.arr sz3 zs') rfl
    have hnew:Cl w' I (us i off) (.sl .own sz3 zs') (fo 0)/\∀ x,fo 0 x->N x:=by
     rcases hsh.av_inv with ⟨sz4,xs4,h7,h8,h9⟩|⟨_,_,_,_,_,h7,_⟩
     ·cases h7;exact⟨h8,h9⟩
     ·cases h7
    obtain⟨hnew,hnewN⟩:=hnew
    have hlt:=(Xa.1 hrow).1
    have holt:=(Xa.1 hro).1
    have hSb:g.fp id b:=(hS b).2 (.inl rfl)
    have hfo:∀ x,fo 0 x->(fs i off x\/w.heap.size<=x)/\¬ I x:=fun x hx=>p.mineO 0 x (Nat.lt_succ_self 0) hx
    have hIold:∀ x,I x->x<w.heap.size->¬ fs i off x->g.I x:=fun x hx h8 h9=>by
     rcases p.I_new x hx with h7|h7|h7
     ·exact h7
     ·exact absurd h7 h9
     ·exact absurd h7 (by simp only[innCx];omega)
    have hblk:∀ x,x<w.heap.size->¬ fs i off x->w'.heap[x]?=w.heap[x]?:=fun x h7 h8=>p.frame.block x h7 h8
    have hSlt:=hcl0.lt
    -- the rows behind the call
    have hcat:∀ i' j c,cellAt (xs.set i (row.set off (.sl .own sz3 zs'))) i' j=some c->(i'=i/\j=off/\c=.sl .own sz3 zs')\/(¬ (i'=i/\j=off)/\cellAt xs i' j=some c):=by
     intro i' j c hcc
     rw[Zba hlt]at hcc
     by_cases h7:i'=i
     ·rw[Xr h7,List.getElem?_set]at hcc
      by_cases h8:off=j
      ·rw[Xr h8,Xr holt]at hcc
       exact .inl ⟨h7,h8.symm,(Xf hcc).symm⟩
      ·rw[Xu h8]at hcc
       exact .inr ⟨fun h=>h8 h.2.symm,Zab.2 ⟨row,by rw[h7];exact hrow,hcc⟩⟩
     ·rw[Xu h7]at hcc
      exact .inr ⟨fun h=>h7 h.1,hcc⟩
    let fs':Nat->Nat->Nat->Prop:=fun i' j x=>if i'=i/\j=off then fo 0 x else fs i' j x
    have hoth:∀ i' j c x,¬ (i'=i/\j=off)->cellAt xs i' j=some c->fs i' j x->g.fp id x/\x<w.heap.size/\¬ fs i off x:=fun i' j c x h7 h8 h9=>by
     have h10:=(hS x).2 (.inr ⟨i',j,c,h8,h9⟩)
     exact⟨h10,hSlt x h10,fun h11=>h7 (r0.dis i' j c i off _ x h8 hca h9 h11)⟩
    have hsameI:Same w w' g.I:=fun x hx=>hblk x (m.I_lt x hx) (fun h7=>hMI x h7 hx)
    have hbout:¬ fs i off b:=fun h7=>hnb ⟨i,off,_,hca,h7⟩
    have hheap':w'.heap[b]?=some (.cells cur e2 (0,0)):=by rw[hblk b (hSlt b hSb) hbout];exact hheap
    have rr:Rows w' I sz (xs.set i (row.set off (.sl .own sz3 zs'))) us fs':=by
     refine⟨fun r hr'=>?_,fun i' j c hcc=>?_,fun i1 j1 c1 i2 j2 c2 x hc1 hc2 hf1 hf2=>?_⟩
     ·rcases Xat hr' with h7|h7
      ·exact r0.row r h7
      ·rw[h7,Xa0];exact r0.row row (Xe hrow)
     ·rcases hcat i' j c hcc with ⟨rfl,rfl,rfl⟩|⟨h7,h8⟩
      ·simp only[fs',Xcy,Xag];exact hnew
      ·simp only[fs',h7,Xaj]
       exact (r0.cl i' j c h8).mono (fun x hx=>hblk x (hoth i' j c x h7 h8 hx).2.1 (hoth i' j c x h7 h8 hx).2.2) hsameI p.I_up
     ·rcases hcat i1 j1 c1 hc1 with ⟨h7,h8,_⟩|⟨h7,h8⟩<;>rcases hcat i2 j2 c2 hc2 with ⟨k7,k8,_⟩|⟨k7,k8⟩
      ·exact⟨h7.trans k7.symm,h8.trans k8.symm⟩
      ·simp only[fs',h7,h8,k7,Xcy,Xag,Xaj]at hf1 hf2
       obtain⟨_,h9,h10⟩:=hoth i2 j2 c2 x k7 k8 hf2
       rcases (hfo x hf1).1 with h11|h11
       ·exact absurd h11 h10
       ·omega
      ·simp only[fs',h7,k7,k8,Xcy,Xag,Xaj]at hf1 hf2
       obtain⟨_,h9,h10⟩:=hoth i1 j1 c1 x h7 h8 hf1
       rcases (hfo x hf2).1 with h11|h11
       ·exact absurd h11 h10
       ·omega
      ·simp only[fs',h7,k7,Xaj]at hf1 hf2
       exact r0.dis _ _ _ _ _ _ x h8 k8 hf1 hf2
    have hfall:∀ x,Fall (xs.set i (row.set off (.sl .own sz3 zs'))) fs' x->fo 0 x\/(g.fp id x/\x<w.heap.size/\¬ fs i off x/\x≠b):=by
     rintro x ⟨i',j,c,hcc,hf⟩
     rcases hcat i' j c hcc with ⟨h7,h8,_⟩|⟨h7,h8⟩
     ·simp only[fs',h7,h8,Xcy,Xag]at hf;exact .inl hf
     ·simp only[fs',h7,Xaj]at hf
      obtain⟨h9,h10,h11⟩:=hoth i' j c x h7 h8 hf
      exact .inr ⟨h9,h10,h11,fun e=>hnb (e ▸ ⟨i',j,c,h8,hf⟩)⟩
    have hnotb:¬ Fall (xs.set i (row.set off (.sl .own sz3 zs'))) fs' b:=by
     intro hx
     rcases hfall b hx with h7|h7
     ·rcases (hfo b h7).1 with h8|h8
      ·exact hbout h8
      ·have:=hSlt b hSb;omega
     ·exact h7.2.2.2 rfl
    have hcl2:=rr.own (w1:=w') (b:=b) (cap:=cp) hheap' (by rw[Xa0];exact hcap) hmax hcur (fun i' j c hcc=>by
      rcases hcat i' j c hcc with ⟨rfl,rfl,rfl⟩|⟨h7,h8⟩
      ·exact hcellm _ _ _ hca
      ·exact hcellm _ _ _ h8) (Same.refl _ _) (Same.refl _ _) hnotb
    rw[Xa0]at hcl2
    let F':Nat->Prop:=fun x=>x=b\/Fall (xs.set i (row.set off (.sl .own sz3 zs'))) fs' x
    have hF':∀ x,F' x->(w.heap.size<=x\/g.fp id x)/\¬ I x:=by
     have hold:∀ x,g.fp id x->¬ fs i off x->¬ I x:=fun x h7 h8 h9=>(m.mine id _ x hh h7).2 (hIold x h9 (hSlt x h7) h8)
     rintro x (rfl|hx)
     ·exact⟨.inr hSb,hold _ hSb hbout⟩
     ·rcases hfall x hx with h7|h7
      ·obtain⟨h8,h9⟩:=hfo x h7
       exact⟨h8.symm.imp (fun h=>h) (hMS x),h9⟩
      ·exact⟨.inr h7.1,hold x h7.1 h7.2.2.1⟩
    have hF'N:∀ x,F' x->g.N x\/N x:=by
     rintro x (rfl|hx)
     ·exact .inl hNb
     ·rcases hfall x hx with h7|h7
      ·exact .inr (hnewN x h7)
      ·exact .inl (hN0 x h7.1)
    have hfpid:upd g.fp id F' id=F':=by simp[upd]
    let g':Gh:=⟨g.v,upd g.fp id F',I,fun x=>g.N x\/N x,g.used⟩
    have t:Touch cx (fun j=>j=id) s.heap s.ep g w (wsOn s.heap [(id,some (.arr sz (xs.set i (row.set off (.sl .own sz3 zs')))))]) (s.ep+1) g' w':=by
     refine⟨p.frame.os,p.frame.tape,p.frame.output,p.frame.size,Xca _,?_,?_,fun _ h=>h,?_,?_,?_,?_,p.I_up,?_,fun x hx=>.inr (p.I_N x hx),fun _ h=>.inl h,?_,fun he=>absurd he (by omega)⟩
     ·intro j hj
      exact⟨by simp[wsOn,upd,hj],fun _=>⟨rfl,by simp[g',upd,hj]⟩⟩
     ·intro x hx hO
      exact hblk x hx (fun h7=>hO ⟨id,_,rfl,hh,hMS x h7⟩)
     ·intro j o1 hj _
      rw[hj];exact hu
     ·intro j o1 hj _ ho1
      subst hj
      simp only[wsOn,upd,Xag,Xb]at ho1
      exact⟨_,hh,by rw[<- ho1];rfl,rfl⟩
     ·intro j o1 x hj ho1 hf
      subst hj
      have hf':F' x:=by simpa [g',upd] using hf
      obtain⟨h7,h8⟩:=hF' x hf'
      exact⟨h7.imp (fun h=>h) (fun h9=>⟨j,_,rfl,hh,h9⟩),h8⟩
     ·intro j j' _ _ x hj hj' _ _ _ _
      exact hj.trans hj'.symm
     ·intro x hx
      rcases p.I_new x hx with h7|h7|h7
      ·exact .inl h7
      ·exact .inr (.inl ⟨id,_,rfl,hh,hMS x h7⟩)
      ·exact .inr (.inr ⟨h7,p.N_lt x (p.I_N x hx)⟩)
     ·rintro x (hx|hx)
      ·exact .inl hx
      ·rcases p.N_new x hx with h7|h7
       ·exact .inl h7
       ·exact .inr ⟨h7,p.N_lt x hx⟩
    have mm:=t.mem m (fun j o1 hj ho1=>by
     subst hj
     simp only[wsOn,upd,Xag,Xb]at ho1
     subst ho1
     refine⟨?_,?_⟩
     ·show Cl w' I (g.v j) _ (upd g.fp j F' j)
      rw[hfpid,hg0];exact hcl2
     ·show ∀ x,upd g.fp j F' j x->_
      rw[hfpid];exact hF'N)
    refine hnext v w' g' (t.keeps m) mm ?_ (fun _ h=>.inl h)
    have hres:=p.res
    cases hres with
    | one _ _ _ h7=>cases h7 with
     | one _ _ _ h8=>cases h8<;>first|exact .bool _|exact .int _ _|exact .str _|(simp[AV.plain]at hrp)
     | agg=>simp[AV.plain]at hrp
     | cellp=>simp[AV.plain]at hrp
    | tup=>simp[AV.plain]at hrp
end
end Go.Proofs.YtgdfelbedghhnaaGreatDoor
