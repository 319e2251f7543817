/- Regions: one operation behind the other, or in any order that they leave open. · At a loop's head the numbers are given anew. · Code: what the abstract machine says of it holds. · Functions: a call of one does what the abstract machine's call says. · The whole: what the abstract machine says of a call, the program does. · The arguments of a law, read as the abstract machine's values; a whole call from outside. · A law's call from outside: its arguments read, nothing below turned, its answer. · The laws' arguments, read as the program's data. · The laws' own helpers: sizes only go down. · The laws' own helpers: marks on mates. · The laws' own helpers, on parcels. · Layer 6: the book's copy and its tick. · What is valid, said of lists as wholes. · Ordered lists: an element put in its place; what sorting does to a list and one more. · The laws' own helpers, on books. · The laws' own helpers: marks on books and on lists of parcels. · Layer 6: what a berth is to run is put into the book. · Draws: the reader of the code. · Layer 8: worlds: what they must be. · Layer 8: has a world settled? · Layer 3: a tick of a run's life. · Draws: wants and runs. · Runs that end in some result of a kind. · Draws: decimals, lists of wants and of runs. · Draws: mates. -/
import Derived.Test.YtfemiipgkhekiaaGreatDoorB4
import Derived.Orders
import Derived.LoopN
import Derived.Carry
import Derived.ChangeArms
import Derived.DataReads
import Derived.Test.YtfemiipgkhekiaaGreatDoorB2
namespace Go.Proofs.YtfemiipgkhekiaaGreatDoor
open Go Go.RowKit
set_option linter.unusedSimpArgs false
/-! ### The check -/
def dstB(nt:Nat):Option Nat->Option Nat->Bool
 | none,none=>true
 | some d,some d'=>d == d' && decide (d<nt)
 | _,_=>false
def guardB(ops:Array Oper)(nt:Nat):Option (Nat×Bool)->Option (Nat×Bool)->Bool
 | none,none=>true
 | some (j,b),some (t,b')=>b == b' && ((ops[j]?).bind (·.dst) == some t && decide (t<nt))
 | _,_=>false
def chkIns(P:Program)(num:Nat->Option FuncId)(nt:Nat)(ops:Array Oper)(o:Oper)(i:CIns):Bool :=
 dstB nt o.dst i.dst && (guardB ops nt o.guard i.guard && chkOp P num o i.op)
def chkOps(P:Program)(num:Nat->Option FuncId)(nt:Nat)(ops:Array Oper):List Oper->List CIns->Bool
 | [],[]=>true
 | o::os,i::is=>chkIns P num nt ops o i && chkOps P num nt ops os is
 | _,_=>false
def bitsOf(deps:List Nat):List Edge->Nat
 | []=>0
 | e::es=>if Region.binds .any e then (2 ^ e.on ||| deps.getD e.on 0) ||| bitsOf deps es else bitsOf deps es
def edgesB(n:Nat):List Edge->Bool
 | []=>true
 | e::es=>(!Region.binds .any e || decide (e.on<n)) && edgesB n es
def chkDeps(deps:List Nat):Nat->List Oper->List Nat->Bool
 | _,[],[]=>true
 | n,o::os,d::ds=>edgesB n o.after.toList && (d == bitsOf deps o.after.toList && chkDeps deps (n+1) os ds)
 | _,_,_=>false
def depsFrom(acc:List Nat):List Oper->List Nat
 | []=>acc
 | o::os=>depsFrom (acc++[bitsOf acc o.after.toList]) os
section
variable {cx:Cx} {nt:Nat} {cl:Callee}
theorem Ze8{P:Program}{num:Nat->Option FuncId}{ops:Array Oper}:∀ {os:List Oper} {is:List CIns},chkOps P num nt ops os is=true->os.length=is.length/\∀ (n:Nat) (i:CIns),is[n]?=some i->∃ o,os[n]?=some o/\chkIns P num nt ops o i=true
 | [],[],_=>⟨rfl,fun n i h=>by simp at h⟩
 | o::os,i::is,h=>by
  simp only[chkOps,Bool.and_eq_true]at h
  obtain⟨h1,h2⟩:=Ze8 h.2
  refine⟨by simp[h1],fun n j hj=>?_⟩
  cases n with
  | zero=>simp only[List.getElem?_cons_zero,Option.some.injEq]at hj;subst hj;exact⟨o,rfl,h.1⟩
  | succ n=>obtain⟨o',h3,h4⟩:=h2 n j (by simpa using hj);exact⟨o',by simpa using h3,h4⟩
 | [],_::_,h=>by cases h
 | _::_,[],h=>by cases h
theorem Ze7{deps:List Nat}{k:Nat}:∀ {es:List Edge},(bitsOf deps es).testBit k=true->∃ e∈es,Region.binds .any e=true/\(e.on=k\/(deps.getD e.on 0).testBit k=true)
 | [],h=>by simp[bitsOf]at h
 | e::es,h=>by
  simp only[bitsOf]at h
  split at h
  ·rename_i hb
   simp only[Nat.testBit_or,Bool.or_eq_true]at h
   rcases h with (h|h)|h
   ·refine⟨e,List.mem_cons_self,hb,.inl ?_⟩
    rw[Nat.testBit_two_pow]at h
    simpa using h
   ·exact⟨e,List.mem_cons_self,hb,.inr h⟩
   ·obtain⟨e',h1,h2⟩:=Ze7 h
    exact⟨e',List.mem_cons_of_mem _ h1,h2⟩
  ·obtain⟨e',h1,h2⟩:=Ze7 h
   exact⟨e',List.mem_cons_of_mem _ h1,h2⟩
theorem Zh8{n:Nat}:∀ {es:List Edge},edgesB n es=true->∀ e∈es,Region.binds .any e=true->e.on<n
 | [],_,e,he,_=>by simp at he
 | e0::es,h,e,he,hb=>by
  simp only[edgesB,Bool.and_eq_true,Bool.or_eq_true,Bool.not_eq_true',decide_eq_true_eq]at h
  rcases List.mem_cons.1 he with rfl|he
  ·exact h.1.resolve_left (by simp[hb])
  ·exact Zh8 h.2 e he hb
theorem Zg3{deps:List Nat}:∀ {n:Nat} {os:List Oper} {ds:List Nat},chkDeps deps n os ds=true->∀ (j:Nat) (o:Oper) (d:Nat),os[j]?=some o->ds[j]?=some d->edgesB (n+j) o.after.toList=true/\d=bitsOf deps o.after.toList
 | n,[],[],_,j,o,d,h,_=>by simp at h
 | n,o0::os,d0::ds,h,j,o,d,ho,hd=>by
  simp only[chkDeps,Bool.and_eq_true,beq_iff_eq]at h
  cases j with
  | zero =>
   simp only[List.getElem?_cons_zero,Option.some.injEq]at ho hd
   subst ho;subst hd
   exact⟨h.1,h.2.1⟩
  | succ j =>
   have:=Zg3 h.2.2 j o d (by simpa using ho) (by simpa using hd)
   rw[show n+(j+1)=n+1+j by omega]
   exact this
 | _,[],_::_,h,_,_,_,_,_=>by cases h
 | _,_::_,[],h,_,_,_,_,_=>by cases h
/-! ### One step -/
theorem Zq9{x y:Option Nat}(h:dstB nt x y=true):x=y/\∀ d,y=some d->d<nt:=by
 unfold dstB at h
 split at h
 ·exact⟨rfl,fun d hd=>by cases hd⟩
 ·simp only[Bool.and_eq_true,beq_iff_eq,decide_eq_true_eq]at h
  obtain⟨rfl,h2⟩:=h
  exact⟨rfl,fun d hd=>by obtain rfl:=Option.some.inj hd;exact h2⟩
 ·cases h
theorem Zpk{ops:Array Oper}{s:St}{g:Gh}{a:Act}{w:World}(c:Corr cx nt s g a w){o:Oper}{gd:Option (Nat×Bool)}(h:guardB ops nt o.guard gd=true){b:Bool}(hg:guardA s.slots gd=some b) :
  Region.wanted o (yielded ops a.tmps)=b:=by
 generalize h0:o.guard=og at h
 unfold guardB at h
 split at h
 ·simp only[guardA,Option.some.injEq]at hg
  simp only[Region.wanted,h0]
  exact hg
 ·rename_i j b1 t b2
  simp only[Bool.and_eq_true,beq_iff_eq,decide_eq_true_eq]at h
  obtain⟨rfl,h1,h2⟩:=h
  have hr:=c.slots t
  have hsz:t<a.tmps.size:=by rw[c.size];exact h2
  have hget:a.tmps[t]?=some (a.tmps.getD t undef):=by
   rw[Array.getD_eq_getD_getElem?,Array.getElem?_eq_getElem hsz];rfl
  simp only[Region.wanted,h0,yielded,h1,Option.bind_some,hget]
  simp only[guardA]at hg
  generalize s.slots t=c1 at hg hr
  generalize a.tmps.getD t undef=v1 at hr
  cases c1<;>try (cases hg;done)
  ·rename_i x
   simp only[Option.some.injEq]at hg
   cases hr
   rw[<- hg]
   cases x<;>cases b1<;>rfl
  ·rename_i vs
   cases vs with
   | cons _ _=>cases hg
   | nil =>
    simp only[Option.some.injEq]at hg
    cases hr
    rw[<- hg]
    cases b1<;>rfl
 ·cases h
theorem Zqh{s:St}{g:Gh}{a:Act}{w:World}(c:Corr cx nt s g a w){dst:Option Nat}(hd:∀ d,dst=some d->d<nt):Corr cx nt (s.after dst (.tup []) [] false) g (a.put dst undef) w:=by
 have:=c.put (nx:=s.next) (bs:=s.base) (Keeps.refl _ _ _ _ _) c.mem dst hd undef (.tup []) (.tup #[] [] rfl (fun i v c hv=>by simp at hv))
 exact this
theorem Zke{ops:Array Oper}{Q:Exit->Act->World->Prop}{K:Act->World->Prop}{s s1:St}{g:Gh}{a:Act}{w:World}(c:Corr cx nt s g a w)(hK:Known cx cl){n key:Nat}{o:Oper}{i:CIns}{t:Tr}(ho:ops[n]?=some o)
  (hi:chkIns cx.P cx.num nt ops o i=true) (hkey:∀ id,g.used id->¬ (key<=id/\id<key+64)) (h:stepLoud cl i key s=some (s1,t))
  (hn:∀ g' a' w',Corr cx nt s1 g' a' w'->(∀ id,g'.used id->g.used id\/(key<=id/\id<key+64))->K a' w'):wpOp cx.P ops Q n K a w:=by
 simp only[chkIns,Bool.and_eq_true]at hi
 obtain⟨hdst,hgd,hop⟩:=hi
 obtain⟨hde,hdl⟩:=Zq9 hdst
 unfold wpOp
 simp only[ho]
 unfold stepLoud at h
 cases hg:guardA s.slots i.guard with
 | none=>rw[hg]at h;cases h
 | some b =>
  rw[hg]at h
  have hw:=Zpk c hgd hg
  cases b with
  | false =>
   simp only[Option.some.injEq,Prod.mk.injEq]at h
   obtain⟨rfl,_⟩:=h
   rw[hw]
   simp only[Bool.false_eq_true,if_false]
   rw[hde]
   exact hn g _ w (Zqh c hdl) (fun id hid=>.inl hid)
  | true =>
   simp only at h
   rw[hw]
   simp only[if_true]
   cases hs:sem cl i.op key s.slots s.heap s.ep with
   | none=>rw[hs]at h;cases h
   | some out =>
    rw[hs]at h
    simp only[Option.some.injEq,Prod.mk.injEq]at h
    obtain⟨rfl,_⟩:=h
    refine .inl (Zuo c hkey hK hop hs K Q (fun v w' g' h1 h2 h3 h4=>?_))
    rw[hde]
    exact hn g' _ w' (c.put h1 h2 i.dst hdl v out.v h3) h4
/-! ### One behind the other -/
theorem Zfr{i:CIns}{key:Nat}{s s1:St}(h:stepIns cl i key s=some s1):∃ t,stepLoud cl i key s=some (s1,t):=by
 unfold stepIns at h
 unfold stepLoud
 cases hg:guardA s.slots i.guard with
 | none=>rw[hg]at h;cases h
 | some b =>
  rw[hg]at h
  cases b with
  | false=>simp only[Option.some.injEq]at h;subst h;exact⟨_,rfl⟩
  | true =>
   simp only at h ⊢
   cases hs:sem cl i.op key s.slots s.heap s.ep with
   | none=>rw[hs]at h;cases h
   | some out =>
    rw[hs]at h
    simp only[Option.some.injEq]at h
    subst h
    exact⟨_,rfl⟩
theorem Zmp(hK:Known cx cl){ops:Array Oper}{Q:Exit->Act->World->Prop}{s':St}{kN:Nat}:∀ {is:List CIns} {n key:Nat} {s:St} {g:Gh} {a:Act} {w:World},runIns cl is key s=some s'->key+64*is.length=kN ->
  (∀ (j:Nat) (i:CIns),is[j]?=some i->∃ o,ops[n+j]?=some o/\chkIns cx.P cx.num nt ops o i=true)->Corr cx nt s g a w->(∀ id,g.used id->id<key) ->
  (∀ g' a' w',Corr cx nt s' g' a' w'->(∀ id,g'.used id->id<kN)->Q .normal a' w')->wpOps cx.P ops Q (List.range' n is.length) a w
 | [],n,key,s,g,a,w,h,hN,_,c,hu,hq=>by
  simp only[runIns,Option.some.injEq]at h
  subst h
  simp only[List.length_nil,List.range'_zero,wpOps]
  exact hq g a w c (fun id hid=>by have:=hu id hid;simp at hN;omega)
 | i::is,n,key,s,g,a,w,h,hN,hc,c,hu,hq=>by
  simp only[runIns]at h
  cases h1:stepIns cl i key s with
  | none=>rw[h1]at h;cases h
  | some s1 =>
   rw[h1]at h
   simp only at h
   obtain⟨t,ht⟩:=Zfr h1
   obtain⟨o,ho,hi⟩:=hc 0 i rfl
   rw[Nat.add_zero]at ho
   rw[List.length_cons,List.range'_succ,wpOps_cons]
   refine Zke c hK ho hi (fun id hid hr=>by have:=hu id hid;omega) ht (fun g' a' w' c' hu'=>?_)
   exact Zmp hK h (by simp at hN;omega) (fun j i' hj=>by
    obtain⟨o',ho',hi'⟩:=hc (j+1) i' (by simpa using hj)
    exact⟨o',by rw[show n+1+j=n+(j+1) by omega];exact ho',hi'⟩) c' (fun id hid=>by
    rcases hu' id hid with h2|h2
    ·have:=hu id h2;omega
    ·omega) hq
/-! ### In any order -/
theorem Zfi:∀ {ops:List CIns} {ts:List Tr} {n:Nat},(items n ops ts).Pairwise (fun x p=>x.1<p.1)
 | [],_,n=>by simp[items]
 | _::_,[],n=>by simp[items]
 | i::is,t::ts,n=>by
  simp only[items,List.pairwise_cons]
  refine⟨fun p hp=>?_,Zfi⟩
  obtain⟨j,h1,_⟩:=Zby hp
  show n<p.1
  omega
theorem Zsk(hK:Known cx cl){ops:Array Oper}{Q:Exit->Act->World->Prop}{deps:List Nat}{cops:List CIns}{k0:Nat}{sF:St}(hdl:deps.length=ops.size)
  (hops:∀ (n:Nat) (i:CIns),cops[n]?=some i->∃ o,ops[n]?=some o/\chkIns cx.P cx.num nt ops o i=true) (hcl:cops.length=ops.size)
  (hdep:∀ (j:Nat) (o:Oper) (d:Nat),ops[j]?=some o->deps[j]?=some d->edgesB j o.after.toList=true/\d=bitsOf deps o.after.toList)
  (hq:∀ g' a' w',Corr cx nt sF g' a' w'->(∀ id,g'.used id->id<k0+64*ops.size)->Q .normal a' w') :
  ∀ (fuel:Nat) (rem:List (Nat×CIns×Tr)) (listed:Array Bool) (s:St) (g:Gh) (a:Act) (w:World),rem.length<=fuel->rem.Pairwise (fun x p=>x.1<p.1)->Free deps rem->(∀ p∈rem,cops[p.1]?=some p.2.1)->RunR cl k0 rem s sF ->
   Corr cx nt s g a w->listed.size=ops.size->(∀ n,n<ops.size->(listed.getD n true=false↔∃ p∈rem,p.1=n)) ->
   (∀ j d k,listed.getD j false=true->deps[j]?=some d->d.testBit k=true->listed.getD k false=true)->(∀ id,g.used id->id<k0\/∃ n,n<ops.size/\listed.getD n false=true/\k0+64*n<=id/\id<k0+64*n+64) ->
   wpAny cx.P .any ops Q fuel listed a w:=by
 intro fuel
 induction fuel with
 | zero =>
  intro rem listed s g a w hlen _ _ _ hrun c hsz hl _ hu
  have hrem:rem=[]:=List.length_eq_zero_iff.1 (by omega)
  subst hrem
  obtain rfl:=hrun
  refine⟨?_,hq g a w c ?_⟩
  ·cases hr:Region.ready .any ops listed with
   | nil=>rfl
   | cons x xs =>
    have hx:x∈Region.ready .any ops listed:=by rw[hr];exact List.mem_cons_self
    obtain⟨h1,o,h2,_⟩:=mem_ready.1 hx
    have hlt:=(Array.getElem?_eq_some_iff.1 h2).1
    obtain⟨p,hp,_⟩:=(hl x hlt).1 h1
    simp at hp
  ·intro id hid
   rcases hu id hid with h1|⟨n,h1,_,_,h2⟩
   ·omega
   ·have:(n+1)<=ops.size:=h1
    have:=Nat.mul_le_mul_left 64 this
    omega
 | succ fuel ih =>
  intro rem listed s g a w hlen hsort hfree hmem hrun c hsz hl hclosed hu
  have hlistN:∀ n,n<ops.size->(∀ p∈rem,p.1≠n)->listed.getD n false=true:=fun n hn hp=>by
   have h1:¬ (listed.getD n true=false):=fun h=>by
    obtain⟨p,hp1,hp2⟩:=(hl n hn).1 h
    exact hp p hp1 hp2
   have h2:listed[n]?=some (listed[n]'(by omega)):=Array.getElem?_eq_getElem (by omega)
   simp only[Array.getD_eq_getD_getElem?,h2,Option.getD_some]at h1 ⊢
   simpa using h1
  refine⟨fun hready=>?_,fun i hi=>?_⟩
  ·-- nothing is ready: nothing is left
   have hrem:rem=[]:=by
    cases hrem:rem with
    | nil=>rfl
    | cons p rest =>
     exfalso
     have hp:p∈rem:=by rw[hrem];exact List.mem_cons_self
     obtain⟨o,ho,_⟩:=hops p.1 p.2.1 (hmem p hp)
     have hlt:=(Array.getElem?_eq_some_iff.1 ho).1
     have hd:deps[p.1]?=some (deps[p.1]'(by omega)):=List.getElem?_eq_getElem (by omega)
     obtain⟨h1,_⟩:=hdep p.1 o _ ho hd
     have:p.1∈Region.ready .any ops listed:=by
      refine mem_ready.2 ⟨(hl p.1 hlt).2 ⟨p,hp,rfl⟩,o,ho,fun e he hb=>?_⟩
      have hlt2:=Zh8 h1 e (Array.mem_toList_iff.2 he) hb
      refine hlistN e.on (by omega) (fun q hq e'=>?_)
      rw[hrem]at hq hsort
      rw[List.pairwise_cons]at hsort
      rcases List.mem_cons.1 hq with rfl|hq
      ·omega
      ·have:=hsort.1 q hq;omega
     rw[hready]at this
     simp at this
   subst hrem
   obtain rfl:=hrun
   refine hq g a w c (fun id hid=>?_)
   rcases hu id hid with h1|⟨n,h1,_,_,h2⟩
   ·omega
   ·have:(n+1)<=ops.size:=h1
    have:=Nat.mul_le_mul_left 64 this
    omega
  ·obtain⟨h1,o,ho,hafter⟩:=mem_ready.1 hi
   have hlt:=(Array.getElem?_eq_some_iff.1 ho).1
   obtain⟨p,hp,hpi⟩:=(hl i hlt).1 h1
   subst hpi
   obtain⟨X,Y,hXY⟩:=List.append_of_mem hp
   subst hXY
   have hd:deps[p.1]?=some (deps[p.1]'(by omega)):=List.getElem?_eq_getElem (by omega)
   obtain⟨_,hdb⟩:=hdep p.1 o _ ho hd
   -- the bits of p are listed
   have hbits:∀ k,(deps[p.1]'(by omega)).testBit k=true->listed.getD k false=true:=by
    intro k hk
    rw[hdb]at hk
    obtain⟨e,he,hb,h2⟩:=Ze7 hk
    have hel:=hafter e (Array.mem_toList_iff.1 he) hb
    rcases h2 with rfl|h2
    ·exact hel
    ·cases hde:deps[e.on]? with
     | none=>simp[List.getD,hde]at h2
     | some d'=>exact hclosed e.on d' k hel hde (by simpa [List.getD,hde] using h2)
   have hpw:=List.pairwise_append.1 hsort
   have hxl:∀ x∈X,x.1<p.1:=fun x hx=>hpw.2.2 x hx p List.mem_cons_self
   have hyl:∀ y∈Y,p.1<y.1:=fun y hy=>(List.pairwise_cons.1 hpw.2.1).1 y hy
   have hbub:=RunR.bubble hrun (fun x hx=>by
    obtain⟨d,h2,h3⟩:=hfree x (List.mem_append.2 (.inl hx)) p (List.mem_append.2 (.inr List.mem_cons_self)) (hxl x hx)
    rw[hd]at h2
    obtain rfl:=Option.some.inj h2
    refine h3.resolve_left (fun hb=>?_)
    have hlx:=hbits x.1 hb
    have hxs:x.1<ops.size:=by have:=hxl x hx;omega
    have hun:=(hl x.1 hxs).2 ⟨x,List.mem_append.2 (.inl hx),rfl⟩
    have h2:listed[x.1]?=some (listed[x.1]'(by omega)):=Array.getElem?_eq_getElem (by omega)
    simp only[Array.getD_eq_getD_getElem?,h2,Option.getD_some]at hlx hun
    rw[hlx]at hun
    cases hun)
   obtain⟨s1,hstep,hrest⟩:=hbub
   obtain⟨o',ho',hins⟩:=hops p.1 p.2.1 (hmem p hp)
   have hunl:listed.getD p.1 false=false:=by
    have h2:listed[p.1]?=some (listed[p.1]'(by omega)):=Array.getElem?_eq_getElem (by omega)
    simp only[Array.getD_eq_getD_getElem?,h2,Option.getD_some]at h1 ⊢
    exact h1
   refine Zke c hK ho' hins (key:=k0+64*p.1) ?_ hstep (fun g' a' w' c' hu'=>?_)
   ·intro id hid hr
    rcases hu id hid with h2|⟨n,h2,h3,h4,h5⟩
    ·omega
    ·have:n≠p.1:=fun e=>by rw[e,hunl]at h3;cases h3
     rcases Nat.lt_or_ge n p.1 with h6|h6
     ·have:=Nat.mul_le_mul_left 64 (show n+1<=p.1 from h6);omega
     ·have:=Nat.mul_le_mul_left 64 (show p.1+1<=n by omega);omega
   ·have hgs:∀ j d,(listed.setIfInBounds p.1 true).getD j d=if j=p.1 then true else listed.getD j d:=fun j d=>by
     simp only[Array.getD_eq_getD_getElem?,Array.getElem?_setIfInBounds]
     by_cases hj:p.1=j
     ·subst hj;simp[show p.1<listed.size by omega]
     ·simp[hj,Ne.symm hj]
    refine ih (X++Y) (listed.setIfInBounds p.1 true) s1 g' a' w' (by simp at hlen ⊢;omega) ?_ ?_ ?_ hrest c' (by simpa using hsz) ?_ ?_ ?_
    ·exact List.pairwise_append.2 ⟨hpw.1,(List.pairwise_cons.1 hpw.2.1).2,fun x hx y hy=>hpw.2.2 x hx y (List.mem_cons_of_mem _ hy)⟩
    ·intro x hx q hq hlt2
     have up:∀ z,z∈X++Y->z∈X++p::Y:=fun z hz=>by
      rcases List.mem_append.1 hz with hz|hz
      ·exact List.mem_append.2 (.inl hz)
      ·exact List.mem_append.2 (.inr (List.mem_cons_of_mem _ hz))
     exact hfree x (up x hx) q (up q hq) hlt2
    ·intro q hq
     refine hmem q ?_
     rcases List.mem_append.1 hq with hz|hz
     ·exact List.mem_append.2 (.inl hz)
     ·exact List.mem_append.2 (.inr (List.mem_cons_of_mem _ hz))
    ·intro n hn
     rw[hgs]
     by_cases hnp:n=p.1
     ·rw[if_pos hnp]
      constructor
      ·intro h;cases h
      ·rintro⟨q,hq,hqn⟩
       rcases List.mem_append.1 hq with hz|hz
       ·have:=hxl q hz;omega
       ·have:=hyl q hz;omega
     ·rw[if_neg hnp,hl n hn]
      constructor
      ·rintro⟨q,hq,hqn⟩
       refine⟨q,?_,hqn⟩
       rcases List.mem_append.1 hq with hz|hz
       ·exact List.mem_append.2 (.inl hz)
       ·rcases List.mem_cons.1 hz with rfl|hz
        ·exact absurd hqn.symm hnp
        ·exact List.mem_append.2 (.inr hz)
      ·rintro⟨q,hq,hqn⟩
       refine⟨q,?_,hqn⟩
       rcases List.mem_append.1 hq with hz|hz
       ·exact List.mem_append.2 (.inl hz)
       ·exact List.mem_append.2 (.inr (List.mem_cons_of_mem _ hz))
    ·intro j d k hj hdj hk
     rw[hgs]at hj ⊢
     by_cases hkp:k=p.1
     ·rw[if_pos hkp]
     ·rw[if_neg hkp]
      by_cases hjp:j=p.1
      ·subst hjp
       rw[hd]at hdj
       obtain rfl:=Option.some.inj hdj
       exact hbits k hk
      ·rw[if_neg hjp]at hj
       exact hclosed j d k hj hdj hk
    ·intro id hid
     rcases hu' id hid with h2|h2
     ·rcases hu id h2 with h3|⟨n,h3,h4,h5⟩
      ·exact .inl h3
      ·refine .inr ⟨n,h3,?_,h5⟩
       rw[hgs];split<;>first|rfl|exact h4
     ·exact .inr ⟨p.1,hlt,by rw[hgs,if_pos rfl],h2.1,h2.2⟩
end
end Go.Proofs.YtfemiipgkhekiaaGreatDoor
namespace Go.Proofs.YtfemiipgkhekiaaGreatDoor
open Go Go.RowKit
set_option linter.unusedSimpArgs false
theorem Zcn:∀ (is L:List Nat),L.Nodup->(addNew L is).Nodup/\∃ r,addNew L is=L++r
 | [],L,h=>⟨h,[],by simp[addNew]⟩
 | i::is,L,h=>by
  by_cases hm:i∈L
  ·have he:addNew L (i::is)=addNew L is:=by simp[addNew,List.foldl_cons,hm]
   rw[he]
   exact Zcn is L h
  ·have h2:(L++[i]).Nodup:=List.nodup_append.2 ⟨h,by simp,fun a ha b hb=>by simp at hb;subst hb;exact fun e=>hm (e ▸ ha)⟩
   obtain⟨h3,r,h4⟩:=Zcn is (L++[i]) h2
   have he:addNew L (i::is)=addNew (L++[i]) is:=by simp[addNew,List.foldl_cons,hm]
   rw[he]
   exact⟨h3,i::r,by rw[h4];simp⟩
theorem Zc6(g:Nat->AV):∀ (ts L:List Nat),L.Nodup->(idsOfSlots g ts L).Nodup/\∃ r,idsOfSlots g ts L=L++r
 | [],L,h=>⟨h,[],by simp[idsOfSlots]⟩
 | t::ts,L,h=>by
  obtain⟨h1,r1,e1⟩:=Zcn (g t).ids L h
  obtain⟨h2,r2,e2⟩:=Zc6 g ts _ h1
  exact⟨h2,r1++r2,by simp only[idsOfSlots];rw[e2,e1];simp⟩
theorem Zbv(hp:Nat->Option AO):∀ (is L:List Nat),L.Nodup->(idsOfBoxes hp is L).Nodup/\∃ r,idsOfBoxes hp is L=L++r
 | [],L,h=>⟨h,[],by simp[idsOfBoxes]⟩
 | i::is,L,h=>by
  have other:idsOfBoxes hp (i::is) L=idsOfBoxes hp is L->(idsOfBoxes hp (i::is) L).Nodup/\∃ r,idsOfBoxes hp (i::is) L=L++r:=fun e=>by rw[e];exact Zbv hp is L h
  cases ho:hp i with
  | none=>exact other (by simp[idsOfBoxes,ho])
  | some o =>
   cases o with
   | box cells =>
    obtain⟨h1,r1,e1⟩:=Zcn (cells.flatMap AV.id?) L h
    obtain⟨h2,r2,e2⟩:=Zbv hp is _ h1
    have e:idsOfBoxes hp (i::is) L=idsOfBoxes hp is (addNew L (cells.flatMap AV.id?)):=by simp[idsOfBoxes,ho]
    rw[e]
    exact⟨h2,r1++r2,by rw[e2,e1];simp⟩
   | arr sz xs=>exact other (by simp[idsOfBoxes,ho])
   | map kb kvs=>exact other (by simp[idsOfBoxes,ho])
theorem Zeu(h:Nat->Option AO)(L:List Nat):∀ (is:List Nat) (n k:Nat),rnHeap h L is n k=if n<=k then (is[k-n]?).bind fun i=>(h i).map (rnO L) else none
 | [],n,k=>by simp[rnHeap]
 | i::is,n,k=>by
  simp only[rnHeap,upd]
  by_cases hk:k=n
  ·subst hk;simp
  ·rw[if_neg hk,Zeu h L is (n+1) k]
   by_cases h2:n<=k
   ·rw[if_pos (by omega),if_pos h2,show k-n=(k-(n+1))+1 by omega];simp
   ·rw[if_neg (by omega),if_neg h2]
theorem Zgj(g:Nat->AV)(L:List Nat):∀ (ts:List Nat) (k:Nat),rnSlots g L ts k=if k∈ts then rnV L (g k) else .any
 | [],k=>by simp[rnSlots]
 | t::ts,k=>by
  simp only[rnSlots,upd,List.mem_cons]
  by_cases hk:k=t
  ·subst hk;simp
  ·rw[if_neg hk,Zgj g L ts k];simp[hk]
theorem Zd5(g:Nat->AV):∀ (ts:List Nat) (k:Nat),keepSlots g ts k=if k∈ts then g k else .any
 | [],k=>by simp[keepSlots]
 | t::ts,k=>by
  simp only[keepSlots,upd,List.mem_cons]
  by_cases hk:k=t
  ·subst hk;simp
  ·rw[if_neg hk,Zd5 g ts k];simp[hk]
def normGh(g:Gh)(L:List Nat):Gh:=⟨fun i=>g.v (L.getD i 0),fun i=>g.fp (L.getD i 0),g.I,g.N,fun i=>i<L.length⟩
theorem Zd1{L:List Nat}{id:Nat}(h:L.contains id=true):L.idxOf id<L.length/\L[L.idxOf id]?=some id/\L.getD (L.idxOf id) 0=id:=by
 have hm:id∈L:=by simpa using h
 have hlt:L.idxOf id<L.length:=List.idxOf_lt_length_iff.2 hm
 have hg:L[L.idxOf id]?=some id:=by rw[List.getElem?_eq_getElem hlt,List.getElem_idxOf hlt]
 exact⟨hlt,hg,by simp[List.getD,hg]⟩
section
variable {num:Nat->Option FuncId} {w:World} {R:Nat->Prop} {g:Gh} {h:Nat->Option AO} {ep:Nat} {L:List Nat}
def AV.flat:AV->Bool
 | .agg _=>false
 | .tup _=>false
 | _=>true
theorem Zp4(o:AO):o.alike (rnO L o):=by cases o<;>simp[rnO,AO.alike]
theorem Zl5{u:Value}{c:AV}(hr:SRel num w R g h ep u c)(hf:c.flat=true):SRel num w R (normGh g L) (rnHeap h L L 0) 0 u (rn1 L c):=by
 have look:∀ id,L.contains id=true->∀ o',rnHeap h L L 0 (L.idxOf id)=some o'->∃ o,h id=some o/\o'=rnO L o/\(normGh g L).v (L.idxOf id)=g.v id:=by
  intro id hc o' ho
  obtain⟨_,h2,h3⟩:=Zd1 hc
  rw[Zeu,if_pos (Nat.zero_le _),Nat.sub_zero,h2,Option.bind_some]at ho
  cases hh:h id with
  | none=>rw[hh]at ho;cases ho
  | some o=>rw[hh]at ho;exact⟨o,rfl,(Option.some.inj ho).symm,by simp only[normGh,h3]⟩
 cases hr with
 | any v=>exact .any _
 | bool b=>exact .bool _
 | int k n=>exact .int _ _
 | str s=>exact .str _
 | nil sz=>exact .nil _
 | sl v m sz xs h1 hm hlim hown =>
  cases m with
  | own=>exact absurd rfl hown
  | imm=>exact .sl _ _ _ _ h1 (fun _=>hm rfl) (fun e he=>by cases he) (by simp)
  | bor=>exact .sl _ _ _ _ h1 (fun _=>hm rfl) (fun e he=>by cases he) (by simp)
  | snap e=>exact .any _
 | ref id v h1 hu hv =>
  simp only[rn1]
  split
  ·rename_i hc
   refine .ref _ _ h1 (Zd1 hc).1 (fun o' ho=>?_)
   obtain⟨o,h2,_,h3⟩:=look id hc o' ho
   rw[h3];exact hv o h2
  ·exact .any _
 | view id lo len v h1 hu hv =>
  simp only[rn1]
  split
  ·rename_i hc
   refine .view _ _ _ _ h1 (Zd1 hc).1 (fun sz xs ho=>?_)
   obtain⟨o,h2,h4,h3⟩:=look id hc _ ho
   rw[h3]
   cases o<;>simp only[rnO,reduceCtorEq]at h4
   cases h4
   exact hv _ _ h2
  ·exact .any _
 | ptr id i off v h1 hu hv =>
  simp only[rn1]
  split
  ·rename_i hc
   refine .ptr _ _ _ _ h1 (Zd1 hc).1 (fun o' ho=>?_)
   obtain⟨o,h2,h4,h3⟩:=look id hc _ ho
   rw[h3]
   have hp:=hv o h2
   subst h4
   cases o<;>exact hp
  ·exact .any _
 | bptr m row off v h1 hlim hm =>
  cases m with
  | own=>exact .bptr _ _ _ _ h1 (fun e he=>by cases he) (fun hok=>by simp[Md.ok]at hok)
  | imm=>exact .bptr _ _ _ _ h1 (fun e he=>by cases he) (fun _=>hm rfl)
  | bor=>exact .bptr _ _ _ _ h1 (fun e he=>by cases he) (fun _=>hm rfl)
  | snap e=>exact .any _
 | mapr id v h1 hu hv =>
  simp only[rn1]
  split
  ·rename_i hc
   refine .mapr _ _ h1 (Zd1 hc).1 (fun o' ho=>?_)
   obtain⟨o,h2,_,h3⟩:=look id hc o' ho
   rw[h3];exact hv o h2
  ·exact .any _
 | fn k f hk=>exact .fn k f hk
 | inn e id i off v h1 hu hle hv=>exact .any _
 | inp e id i off j sz v h1 hu hle hv=>exact .any _
 | ifs=>exact .any _
 | clo=>exact .any _
 | cut=>exact .any _
 | agg vs cs hl h1 hc=>simp[AV.flat]at hf
 | tup vs cs hl hc=>simp[AV.flat]at hf
theorem SRel.flat_of{u:Value}{c:AV}(hr:SRel num w R g h ep u c)(h1:u.oneCell'=true):c.flat=true:=by
 cases hr with
 | agg=>simp[Value.oneCell']at h1
 | tup=>simp[Value.oneCell']at h1
 | _=>rfl
theorem Zup{u:Value}{c:AV}(hr:SRel num w R g h ep u c):SRel num w R (normGh g L) (rnHeap h L L 0) 0 u (rnV L c):=by
 by_cases hf:c.flat=true
 ·have e:rnV L c=rn1 L c:=by cases c<;>first|rfl|simp[AV.flat]at hf
  rw[e]
  exact Zl5 hr hf
 ·cases hr with
  | agg vs cs hl h1 hc =>
   refine .agg _ _ (by simpa using hl) h1 (fun i v d hv hd=>?_)
   rw[List.getElem?_map]at hd
   cases hci:cs[i]? with
   | none=>rw[hci]at hd;cases hd
   | some c0 =>
    rw[hci]at hd
    simp only[Option.map_some,Option.some.injEq]at hd
    subst hd
    have h2:=hc i v c0 hv hci
    exact Zl5 h2 (h2.flat_of (h1 i v hv))
  | tup vs cs hl hc =>
   simp only[rnV]
   split
   ·rename_i he
    have hcs:cs=[]:=by simpa using he
    subst hcs
    have hvs:vs=#[]:=by
     have:vs.size=0:=by simpa using hl
     exact Array.eq_empty_of_size_eq_zero this
    subst hvs
    exact .tup #[] [] rfl (fun i v c hv=>by simp at hv)
   ·exact .any _
  | _=>simp[AV.flat]at hf
end
section
variable {cx:Cx} {nt:Nat}
theorem Zsx{h:Nat->Option AO}{ep:Nat}{g:Gh}{w:World}{L:List Nat}(m:Mem cx h ep g w)(hnd:L.Nodup)(hpre:∃ r,L=List.range cx.base++r):Mem cx (rnHeap h L L 0) 0 (normGh g L) w:=by
 have look:∀ k o',rnHeap h L L 0 k=some o'->∃ i o,L[k]?=some i/\L.getD k 0=i/\h i=some o/\o'=rnO L o:=by
  intro k o' ho
  rw[Zeu,if_pos (Nat.zero_le _),Nat.sub_zero]at ho
  cases hk:L[k]? with
  | none=>rw[hk]at ho;cases ho
  | some i =>
   rw[hk,Option.bind_some]at ho
   cases hh:h i with
   | none=>rw[hh]at ho;cases ho
   | some o=>rw[hh]at ho;exact⟨i,o,rfl,by simp[List.getD,hk],hh,(Option.some.inj ho).symm⟩
 obtain⟨r,hr⟩:=hpre
 have hbase:∀ k,k<cx.base->L[k]?=some k/\L.getD k 0=k/\k<L.length:=fun k hk=>by
  have h1:L[k]?=some k:=by rw[hr,List.getElem?_append_left (by simpa using hk)];simp[hk]
  exact⟨h1,by simp[List.getD,h1],(List.getElem?_eq_some_iff.1 h1).1⟩
 refine⟨?_,?_,?_,?_,m.I_lt,m.I_up,m.I_new,m.I_N,m.N_up,m.N_new,fun k hk=>(hbase k hk).2.2,?_,m.N_lt,m.R_old,m.I_old,m.frame,m.fz,m.srt⟩
 ·intro k o' ho
  obtain⟨i,o,h1,h2,h3,rfl⟩:=look k o' ho
  have hm:=m.objs i o h3
  simp only[normGh,h2]
  cases o with
  | arr sz xs=>exact hm
  | box cells =>
   obtain⟨b,cur,e,h4,h5,h6,h7,h8,h9⟩:=hm
   refine⟨b,cur,e,h4,h5,by simpa using h6,h7,h8,fun j u c hu hc=>?_⟩
   rw[List.getElem?_map]at hc
   cases hcj:cells[j]? with
   | none=>rw[hcj]at hc;cases hc
   | some c0 =>
    rw[hcj]at hc
    simp only[Option.map_some,Option.some.injEq]at hc
    subst hc
    obtain⟨h10,h11⟩:=h9 j u c0 hu hcj
    exact⟨h10,Zl5 h11 (h11.flat_of h10)⟩
  | map kb kvs =>
   obtain⟨b,es,cl,l,h4,h5,h6,h7,hkl,h8,h9⟩:=hm
   refine⟨b,es,cl,l,h4,h5,h6,h7,hkl,h8,fun j e k c he hc=>?_⟩
   obtain⟨h10,h13,h11,h12⟩:=h9 j e k c he hc
   refine⟨h10,h13,h11,?_⟩
   generalize e.val=u at h12
   cases h12 with
   | bool=>exact .bool _
   | int=>exact .int _ _
   | str=>exact .str _
   | _=>simp[AV.plain]at h11
 ·intro k o' ho
  obtain⟨i,o,h1,_⟩:=look k o' ho
  exact (List.getElem?_eq_some_iff.1 h1).1
 ·intro k k' o o' b ho ho' hf hf'
  obtain⟨i,o1,h1,h2,h3,_⟩:=look k o ho
  obtain⟨i',o1',h1',h2',h3',_⟩:=look k' o' ho'
  simp only[normGh,h2,h2']at hf hf'
  have:=m.disj i i' o1 o1' b h3 h3' hf hf'
  subst this
  exact Zhk hnd h1 h1'
 ·intro k o b ho hf
  obtain⟨i,o1,h1,h2,h3,_⟩:=look k o ho
  simp only[normGh,h2]at hf
  exact m.mine i o1 b h3 hf
 ·intro k o' hk ho
  obtain⟨i,o,h1,h2,h3,rfl⟩:=look k o' ho
  obtain⟨h4,h5,_⟩:=hbase k hk
  rw[h4]at h1
  obtain rfl:=Option.some.inj h1
  obtain⟨o0,h6,h7,h8⟩:=m.given k o hk h3
  exact⟨o0,h6,h7.trans (Zp4 o),by simp only[normGh,h5];exact h8⟩
theorem Zpz{s:St}{g:Gh}{a:Act}{w:World}(c:Corr cx nt s g a w)(hb:s.base=cx.base)(keep:List Nat) :
  ∃ g',Corr cx nt (s.norm keep) g' a w/\(∀ id,g'.used id->id<(s.norm keep).next)/\(s.norm keep).base=cx.base:=by
 obtain⟨h1,r1,e1⟩:=Zc6 s.slots keep (List.range s.base) List.nodup_range
 obtain⟨h2,r2,e2⟩:=Zbv s.heap (idsOfSlots s.slots keep (List.range s.base)) _ h1
 generalize hL:idsOfBoxes s.heap (idsOfSlots s.slots keep (List.range s.base)) (idsOfSlots s.slots keep (List.range s.base))=L at h2 e2
 have hn:s.norm keep=⟨rnSlots s.slots L keep,rnHeap s.heap L L 0,0,L.length,s.base⟩:=by simp only[St.norm,hL]
 refine⟨normGh g L,?_,?_,by rw[hn];exact hb⟩
 ·rw[hn]
  refine⟨c.size,c.defers,fun t=>?_,Zsx c.mem h2 ⟨r1++r2,by rw[e2,e1,hb];simp⟩⟩
  simp only[Zgj]
  split
  ·exact Zup (c.slots t)
  ·exact .any _
 ·rw[hn]
  exact fun id hid=>hid
theorem Zg7{s:St}{g:Gh}{a:Act}{w:World}(c:Corr cx nt s g a w)(keep:List Nat)(n:Nat):Corr cx nt (s.forget keep n) g a w:=by
 refine⟨c.size,c.defers,fun t=>?_,c.mem⟩
 simp only[St.forget,Zd5]
 split
 ·exact c.slots t
 ·exact .any _
theorem Zo3{s:St}{g:Gh}{a:Act}{w:World}(c:Corr cx nt s g a w):Corr cx nt s g a { w with drawn:=w.drawn+1 }:=by
 have t:Touch cx (fun _=>False) s.heap s.ep g w s.heap s.ep g { w with drawn:=w.drawn+1 } :=
  ⟨rfl,rfl,rfl,Nat.le_refl _,Nat.le_refl _,fun _ _=>⟨rfl,fun _=>⟨rfl,rfl⟩⟩,fun _ _ _=>rfl,fun _ h=>h,fun _ _ h=>h.elim,fun _ _ h=>h.elim,fun _ _ _ h=>h.elim,fun _ _ _ _ _ h=>h.elim,fun _ h=>h,fun _ h=>.inl h,c.mem.I_N,fun _ h=>h,fun _ h=>.inl h,fun _ _ _=>rfl⟩
 exact⟨c.size,c.defers,fun k=>(c.slots k).mono (t.keeps c.mem),t.mem c.mem (fun _ _ h=>h.elim)⟩
end
end Go.Proofs.YtfemiipgkhekiaaGreatDoor
namespace Go.Proofs.YtfemiipgkhekiaaGreatDoor
open Go Go.RowKit
set_option linter.unusedSimpArgs false
def chkCode(P:Program)(num:Nat->Option FuncId)(nt:Nat):CCode->Code->Bool
 | .skip,.skip=>true
 | .region cops _,.region _ ops false=>chkOps P num nt ops ops.toList cops
 | .quiet cops _,.region _ ops true=>chkOps P num nt ops ops.toList cops && (chkDeps (depsFrom [] ops.toList) 0 ops.toList (depsFrom [] ops.toList) && slotsClear 0 cops (depsFrom [] ops.toList))
 | .loud cops deps _,.region _ ops true=>chkOps P num nt ops ops.toList cops && (chkDeps deps 0 ops.toList deps && slotsClear 0 cops deps)
 | .seq a b,.seq x y=>chkCode P num nt a x && chkCode P num nt b y
 | .cond y a b,.cond x c d=>opdB num x y && (chkCode P num nt a c && chkCode P num nt b d)
 | .block id b,.block id' c=>id == id' && chkCode P num nt b c
 | .loop _ b,.loop c=>chkCode P num nt b c
 | .exit id,.exit id'=>id == id'
 | .ret,.ret=>true
 | _,_=>false
def AExit.ex:AExit->Exit
 | .normal=>.normal
 | .exit id=>.exit id
 | .ret=>.ret
def Good(cx:Cx)(nt:Nat)(s:St)(a:Act)(w:World):Prop:=∃ g,Corr cx nt s g a w/\(∀ id,g.used id->id<s.next)/\s.base=cx.base
section
variable {cx:Cx} {nt:Nat} {cl:Callee}
theorem Zgi:∀ {is:List CIns} {key:Nat} {s s':St},runIns cl is key s=some s'->s'.base=s.base
 | [],key,s,s',h=>by simp only[runIns,Option.some.injEq]at h;rw[h]
 | i::is,key,s,s',h=>by
  simp only[runIns]at h
  cases h1:stepIns cl i key s with
  | none=>rw[h1]at h;cases h
  | some s1 =>
   rw[h1]at h
   rw[Zgi h]
   obtain⟨t,ht⟩:=Zfr h1
   obtain⟨v,ws,b,rfl,_⟩:=Zc8 ht
   rfl
theorem Zf1:∀ {is:List CIns} {key:Nat} {s s':St} {ts:List Tr},runLoud cl is key s=some (s',ts)->s'.base=s.base
 | [],key,s,s',ts,h=>by simp only[runLoud,Option.some.injEq,Prod.mk.injEq]at h;rw[h.1]
 | i::is,key,s,s',ts,h=>by
  simp only[runLoud]at h
  cases h1:stepLoud cl i key s with
  | none=>rw[h1]at h;cases h
  | some p =>
   obtain⟨s1,t⟩:=p
   rw[h1]at h
   simp only at h
   cases h2:runLoud cl is (key+64) s1 with
   | none=>rw[h2]at h;cases h
   | some q =>
    obtain⟨s2,ts'⟩:=q
    rw[h2]at h
    simp only[Option.some.injEq,Prod.mk.injEq]at h
    rw[<- h.1,Zf1 h2]
    obtain⟨v,ws,b,rfl,_⟩:=Zc8 h1
    rfl
theorem Zgm{deps:List Nat}:∀ {n:Nat} {os:List Oper} {ds:List Nat},chkDeps deps n os ds=true->ds.length=os.length
 | n,[],[],_=>rfl
 | n,o::os,d::ds,h=>by
  simp only[chkDeps,Bool.and_eq_true]at h
  simp[Zgm h.2.2]
 | _,[],_::_,h=>by cases h
 | _,_::_,[],h=>by cases h
theorem Zk5(hm:cx.P.follows .mixedOrders=true)(hK:Known cx cl){id:Nat}{ops:Array Oper}{cops:List CIns}{deps:List Nat}{s s':St}{ts:List Tr}{a:Act}{w:World}{Q:Exit->Act->World->Prop}(hc:chkOps cx.P cx.num nt ops ops.toList cops=true)
  (hd:chkDeps deps 0 ops.toList deps=true) (hfree:Free deps (items 0 cops ts)) (hrun:runLoud cl cops s.next s=some (s',ts)) (hg:Good cx nt s a w) (keep:List Nat)
  (hq:∀ a' w',Good cx nt (s'.forget keep (s.next+64*cops.length)) a' w'->Q .normal a' w'):(Code.region id ops true).wp cx.P Q a w:=by
 obtain⟨g,c,hu,hb⟩:=hg
 obtain⟨hl,hops⟩:=Ze8 hc
 rw[Array.length_toList]at hl
 obtain⟨htl,hR⟩:=Zec (k0:=s.next) (n:=0) (by rw[Nat.mul_zero,Nat.add_zero];exact hrun)
 have hdl:=Zgm hd
 rw[Array.length_toList]at hdl
 refine wp_region_any hm (Zsk hK (deps:=deps) (cops:=cops) (k0:=s.next) (sF:=s') hdl (fun n i hi=>?_) hl.symm (fun j o d ho hdj=>?_) (fun g' a' w' c' hu'=>hq a' w' ⟨g',Zg7 c' keep _,fun id hid=>?_,?_⟩)
  ops.size (items 0 cops ts) (Array.replicate ops.size false) s g a _ ?_ Zfi hfree (fun p hp=>?_) hR (Zo3 c) (by simp) (fun n hn=>?_) (fun j d k hj=>?_) (fun id hid=>.inl (hu id hid)))
 ·obtain⟨o,h1,h2⟩:=hops n i hi
  exact⟨o,by simpa using h1,h2⟩
 ·have:=Zg3 hd j o d (by simpa using ho) hdj
  rwa [Nat.zero_add]at this
 ·show id<s.next+64*cops.length
  rw[<- hl];exact hu' id hid
 ·show s'.base=cx.base
  rw[Zf1 hrun];exact hb
 ·have h1:=congrArg List.length (Zey (n:=0) htl)
  simp only[List.length_map,List.length_range']at h1
  omega
 ·obtain⟨j,h1,h2,_⟩:=Zby hp
  rw[h1,Nat.zero_add];exact h2
 ·have h1:(Array.replicate ops.size false).getD n true=false:=by simp[hn]
  refine⟨fun _=>?_,fun _=>h1⟩
  have h2:=Zey (n:=0) htl
  have h3:n∈(items 0 cops ts).map (·.1):=by rw[h2,List.mem_range'_1];omega
  obtain⟨p,hp,hpn⟩:=List.mem_map.1 h3
  exact⟨p,hp,hpn⟩
 ·have h1:(Array.replicate ops.size false).getD j false=false:=by
   by_cases h:j<ops.size<;>simp[h]
  rw[h1]at hj
  cases hj
theorem Zgk{c:Code}{Q:Exit->Act->World->Prop}{f:St->Option (AExit×St)}{keep:List Nat}{ex:AExit}{s':St}
  (hbody:∀ s ex' s1 a w (Q':Exit->Act->World->Prop),f s=some (ex',s1)->Good cx nt s a w->(∀ a' w',Good cx nt s1 a' w'->Q' ex'.ex a' w')->c.wp cx.P Q' a w)
  (hq:∀ a' w',Good cx nt s' a' w'->Q ex.ex a' w'):∀ (n:Nat) (s:St) (a:Act) (w:World),rounds f keep n s=some (ex,s')->Good cx nt s a w->Code.rounds cx.P c Q n a w
 | 0,s,a,w,h,_=>by simp[rounds]at h
 | n+1,s,a,w,h,hg=>by
  obtain⟨g,hc,_,hb⟩:=hg
  obtain⟨g',hc',hu',hb'⟩:=Zpz hc hb keep
  have hgn:Good cx nt (s.norm keep) a w:=⟨g',hc',hu',hb'⟩
  simp only[rounds]at h
  rw[rounds_succ]
  cases hf:f (s.norm keep) with
  | none=>rw[hf]at h;cases h
  | some p =>
   obtain⟨ex',s1⟩:=p
   rw[hf]at h
   refine hbody (s.norm keep) ex' s1 a w _ hf hgn (fun a' w' hg1=>?_)
   cases ex' with
   | normal=>exact Zgk hbody hq n s1 a' w' h hg1
   | exit id =>
    simp only[Option.some.injEq,Prod.mk.injEq]at h
    obtain⟨rfl,rfl⟩:=h
    exact hq a' w' hg1
   | ret =>
    simp only[Option.some.injEq,Prod.mk.injEq]at h
    obtain⟨rfl,rfl⟩:=h
    exact hq a' w' hg1
theorem Zbz(hm:cx.P.follows .mixedOrders=true)(hK:Known cx cl):∀ (cc:CCode) (c:Code),chkCode cx.P cx.num nt cc c=true->∀ (s:St) (ex:AExit) (s':St) (a:Act) (w:World) (Q:Exit->Act->World->Prop),runCode cl cc s=some (ex,s')->Good cx nt s a w ->
  (∀ a' w',Good cx nt s' a' w'->Q ex.ex a' w')->c.wp cx.P Q a w
 | .skip,c,hc,s,ex,s',a,w,Q,h,hg,hq=>by
  cases c<;>simp only[chkCode,Bool.false_eq_true]at hc
  simp only[runCode,Option.some.injEq,Prod.mk.injEq]at h
  obtain⟨rfl,rfl⟩:=h
  exact wp_skip (hq a w hg)
 | .ret,c,hc,s,ex,s',a,w,Q,h,hg,hq=>by
  cases c<;>simp only[chkCode,Bool.false_eq_true]at hc
  simp only[runCode,Option.some.injEq,Prod.mk.injEq]at h
  obtain⟨rfl,rfl⟩:=h
  exact wp_ret (hq a w hg)
 | .exit id,c,hc,s,ex,s',a,w,Q,h,hg,hq=>by
  cases c<;>simp only[chkCode,Bool.false_eq_true,beq_iff_eq]at hc
  subst hc
  simp only[runCode,Option.some.injEq,Prod.mk.injEq]at h
  obtain⟨rfl,rfl⟩:=h
  exact wp_exit (hq a w hg)
 | .region cops keep,c,hc,s,ex,s',a,w,Q,h,hg,hq=>by
  cases c<;>try (simp only[chkCode,Bool.false_eq_true]at hc;done)
  rename_i id ops draw
  cases draw<;>simp only[chkCode,Bool.false_eq_true]at hc
  simp only[runCode]at h
  cases h1:runIns cl cops s.next s with
  | none=>rw[h1]at h;cases h
  | some s1 =>
   rw[h1]at h
   simp only[Option.some.injEq,Prod.mk.injEq]at h
   obtain⟨rfl,rfl⟩:=h
   obtain⟨g,hcr,hu,hb⟩:=hg
   obtain⟨hl,hops⟩:=Ze8 hc
   rw[Array.length_toList]at hl
   refine wp_region ?_
   rw[List.range_eq_range',hl]
   refine Zmp hK h1 rfl (fun j i hj=>?_) hcr hu (fun g' a' w' c' hu'=>hq a' w' ⟨g',Zg7 c' keep _,hu',?_⟩)
   ·obtain⟨o,h2,h3⟩:=hops j i hj
    exact⟨o,by simpa using h2,h3⟩
   ·show s1.base=cx.base
    rw[Zgi h1];exact hb
 | .quiet cops keep,c,hc,s,ex,s',a,w,Q,h,hg,hq=>by
  cases c<;>try (simp only[chkCode,Bool.false_eq_true]at hc;done)
  rename_i id ops draw
  cases draw<;>simp only[chkCode,Bool.false_eq_true,Bool.and_eq_true]at hc
  simp only[runCode]at h
  cases h1:runQuiet cl cops s.next s with
  | none=>rw[h1]at h;cases h
  | some s1 =>
   rw[h1]at h
   simp only[Option.some.injEq,Prod.mk.injEq]at h
   obtain⟨rfl,rfl⟩:=h
   obtain⟨ts,h2,h3⟩:=Zd9 h1
   exact Zk5 hm hK hc.1 hc.2.1 (Zor h3 hc.2.2) h2 hg keep hq
 | .loud cops deps keep,c,hc,s,ex,s',a,w,Q,h,hg,hq=>by
  cases c<;>try (simp only[chkCode,Bool.false_eq_true]at hc;done)
  rename_i id ops draw
  cases draw<;>simp only[chkCode,Bool.false_eq_true,Bool.and_eq_true]at hc
  simp only[runCode]at h
  cases h1:runLoud cl cops s.next s with
  | none=>rw[h1]at h;cases h
  | some p =>
   obtain⟨s1,ts⟩:=p
   rw[h1]at h
   simp only at h
   split at h
   case isFalse=>cases h
   rename_i hclear
   simp only[Option.some.injEq,Prod.mk.injEq]at h
   obtain⟨rfl,rfl⟩:=h
   exact Zk5 hm hK hc.1 hc.2.1 (Zoj hclear hc.2.2) h1 hg keep hq
 | .seq x y,c,hc,s,ex,s',a,w,Q,h,hg,hq=>by
  cases c<;>simp only[chkCode,Bool.false_eq_true,Bool.and_eq_true]at hc
  simp only[runCode]at h
  cases h1:runCode cl x s with
  | none=>rw[h1]at h;cases h
  | some p =>
   obtain⟨ex1,s1⟩:=p
   rw[h1]at h
   refine wp_seq (Zbz hm hK x _ hc.1 s ex1 s1 a w _ h1 hg (fun a' w' hg'=>?_))
   cases ex1 with
   | normal=>exact Zbz hm hK y _ hc.2 s1 ex s' a' w' Q h hg' hq
   | exit id =>
    simp only[Option.some.injEq,Prod.mk.injEq]at h
    obtain⟨rfl,rfl⟩:=h
    exact hq a' w' hg'
   | ret =>
    simp only[Option.some.injEq,Prod.mk.injEq]at h
    obtain⟨rfl,rfl⟩:=h
    exact hq a' w' hg'
 | .cond y x z,c,hc,s,ex,s',a,w,Q,h,hg,hq=>by
  cases c<;>simp only[chkCode,Bool.false_eq_true,Bool.and_eq_true]at hc
  simp only[runCode]at h
  obtain⟨g,hcr,hu,hb⟩:=hg
  have hr:=Zde hcr hc.1
  generalize y.ev s.slots=c1 at h hr
  rename_i xo _ _
  generalize hx:a.eval xo=v1 at hr
  cases c1<;>try (cases h;done)
  rename_i t
  cases hr
  cases t with
  | true=>exact wp_cond_true hx (Zbz hm hK x _ hc.2.1 s ex s' a w Q h ⟨g,hcr,hu,hb⟩ hq)
  | false=>exact wp_cond_false hx (Zbz hm hK z _ hc.2.2 s ex s' a w Q h ⟨g,hcr,hu,hb⟩ hq)
 | .block id x,c,hc,s,ex,s',a,w,Q,h,hg,hq=>by
  cases c<;>simp only[chkCode,Bool.false_eq_true,Bool.and_eq_true,beq_iff_eq]at hc
  obtain⟨rfl,hc⟩:=hc
  simp only[runCode]at h
  cases h1:runCode cl x s with
  | none=>rw[h1]at h;cases h
  | some p =>
   obtain⟨ex1,s1⟩:=p
   rw[h1]at h
   refine wp_block (Zbz hm hK x _ hc s ex1 s1 a w _ h1 hg (fun a' w' hg'=>?_))
   cases ex1 with
   | normal =>
    simp only[Option.some.injEq,Prod.mk.injEq]at h
    obtain⟨rfl,rfl⟩:=h
    exact hq a' w' hg'
   | exit i =>
    simp only at h
    simp only[AExit.ex,Exit.inBlock]
    split at h
    ·simp only[Option.some.injEq,Prod.mk.injEq]at h
     obtain⟨rfl,rfl⟩:=h
     rw[if_pos ‹_›]
     exact hq a' w' hg'
    ·simp only[Option.some.injEq,Prod.mk.injEq]at h
     obtain⟨rfl,rfl⟩:=h
     rw[if_neg ‹_›]
     exact hq a' w' hg'
   | ret =>
    simp only[Option.some.injEq,Prod.mk.injEq]at h
    obtain⟨rfl,rfl⟩:=h
    exact hq a' w' hg'
 | .loop keep x,c,hc,s,ex,s',a,w,Q,h,hg,hq=>by
  cases c<;>simp only[chkCode,Bool.false_eq_true]at hc
  simp only[runCode]at h
  exact wp_loop_rounds big (Zgk (fun s ex' s1 a w Q' hf hg' hq'=>Zbz hm hK x _ hc s ex' s1 a w Q' hf hg' hq') hq big s a w h hg)
end
end Go.Proofs.YtfemiipgkhekiaaGreatDoor
namespace Go.Proofs.YtfemiipgkhekiaaGreatDoor
open Go Go.RowKit
set_option linter.unusedSimpArgs false
def chkRes(P:Program):List ResultVar->List CRes->Bool
 | [],[]=>true
 | .tmp t::rs,.tmp t'::cs=>t == t' && chkRes P rs cs
 | .cell t ty::rs,.cell t' sz agg::cs=>t == t' && (sizeB P ty (fun i=>decide (i.size=sz)) && ((match P.underlying ty with|some d=>aggB d == agg && (aggB d || sz == 1)|none=>false) && chkRes P rs cs))
 | _,_=>false
def chkFn(P:Program)(num:Nat->Option FuncId)(fn:Func)(c:CFn):Bool :=
 (fn.name != "runtime.NumGoroutine") && (fn.ntmps == c.nt && (match fn.body with|some b => chkCode P num c.nt c.body b && chkRes P fn.results.toList c.res|none => false))
section
variable {cx:Cx} {h:Nat->Option AO} {ep:Nat} {g:Gh} {w:World}
def Fp(h:Nat->Option AO)(g:Gh)(is:List Nat)(x:Nat):Prop:=∃ i o,i∈is/\h i=some o/\g.fp i x
theorem Fp.apart(m:Mem cx h ep g w){is js:List Nat}(hd:∀ i∈is,i ∉ js){x:Nat}(h1:Fp h g is x)(h2:Fp h g js x):False:=by
 obtain⟨i,o,hi,ho,hf⟩:=h1
 obtain⟨j,o',hj,ho',hf'⟩:=h2
 exact hd i hi (m.disj i j o o' x ho ho' hf hf' ▸ hj)
theorem Fp.mono{is js:List Nat}(hs:∀ i∈is,i∈js){x:Nat}(h1:Fp h g is x):Fp h g js x:=by
 obtain⟨i,o,hi,ho,hf⟩:=h1
 exact⟨i,o,hs i hi,ho,hf⟩
theorem Zkj(m:Mem cx h ep g w){u:Value}{c d:AV}{is:List Nat}(hr:SRel cx.num w cx.R g h ep u c)(hs:shut1 h c=some (d,is)) :
  ∃ S,Cl w g.I u d S/\(∀ x,S x->Fp h g is x)/\(∀ x,S x->g.N x)/\∀ i∈is,∃ sz xs,h i=some (.arr sz xs):=by
 have none_:∀ {u d},Cl w g.I u d (fun _=>False)->∃ S,Cl w g.I u d S/\(∀ x,S x->Fp h g [] x)/\(∀ x,S x->g.N x)/\∀ i∈([]:List Nat),∃ sz xs,h i=some (.arr sz xs):=fun hc=>⟨_,hc,fun _ h=>h.elim,fun _ h=>h.elim,by simp⟩
 cases c<;>simp only[shut1,reduceCtorEq,Option.some.injEq,Prod.mk.injEq]at hs
 ·obtain⟨rfl,rfl⟩:=hs;cases hr;exact none_ (.bool _ _ (fun _ h=>h))
 ·obtain⟨rfl,rfl⟩:=hs;cases hr;exact none_ (.int _ _ _ (fun _ h=>h))
 ·obtain⟨rfl,rfl⟩:=hs;cases hr;exact none_ (.str _ _ (fun _ h=>h))
 ·rename_i md sz xs
  cases md with
  | own=>cases xs with
   | nil =>
    simp only[Option.some.injEq,Prod.mk.injEq]at hs
    obtain⟨rfl,rfl⟩:=hs
    cases hr with
    | nil=>exact none_ (.nil _ _ (fun _ h=>h))
    | sl _ _ _ _ _ _ _ hown=>exact absurd rfl hown
   | cons _ _=>simp at hs
  | imm =>
   have hb:d=.sl .imm sz xs/\is=[]:=by cases xs<;>simp_all
   obtain⟨rfl,rfl⟩:=hb
   cases hr with
   | sl _ _ _ _ _ hm=>exact none_ (.imm _ _ _ _ (hm rfl) (fun _ h=>h))
  | bor=>cases xs<;>simp at hs
  | snap e=>cases xs<;>simp at hs
 ·rename_i id
  cases hh:h id with
  | none=>rw[hh]at hs;cases hs
  | some ob =>
   rw[hh]at hs
   cases ob<;>simp only[reduceCtorEq,Option.some.injEq,Prod.mk.injEq]at hs
   obtain⟨rfl,rfl⟩:=hs
   cases hr with
   | ref _ _ _ _ hv =>
    rw[hv _ hh]
    obtain⟨h1,h2⟩:=m.objs id _ hh
    exact⟨_,h1,fun x hx=>⟨id,_,by simp,hh,hx⟩,h2,fun i hi=>by rw[List.mem_singleton.1 hi];exact⟨_,_,hh⟩⟩
theorem Zqr(m:Mem cx h ep g w){u:Value}{c d:AV}{is:List Nat}(h1:u.oneCell'=true)(hr:SRel cx.num w cx.R g h ep u c)(hs:shutC h c=some (d,is)) :
  ∃ S,Cl w g.I u d S/\(∀ x,S x->Fp h g is x)/\(∀ x,S x->g.N x)/\∀ i∈is,∃ sz xs,h i=some (.arr sz xs):=by
 by_cases ha:c=.any
 ·subst ha
  simp only[shutC,Option.some.injEq,Prod.mk.injEq]at hs
  obtain⟨rfl,rfl⟩:=hs
  exact⟨fun _=>False,.any _ _ h1 (fun _ h=>h),fun _ h=>h.elim,fun _ h=>h.elim,by simp⟩
 ·have e:shutC h c=shut1 h c:=by cases c<;>first|rfl|exact absurd rfl ha
  exact Zkj m hr (e ▸ hs)
theorem Zgf(m:Mem cx h ep g w):∀ {us:List Value} {cs ds:List AV} {is:List Nat},us.length=cs.length->(∀ (i:Nat) (u:Value) (c:AV),us[i]?=some u->cs[i]?=some c->u.oneCell'=true/\SRel cx.num w cx.R g h ep u c)->shutL h cs=some (ds,is)->is.Nodup ->
  ∃ fs,ClCells w g.I g.N us ds fs/\(∀ i x,i<ds.length->fs i x->Fp h g is x)/\∀ i∈is,∃ sz xs,h i=some (.arr sz xs)
 | [],[],ds,is,_,_,hs,_=>by
  simp only[shutL,Option.some.injEq,Prod.mk.injEq]at hs
  obtain⟨rfl,rfl⟩:=hs
  exact⟨fun _ _=>False,⟨rfl,fun i u c hu=>by simp at hu,fun i x hi=>by simp at hi,fun i j x hi=>by simp at hi⟩,fun i x hi=>by simp at hi,by simp⟩
 | [],_::_,_,_,hl,_,_,_=>by simp at hl
 | _::_,[],_,_,hl,_,_,_=>by simp at hl
 | u::us,c::cs,ds,is,hl,hr,hs,hn=>by
  simp only[shutL]at hs
  cases h1:shutC h c with
  | none=>rw[h1]at hs;cases hs
  | some p =>
   obtain⟨d,i1⟩:=p
   rw[h1]at hs
   simp only at hs
   cases h2:shutL h cs with
   | none=>rw[h2]at hs;cases hs
   | some q =>
    obtain⟨ds',i2⟩:=q
    rw[h2]at hs
    simp only[Option.some.injEq,Prod.mk.injEq]at hs
    obtain⟨rfl,rfl⟩:=hs
    obtain⟨n1,n2,n3⟩:=List.nodup_append.1 hn
    obtain⟨S,a1,a2,a3,a4⟩:=Zqr m (hr 0 u c rfl rfl).1 (hr 0 u c rfl rfl).2 h1
    obtain⟨fs,b1,b2,b3⟩:=Zgf m (by simpa using hl) (fun i v e hv he=>hr (i+1) v e (by simpa using hv) (by simpa using he)) h2 n2
    have hdis:∀ i∈i1,i ∉ i2:=fun i h3 h4=>n3 i h3 i h4 rfl
    refine⟨fun k=>match k with|0=>S|k+1=>fs k,⟨by simp[b1.size],fun k v e hv he=>?_,fun k x hk hx=>?_,fun k l x hk hl' hx hx'=>?_⟩,fun k x hk hx=>?_,fun i hi=>?_⟩
    ·cases k with
     | zero=>simp only[List.getElem?_cons_zero,Option.some.injEq]at hv he;subst hv;subst he;exact a1
     | succ k=>exact b1.cl k v e (by simpa using hv) (by simpa using he)
    ·cases k with
     | zero=>exact a3 x hx
     | succ k=>exact b1.inN k x (by simpa using hk) hx
    ·cases k with
     | zero=>cases l with
      | zero=>rfl
      | succ l=>exact (Fp.apart m hdis (a2 x hx) (b2 l x (by simpa using hl') hx')).elim
     | succ k=>cases l with
      | zero=>exact (Fp.apart m hdis (a2 x hx') (b2 k x (by simpa using hk) hx)).elim
      | succ l=>exact congrArg (·+1) (b1.dis k l x (by simpa using hk) (by simpa using hl') hx hx')
    ·cases k with
     | zero=>exact (a2 x hx).mono fun i hi=>List.mem_append.2 (.inl hi)
     | succ k=>exact (b2 k x (by simpa using hk) hx).mono fun i hi=>List.mem_append.2 (.inr hi)
    ·rcases List.mem_append.1 hi with h3|h3
     ·exact a4 i h3
     ·exact b3 i h3
theorem Zmo(m:Mem cx h ep g w){id:Nat}{cells ds:List AV}{is:List Nat}(hh:h id=some (.box cells))(hs:shutL h cells=some (ds,is))(hn:is.Nodup) :
  ∃ S,Shut w g.I g.N (g.v id) (.cellp ds) S/\(∀ x,S x->Fp h g (id::is) x)/\∀ i∈is,∃ sz xs,h i=some (.arr sz xs):=by
 obtain⟨b,cur,e,h1,h2,h3,h4,h5,h6⟩:=m.objs id _ hh
 obtain⟨fs,b1,b2,b3⟩:=Zgf m (us:=cur.toList) (by simpa using h3) (fun i u c hu hc=>⟨(h6 i u c (by simpa using hu) hc).1,(h6 i u c (by simpa using hu) hc).2⟩) hs hn
 refine⟨fun x=>x=b\/∃ i,i<ds.length/\fs i x,by rw[h1];exact .cellp b cur e ds fs _ h2 b1 h5 (fun _=>Iff.rfl),?_,b3⟩
 rintro x (rfl|⟨i,hi,hx⟩)
 ·exact⟨id,_,List.mem_cons_self,hh,(h4 _).2 rfl⟩
 ·exact (b2 i x hi hx).mono fun i hi=>List.mem_cons_of_mem _ hi
theorem Zrk(m:Mem cx h ep g w){u:Value}{c d:AV}{is:List Nat}(hr:SRel cx.num w cx.R g h ep u c)(hs:shutV h c=some (d,is))(hn:is.Nodup) :
  ∃ S,Shut w g.I g.N u d S/\(∀ x,S x->Fp h g is x)/\d.isTup=false:=by
 by_cases hv:∃ cs,c=.agg cs
 ·obtain⟨cs,rfl⟩:=hv
  simp only[shutV]at hs
  cases h2:shutL h cs with
  | none=>rw[h2]at hs;cases hs
  | some q =>
   obtain⟨ds,i2⟩:=q
   rw[h2]at hs
   simp only[Option.some.injEq,Prod.mk.injEq]at hs
   obtain⟨rfl,rfl⟩:=hs
   cases hr with
   | agg us _ hl h1 hc =>
    obtain⟨fs,b1,b2,b3⟩:=Zgf m (us:=us.toList) (by simpa using hl) (fun i u c hu hcc=>⟨h1 i u (by simpa using hu),hc i u c (by simpa using hu) hcc⟩) h2 hn
    exact⟨fun x=>∃ i,i<ds.length/\fs i x,.agg us ds fs _ b1 (fun _=>Iff.rfl),fun x ⟨i,hi,hx⟩=>b2 i x hi hx,rfl⟩
 ·by_cases hp:∃ id,c=.ptr id 0 0
  ·obtain⟨id,rfl⟩:=hp
   simp only[shutV]at hs
   cases hh:h id with
   | none=>rw[hh]at hs;cases hs
   | some ob =>
    rw[hh]at hs
    cases ob<;>simp only[reduceCtorEq]at hs
    rename_i cells
    cases h2:shutL h cells with
    | none=>rw[h2]at hs;cases hs
    | some q =>
     obtain⟨ds,i2⟩:=q
     rw[h2]at hs
     simp only[Option.some.injEq,Prod.mk.injEq]at hs
     obtain⟨rfl,rfl⟩:=hs
     obtain⟨S,h3,h4,_⟩:=Zmo m hh h2 (List.nodup_cons.1 hn).2
     cases hr with
     | ptr _ _ _ _ h1 hu hv' =>
      obtain⟨b,h5,h6⟩:=hv' _ hh
      rw[h6,<- h5]
      exact⟨S,h3,h4,rfl⟩
  ·have e1:shutV h c=shut1 h c:=by
    cases c<;>first|rfl|exact absurd ⟨_,rfl⟩ hv|skip
    rename_i id i off
    cases i<;>cases off<;>first|rfl|exact absurd ⟨_,rfl⟩ hp
   rw[e1]at hs
   obtain⟨S,h1,h2,h3,_⟩:=Zkj m hr hs
   refine⟨S,.one _ _ _ h1 h3,h2,?_⟩
   cases h1<;>rfl
theorem Zj6(m:Mem cx h ep g w):∀ {us:List Value} {cs ds:List AV} {is:List Nat},us.length=cs.length->(∀ (i:Nat) (u:Value) (c:AV),us[i]?=some u->cs[i]?=some c->SRel cx.num w cx.R g h ep u c)->shutT h cs=some (ds,is)->is.Nodup ->
  ∃ fs,ShutL w g.I g.N us ds fs/\(∀ i x,i<ds.length->fs i x->Fp h g is x)/\∀ d∈ds,d.isTup=false
 | [],[],ds,is,_,_,hs,_=>by
  simp only[shutT,Option.some.injEq,Prod.mk.injEq]at hs
  obtain⟨rfl,rfl⟩:=hs
  exact⟨fun _ _=>False,⟨rfl,fun i u c hu=>by simp at hu,fun i j x hi=>by simp at hi⟩,fun i x hi=>by simp at hi,by simp⟩
 | [],_::_,_,_,hl,_,_,_=>by simp at hl
 | _::_,[],_,_,hl,_,_,_=>by simp at hl
 | u::us,c::cs,ds,is,hl,hr,hs,hn=>by
  simp only[shutT]at hs
  cases h1:shutV h c with
  | none=>rw[h1]at hs;cases hs
  | some p =>
   obtain⟨d,i1⟩:=p
   rw[h1]at hs
   simp only at hs
   cases h2:shutT h cs with
   | none=>rw[h2]at hs;cases hs
   | some q =>
    obtain⟨ds',i2⟩:=q
    rw[h2]at hs
    simp only[Option.some.injEq,Prod.mk.injEq]at hs
    obtain⟨rfl,rfl⟩:=hs
    obtain⟨n1,n2,n3⟩:=List.nodup_append.1 hn
    obtain⟨S,a1,a2,a3⟩:=Zrk m (hr 0 u c rfl rfl) h1 n1
    obtain⟨fs,b1,b2,b3⟩:=Zj6 m (by simpa using hl) (fun i v e hv he=>hr (i+1) v e (by simpa using hv) (by simpa using he)) h2 n2
    have hdis:∀ i∈i1,i ∉ i2:=fun i h3 h4=>n3 i h3 i h4 rfl
    refine⟨fun k=>match k with|0=>S|k+1=>fs k,⟨by simp[b1.size],fun k v e hv he=>?_,fun k l x hk hl' hx hx'=>?_⟩,fun k x hk hx=>?_,fun e he=>?_⟩
    ·cases k with
     | zero=>simp only[List.getElem?_cons_zero,Option.some.injEq]at hv he;subst hv;subst he;exact a1
     | succ k=>exact b1.sh k v e (by simpa using hv) (by simpa using he)
    ·cases k with
     | zero=>cases l with
      | zero=>rfl
      | succ l=>exact (Fp.apart m hdis (a2 x hx) (b2 l x (by simpa using hl') hx')).elim
     | succ k=>cases l with
      | zero=>exact (Fp.apart m hdis (a2 x hx') (b2 k x (by simpa using hk) hx)).elim
      | succ l=>exact congrArg (·+1) (b1.dis k l x (by simpa using hk) (by simpa using hl') hx hx')
    ·cases k with
     | zero=>exact (a2 x hx).mono fun i hi=>List.mem_append.2 (.inl hi)
     | succ k=>exact (b2 k x (by simpa using hk) hx).mono fun i hi=>List.mem_append.2 (.inr hi)
    ·rcases List.mem_cons.1 he with rfl|he
     ·exact a3
     ·exact b3 e he
/-! ### What was given, at the end -/
def innerIds(h:Nat->Option AO)(k:Nat):List Nat :=
 match h k with
 | some (.box cells)=>match shutL h cells with
  | some (_,is)=>is
  | none=>[]
 | _=>[]
theorem Zb7:∀ {n i:Nat} {js:List Nat},shutBoxes h i n=some js->js=(List.range' i n).flatMap (innerIds h)/\∀ k cells,i<=k->k<i+n->h k=some (.box cells)->∃ ds,shutL h cells=some (ds,innerIds h k)
 | 0,i,js,hs=>by
  simp only[shutBoxes,Option.some.injEq]at hs
  subst hs
  exact⟨by simp,fun k cells h1 h2=>by omega⟩
 | n+1,i,js,hs=>by
  have other:(∀ cells,h i≠some (.box cells))->shutBoxes h i (n+1)=shutBoxes h (i+1) n:=fun hn=>by
   rw[shutBoxes]
   cases ho:h i with
   | none=>rfl
   | some o =>
    cases o with
    | box cells=>exact absurd ho (hn _)
    | arr _ _=>rfl
    | map _ _=>rfl
  by_cases hb:∃ cells,h i=some (.box cells)
  ·obtain⟨cells,ho⟩:=hb
   simp only[shutBoxes,ho]at hs
   cases h1:shutL h cells with
   | none=>rw[h1]at hs;cases hs
   | some p =>
    obtain⟨ds,is⟩:=p
    rw[h1]at hs
    simp only at hs
    cases h2:shutBoxes h (i+1) n with
    | none=>rw[h2]at hs;cases hs
    | some js' =>
     rw[h2]at hs
     simp only[Option.some.injEq]at hs
     subst hs
     obtain⟨h3,h4⟩:=Zb7 h2
     have hin:innerIds h i=is:=by simp[innerIds,ho,h1]
     refine⟨by rw[List.range'_succ,List.flatMap_cons,hin,h3],fun k c hk1 hk2 hk3=>?_⟩
     by_cases hki:k=i
     ·subst hki
      rw[ho]at hk3
      cases hk3
      exact⟨ds,by rw[hin];exact h1⟩
     ·exact h4 k c (by omega) (by omega) hk3
  ·have hn:∀ cells,h i≠some (.box cells):=fun cells e=>hb ⟨cells,e⟩
   rw[other hn]at hs
   obtain⟨h3,h4⟩:=Zb7 hs
   have hin:innerIds h i=[]:=by
    unfold innerIds
    cases ho:h i with
    | none=>rfl
    | some o =>
     cases o with
     | box cells=>exact absurd ho (hn _)
     | arr _ _=>rfl
     | map _ _=>rfl
   refine⟨by rw[List.range'_succ,List.flatMap_cons,hin,h3];rfl,fun k c hk1 hk2 hk3=>?_⟩
   by_cases hki:k=i
   ·subst hki;exact absurd hk3 (hn _)
   ·exact h4 k c (by omega) (by omega) hk3
theorem Zif{gone:List Nat}:∀ {n i k:Nat},k<n->(outsOf h gone i n)[k]?=some (outOf h gone (i+k))
 | 0,i,k,hk=>by omega
 | n+1,i,k,hk=>by
  cases k with
  | zero=>simp only[outsOf,List.getElem?_cons_zero,Nat.add_zero]
  | succ k =>
   have:=Zif (gone:=gone) (n:=n) (i:=i+1) (k:=k) (by omega)
   simp only[outsOf,List.getElem?_cons_succ]
   rw[this,show i+1+k=i+(k+1) by omega]
theorem Zcv{gone:List Nat}:∀ (n i:Nat),(outsOf h gone i n).length=n
 | 0,_=>rfl
 | n+1,i=>by simp[outsOf,Zcv n (i+1)]
theorem Zr2(m:Mem cx h ep g w){us:List Value}{vs ws:List AV}{is js:List Nat}(hl:us.length=vs.length)(hr:∀ (i:Nat) (u:Value) (c:AV),us[i]?=some u->vs[i]?=some c->SRel cx.num w cx.R g h ep u c)
  (hs:shutT h vs=some (ws,is)) (hb:shutBoxes h 0 cx.base=some js) (hd:distinct (is++js)=true) (hold:∀ i∈is++js,∀ cells,h i=some (.box cells)->cx.base<=i) :
  ∃ I N S fo,Post cx w (if hz:us.length=1 then us[0]'(by omega) else .tuple us.toArray) (match ws with|[v]=>v|ws=>.tup ws) (outsOf h (is++js) 0 cx.base) I N S fo:=by
 have hnd:=Za5 hd
 obtain⟨n1,n2,n3⟩:=List.nodup_append.1 hnd
 obtain⟨fs,b1,b2,b3⟩:=Zj6 m hl hr hs n1
 obtain⟨hjs,hbx⟩:=Zb7 hb
 have hinner:∀ k,k<cx.base->∀ i∈innerIds h k,i∈js:=fun k hk i hi=>by
  rw[hjs];exact List.mem_flatMap.2 ⟨k,by rw[List.mem_range'_1];omega,hi⟩
 have hinnd:∀ k,k<cx.base->(innerIds h k).Nodup:=fun k hk=>by
  have h1:=List.pairwise_flatMap.1 (hjs ▸ n2)
  exact h1.1 k (by rw[List.mem_range'_1];omega)
 have hindis:∀ k l,k<cx.base->l<cx.base->k≠l->∀ i∈innerIds h k,i ∉ innerIds h l:=fun k l hk hl' hne i hi hi'=>by
  have h1:=(List.pairwise_flatMap.1 (hjs ▸ n2)).2
  have hpw:=List.pairwise_iff_getElem.1 h1
  rcases Nat.lt_or_gt_of_ne hne with hlt|hlt
  ·exact hpw k l (by simpa using hk) (by simpa using hl') hlt i (by simpa using hi) i (by simpa using hi') rfl
  ·exact hpw l k (by simpa using hl') (by simpa using hk) hlt i (by simpa using hi') i (by simpa using hi) rfl
 have houtgone:∀ k o,k<cx.base->outOf h (is++js) k=some o->k ∉ is++js:=by
  intro k o hk ho hm
  unfold outOf at ho
  cases hh:h k with
  | none=>rw[hh]at ho;cases ho
  | some ob =>
   rw[hh]at ho
   cases ob with
   | box cells=>have:=hold k hm cells hh;omega
   | arr sz xs =>
    have:(is++js).contains k=true:=by simpa using hm
    simp[this]at ho
    simp at hm
    rcases hm with hm|hm
    ·exact absurd hm ho.1.1
    ·exact absurd hm ho.1.2
   | map kb kvs=>cases ho
 have hFpS:∀ x,(∃ i,i<ws.length/\fs i x)->Fp h g is x:=fun x ⟨i,hi,hx⟩=>b2 i x hi hx
 have hmine:∀ ids x,Fp h g ids x->(cx.M x\/cx.w0.heap.size<=x)/\¬ g.I x:=fun ids x ⟨i,o,_,ho,hf⟩=>m.mine i o x ho hf
 -- the footprints of what comes back
 have hex:∀ k,∃ S:Nat->Prop,(∀ o,k<cx.base->outOf h (is++js) k=some o->Shut w g.I g.N (cx.v0 k) o.av S/\∃ o0,cx.h0 k=some o0/\o0.alike o)/\∀ x,S x->Fp h g (k::innerIds h k) x/\∃ o,outOf h (is++js) k=some o:=by
  intro k
  by_cases hkb:k<cx.base
  ·cases hout:outOf h (is++js) k with
   | none=>exact⟨fun _=>False,fun o _ ho=>(nomatch ho),fun _ hx=>hx.elim⟩
   | some o =>
    have ho':=hout
    unfold outOf at ho'
    cases hh:h k with
    | none=>rw[hh]at ho';cases ho'
    | some ob =>
     rw[hh]at ho'
     obtain⟨o0,g1,g2,g3⟩:=m.given k ob hkb hh
     cases ob with
     | box cells =>
      simp only at ho'
      obtain⟨ds,hds⟩:=hbx k cells (Nat.zero_le _) (by omega) hh
      rw[hds]at ho'
      simp only[Option.some.injEq]at ho'
      subst ho'
      obtain⟨S,h1,h2,_⟩:=Zmo m hh hds (hinnd k hkb)
      refine⟨S,fun o1 _ he=>?_,fun x hx=>⟨h2 x hx,_,rfl⟩⟩
      obtain rfl:=Option.some.inj he
      exact⟨by rw[<- g3];exact h1,o0,g1,AO.alike.trans (p:=.box cells) g2 trivial⟩
     | arr sz xs =>
      simp only at ho'
      split at ho'
      ·cases ho'
      ·simp only[Option.some.injEq]at ho'
       subst ho'
       obtain⟨h1,h2⟩:=m.objs k _ hh
       refine⟨g.fp k,fun o1 _ he=>?_,fun x hx=>⟨⟨k,_,List.mem_cons_self,hh,hx⟩,_,rfl⟩⟩
       obtain rfl:=Option.some.inj he
       exact⟨by rw[<- g3];exact .one _ _ _ h1 h2,o0,g1,g2⟩
     | map kb kvs=>cases ho'
  ·exact⟨fun _=>False,fun o hk=>absurd hk hkb,fun _ hx=>hx.elim⟩
 refine⟨g.I,g.N,fun x=>∃ i,i<ws.length/\fs i x,fun k=>(hex k).choose,m.frame,Zcv _ _,m.I_up,m.I_new,m.I_N,m.N_up,m.N_new,m.N_lt,?_,?_,fun x hx=>hmine is x (hFpS x hx),fun k x _ hx=>hmine _ x ((hex k).choose_spec.2 x hx).1,?_,?_⟩
 ·have hlw:=b1.size
  cases ws with
  | nil =>
   have hz:¬ us.length=1:=by simp at hlw;simp[hlw]
   rw[dif_neg hz]
   exact .tup _ _ fs _ (by simpa using b1) (fun x=>Iff.rfl)
  | cons v rest =>
   cases rest with
   | nil =>
    have hz:us.length=1:=by simpa using hlw
    rw[dif_pos hz]
    have hz0:0<us.length:=by omega
    have h1:=b1.sh 0 us[0] v (List.getElem?_eq_getElem hz0) rfl
    refine .one _ _ _ ?_ (b3 v List.mem_cons_self)
    have he:(fun x=>∃ i,i < [v].length/\fs i x)=fs 0:=funext fun x=>propext ⟨fun ⟨i,hi,hx⟩=>by
     have:i=0:=by simpa using hi
     subst this;exact hx,fun hx=>⟨0,by simp,hx⟩⟩
    rw[he]
    exact h1
   | cons v2 rest =>
    have hz:¬ us.length=1:=by simp at hlw;omega
    rw[dif_neg hz]
    exact .tup _ _ fs _ (by simpa using b1) (fun x=>Iff.rfl)
 ·intro k o hk
  have hkb:k<cx.base:=by
   have:=(List.getElem?_eq_some_iff.1 hk).1
   rwa [Zcv]at this
  rw[Zif hkb,Nat.zero_add]at hk
  exact (hex k).choose_spec.1 o hkb (Option.some.inj hk)
 ·intro k x hk hx hf
  obtain⟨h1,o,ho⟩:=(hex k).choose_spec.2 x hf
  have hng:=houtgone k o hk ho
  refine Fp.apart m (fun i hi hi2=>?_) (hFpS x hx) h1
  rcases List.mem_cons.1 hi2 with rfl|hi2
  ·exact hng (List.mem_append.2 (.inl hi))
  ·exact n3 i hi i (hinner k hk i hi2) rfl
 ·intro k l x hk hl' hf hf'
  obtain⟨h1,o,ho⟩:=(hex k).choose_spec.2 x hf
  obtain⟨h2,o',ho'⟩:=(hex l).choose_spec.2 x hf'
  have hng:=houtgone k o hk ho
  have hng':=houtgone l o' hl' ho'
  refine Classical.byContradiction fun hne=>Fp.apart m (fun i hi hi2=>?_) h1 h2
  rcases List.mem_cons.1 hi with rfl|hi<;>rcases List.mem_cons.1 hi2 with rfl|hi2
  ·exact hne rfl
  ·exact hng (List.mem_append.2 (.inr (hinner l hl' _ hi2)))
  ·exact hng' (List.mem_append.2 (.inr (hinner k hk _ hi)))
  ·exact hindis k l hk hl' hne i hi hi2
end
end Go.Proofs.YtfemiipgkhekiaaGreatDoor
namespace Go.Proofs.YtfemiipgkhekiaaGreatDoor
open Go Go.RowKit
set_option linter.unusedSimpArgs false
section
variable {cx:Cx} {nt:Nat}
def resOf(tmps:Array Value):ResultVar->Sem Value
 | .tmp t=>pure (tmps.getD t undef)
 | .cell a t=>do loadVar t (<- asAddr (tmps.getD a undef))
theorem Zlo{s:St}{g:Gh}{a:Act}{w:World}(c:Corr cx nt s g a w):∀ {rs:List ResultVar} {cs:List CRes} {vs:List AV},chkRes cx.P rs cs=true->resVals s cs=some vs ->
  ∃ us:List Value,(rs.mapM (resOf a.tmps)).run cx.P w=.ok us w/\us.length=vs.length/\∀ (i:Nat) (u:Value) (d:AV),us[i]?=some u->vs[i]?=some d->SRel cx.num w cx.R g s.heap s.ep u d
 | [],[],vs,_,h=>by
  simp only[resVals,Option.some.injEq]at h
  subst h
  exact⟨[],rfl,rfl,fun i u d hu=>by simp at hu⟩
 | .tmp t::rs,.tmp t'::cs,vs,hc,h=>by
  simp only[chkRes,Bool.and_eq_true,beq_iff_eq]at hc
  obtain⟨rfl,hc⟩:=hc
  simp only[resVals,resVal]at h
  cases h1:resVals s cs with
  | none=>rw[h1]at h;cases h
  | some vs' =>
   rw[h1]at h
   simp only[Option.some.injEq]at h
   subst h
   obtain⟨us,h2,h3,h4⟩:=Zlo c hc h1
   refine⟨a.tmps.getD t undef::us,by simp[List.mapM_cons,resOf,h2],by simp[h3],fun i u d hu hd=>?_⟩
   cases i with
   | zero=>simp only[List.getElem?_cons_zero,Option.some.injEq]at hu hd;subst hu;subst hd;exact c.slots t
   | succ i=>exact h4 i u d (by simpa using hu) (by simpa using hd)
 | .cell t ty::rs,.cell t' sz agg::cs,vs,hc,h=>by
  simp only[chkRes,Bool.and_eq_true,beq_iff_eq]at hc
  obtain⟨rfl,hsz,hag,hc⟩:=hc
  obtain⟨i0,hi,hi2⟩:=Zat hsz
  simp only[decide_eq_true_eq]at hi2
  subst hi2
  split at hag
  case h_2=>cases hag
  rename_i d hd
  simp only[Bool.and_eq_true,beq_iff_eq,Bool.or_eq_true]at hag
  obtain⟨rfl,h1s⟩:=hag
  simp only[resVals,resVal]at h
  have hr:=c.slots t
  generalize s.slots t=c1 at h hr
  generalize hv:a.tmps.getD t undef=v1 at hr
  cases c1<;>try (cases h;done)
  rename_i id i off
  cases i<;>cases off<;>try (cases h;done)
  simp only at h
  cases hh:s.heap id with
  | none=>rw[hh]at h;cases h
  | some ob =>
   rw[hh]at h
   cases ob<;>try (cases h;done)
   rename_i cells
   simp only at h
   split at h
   ·cases h
   ·rename_i v hlv
    split at hlv
    case isFalse=>cases hlv
    rename_i hlen
    cases h1:resVals s cs with
    | none=>rw[h1]at h;cases h
    | some vs' =>
     rw[h1]at h
     simp only[Option.some.injEq]at h
     subst h
     obtain⟨us,h2,h3,h4⟩:=Zlo c hc h1
     obtain⟨b,cur,e,h5,h6,h7,h8,h9,h10⟩:=c.mem.objs id _ hh
     cases hr with
     | ptr _ _ _ _ _ hu hv' =>
      obtain⟨b',h11,h12⟩:=hv' _ hh
      rw[h5]at h11
      simp only[Value.pointer.injEq,Option.some.injEq,Addr.mk.injEq,and_true]at h11
      subst h11
      obtain⟨hle,hrv⟩:=Za4 (fun hf=>h1s.resolve_left (by simp[hf])) hlv
      have hcell:∀ j,j<i0.size->w.cell? ⟨b,0+j,none⟩=some (cur.getD j undef):=fun j hj=>by
       rw[Zae h6,Nat.zero_add,Array.getD_eq_getD_getElem?,Array.getElem?_eq_getElem (by omega)];rfl
      have hrun:=Zcs (w:=w) hd hi b 0 (fun j=>cur.getD j undef) hcell (fun hf=>h1s.resolve_left (by simp[hf]))
      have hcr:∀ j,j<i0.size->∃ d0,cells[j]?=some d0/\(cur.getD j undef).oneCell'=true/\SRel cx.num w cx.R g s.heap s.ep (cur.getD j undef) d0:=fun j hj=>by
       have hcj:cells[j]?=some (cells[j]'(by omega)):=List.getElem?_eq_getElem (by omega)
       have huj:cur[j]?=some (cur.getD j undef):=by rw[Array.getD_eq_getD_getElem?,Array.getElem?_eq_getElem (by omega)];rfl
       obtain⟨h13,h14⟩:=h10 j _ _ huj hcj
       exact⟨_,hcj,h13,h14⟩
      refine⟨_::us,by simp only[List.mapM_cons,resOf,hv,h12,asAddr,Sem.run_bind,Sem.run_pure,Result.andThen_ok,hrun,h2];rfl,by simp[h3],fun i u d0 hu hd0=>?_⟩
      cases i with
      | succ i=>exact h4 i u d0 (by simpa using hu) (by simpa using hd0)
      | zero =>
       simp only[List.getElem?_cons_zero,Option.some.injEq]at hu hd0
       subst hu;subst hd0
       rw[hrv]
       cases hdd:aggB d with
       | true =>
        simp only[if_true,List.drop_zero]
        refine .agg _ _ (by simp;omega) (fun j v hv=>?_) (fun j v c0 hv hc0=>?_)
        ·simp only[List.getElem?_toArray,List.getElem?_map]at hv
         cases hj:(List.range i0.size)[j]? with
         | none=>rw[hj]at hv;cases hv
         | some j' =>
          rw[hj]at hv
          simp only[Option.map_some,Option.some.injEq]at hv
          obtain⟨hlt,he⟩:=List.getElem?_eq_some_iff.1 hj
          simp only[List.length_range]at hlt
          simp only[List.getElem_range]at he
          subst he;subst hv
          exact (hcr j hlt).choose_spec.2.1
        ·simp only[List.getElem?_toArray,List.getElem?_map]at hv
         cases hj:(List.range i0.size)[j]? with
         | none=>rw[hj]at hv;cases hv
         | some j' =>
          rw[hj]at hv
          simp only[Option.map_some,Option.some.injEq]at hv
          obtain⟨hlt,he⟩:=List.getElem?_eq_some_iff.1 hj
          simp only[List.length_range]at hlt
          simp only[List.getElem_range]at he
          subst he;subst hv
          obtain⟨d1,h13,_,h14⟩:=hcr j hlt
          rw[List.getElem?_take,if_pos hlt,h13]at hc0
          obtain rfl:=Option.some.inj hc0
          exact h14
       | false =>
        simp only[Bool.false_eq_true,if_false,List.drop_zero]
        have h1z:i0.size=1:=h1s.resolve_left (by simp[hdd])
        obtain⟨d1,h13,_,h14⟩:=hcr 0 (by omega)
        rw[show cells.getD 0 .any=d1 by simp[List.getD,h13]]
        exact h14
 | [],_::_,_,hc,_=>by simp[chkRes]at hc
 | .tmp _::_,[],_,hc,_=>by simp[chkRes]at hc
 | .cell _ _::_,[],_,hc,_=>by simp[chkRes]at hc
 | .tmp _::_,.cell _ _ _::_,_,hc,_=>by simp[chkRes]at hc
 | .cell _ _::_,.tmp _::_,_,hc,_=>by simp[chkRes]at hc
end
theorem Zle{P:Program}{num:Nat->Option FuncId}{fz:List (Nat×Obj)}{f:FuncId}{fn:Func}{c:CFn}{cl:Callee}(hf:P.funcs[f]?=some fn)(hc:chkFn P num fn c=true)(hm:P.follows .mixedOrders=true)
  (hK:∀ (k:Nat) (f:FuncId) (args:List AV) (objs:List AO) (r:AV) (outs:List (Option AO)),num k=some f->cl k args objs=some (r,outs)->Contract P num fz f args objs r outs)
  {args:List AV} {objs:List AO} {r:AV} {outs:List (Option AO)} (h:runFn cl c args objs=some (r,outs)):Contract P num fz f args objs r outs:=by
 intro cx g w vs hP hnum hfz hw0 hbase hh0 hv0 hu m hsz hrel
 subst hP;subst hnum;subst hfz
 simp only[chkFn,Bool.and_eq_true,bne_iff_ne,ne_eq,beq_iff_eq]at hc
 obtain⟨hname,hnt,hbody⟩:=hc
 split at hbody
 case h_2=>cases hbody
 rename_i b hb
 simp only[Bool.and_eq_true]at hbody
 obtain⟨hcode,hres⟩:=hbody
 simp only[runFn]at h
 split at h
 case isFalse=>cases h
 rename_i hal
 cases hrun:runCode cl c.body ⟨startSlots args 0,startHeap objs 0,0,objs.length,objs.length⟩ with
 | none=>rw[hrun]at h;cases h
 | some p =>
  obtain⟨ex,s⟩:=p
  rw[hrun]at h
  have hend:(ex=.ret\/ex=.normal)/\endFn c objs.length s=some (r,outs):=by
   cases ex with
   | ret=>exact⟨.inl rfl,h⟩
   | normal=>exact⟨.inr rfl,h⟩
   | exit id=>cases h
  obtain⟨hex,hend⟩:=hend
  intro o a next Q hnext
  have hcf:(callFunc f vs).run cx.P w=.ok (.enter f vs) w:=by
   simp[callFunc,hf,hname,hb]
  rw[hcf,Oper.upon_enter]
  refine Calls.mono (R:=fun e w'=>match e with|.returned v=>(∃ I N S fo,Post cx w' v r outs I N S fo)|_=>False) ?_ (fun e w' he=>by
   cases e with
   | returned v=>exact hnext v w' he
   | panicked _=>exact he.elim
   | outgrown=>exact he.elim)
  refine calls_of_wp hf hb (Zbz hm hK c.body b hcode _ ex s _ w _ hrun ⟨g,⟨?_,rfl,fun t=>?_,m⟩,hu,hbase.symm⟩ (fun a' w' hg=>?_))
  ·show (vs++Array.replicate (fn.ntmps-vs.size) undef).size=c.nt
   simp;omega
  ·show SRel cx.num w cx.R g (startHeap objs 0) 0 ((vs++Array.replicate (fn.ntmps-vs.size) undef).getD t undef) (startSlots args 0 t)
   rw[Zdi,if_pos (Nat.zero_le _),Nat.sub_zero]
   by_cases ht:t<args.length
   ·have h1:vs[t]?=some (vs[t]'(by omega)):=Array.getElem?_eq_getElem (by omega)
    have h2:args[t]?=some (args[t]'ht):=List.getElem?_eq_getElem ht
    have h3:(vs++Array.replicate (fn.ntmps-vs.size) undef).getD t undef=vs[t]'(by omega):=by
     rw[Array.getD_eq_getD_getElem?,Array.getElem?_append_left (by omega),h1];rfl
    rw[h3,show args.getD t .any=args[t]'ht by simp[List.getD,h2]]
    exact hrel t _ _ h1 h2
   ·rw[show args.getD t .any=.any by simp[List.getD,List.getElem?_eq_none (Nat.le_of_not_lt ht)]]
    exact .any _
  ·obtain⟨g',hcr,hu',hb'⟩:=hg
   unfold endFn at hend
   cases hrv:resVals s c.res with
   | none=>rw[hrv]at hend;cases hend
   | some rvs =>
    rw[hrv]at hend
    simp only at hend
    cases hst:shutT s.heap rvs with
    | none=>rw[hst]at hend;cases hend
    | some q =>
     obtain⟨ws,is⟩:=q
     rw[hst]at hend
     simp only at hend
     cases hsb:shutBoxes s.heap 0 objs.length with
     | none=>rw[hsb]at hend;cases hend
     | some js =>
      rw[hsb]at hend
      simp only at hend
      split at hend
      case isFalse=>cases hend
      rename_i hcond
      simp only[Bool.and_eq_true,List.all_eq_true]at hcond
      simp only[Option.some.injEq,Prod.mk.injEq]at hend
      obtain⟨hr1,hr2⟩:=hend
      obtain⟨us,hrs,hul,hur⟩:=Zlo hcr hres hrv
      have hpost:=Zr2 hcr.mem hul hur hst (by rw[hbase];exact hsb) hcond.1 (fun i hi cells ho=>by
       have:=hcond.2 i hi
       rw[ho]at this
       rw[hbase]
       simpa using this)
      have hresults:(results fn a'.tmps).run cx.P w'=.ok (if hz:us.length=1 then us[0]'(by omega) else .tuple us.toArray) w':=by
       have hmm:(fn.results.mapM (resOf a'.tmps)).run cx.P w'=.ok us.toArray w':=by
        rw[Array.mapM_eq_mapM_toList,Sem.run_map,hrs,Result.andThen_ok]
       have he:results fn a'.tmps=(do
         let vs <- fn.results.mapM (resOf a'.tmps)
         pure (if h:vs.size=1 then vs[0] else .tuple vs)):=by
        unfold results
        congr 1
       rw[he]
       simp[hmm]
      have hpost':∃ I N S fo,Post cx w' (if hz:us.length=1 then us[0]'(by omega) else .tuple us.toArray) r outs I N S fo:=by
       rw[hbase]at hpost
       rw[<- hr1,<- hr2]
       exact hpost
      rcases hex with rfl|rfl
      ·exact⟨hcr.defers,_,hresults,hpost'⟩
      ·exact⟨hcr.defers,_,hresults,hpost'⟩
structure Tied(P:Program)(num:Nat->Option FuncId)(fz:List (Nat×Obj))(p:CProg):Prop where
 mixed:P.follows .mixedOrders=true
 fns:∀ k c,p.fn k=some c->∀ f,num k=some f->∃ fn,P.funcs[f]?=some fn/\chkFn P num fn c=true
 prims:∀ k f args objs r outs,num k=some f->p.fn k=none->p.prim k args objs=some (r,outs)->Contract P num fz f args objs r outs
theorem Tied.call{P:Program}{num:Nat->Option FuncId}{fz:List (Nat×Obj)}{p:CProg}(t:Tied P num fz p):∀ (d k:Nat) (f:FuncId) (args:List AV) (objs:List AO) (r:AV) (outs:List (Option AO)),num k=some f->p.call d k args objs=some (r,outs)->Contract P num fz f args objs r outs
 | 0,k,f,args,objs,r,outs,_,h=>by cases h
 | d+1,k,f,args,objs,r,outs,hn,h=>by
  simp only[CProg.call]at h
  cases hc:p.fn k with
  | none=>rw[hc]at h;exact t.prims k f args objs r outs hn hc h
  | some c =>
   rw[hc]at h
   obtain⟨fn,hf,hchk⟩:=t.fns k c hc f hn
   exact Zle hf hchk t.mixed (fun k f args objs r outs hn h=>t.call d k f args objs r outs hn h) h
end Go.Proofs.YtfemiipgkhekiaaGreatDoor
namespace Go.Proofs.YtfemiipgkhekiaaGreatDoor
open Go Go.RowKit Go.WideShapes
set_option linter.unusedSimpArgs false
inductive Sh where
 | bool
 | int (k:IntKind)
 | str
 | sl (row:List Sh)
mutual
def Fits:Sh->AV->Prop
 | .bool,c=>∃ b,c=.bool b
 | .int k,c=>∃ n,c=.int k n/\(Lit.int k n).wf=true
 | .str,c=>∃ s:ByteArray,c=.str s/\s.size<=maxLen
 | .sl row,c=>∃ xs,c=.sl .bor row.length xs/\xs.length<=maxLen/\∀ r∈xs,FitsL row r
def FitsL:List Sh->List AV->Prop
 | [],[]=>True
 | s::ss,c::cs=>Fits s c/\FitsL ss cs
 | _,_=>False
end
theorem FitsL.append:∀ {as bs:List Sh} {cs ds:List AV},FitsL as cs->FitsL bs ds->FitsL (as++bs) (cs++ds)
 | [],_,[],_,_,h=>h
 | _::_,_,_::_,_,h,k=>by
  simp only[FitsL,List.cons_append]at h ⊢
  exact⟨h.1,FitsL.append h.2 k⟩
 | [],_,_::_,_,h,_=>by simp[FitsL]at h
 | _::_,_,[],_,h,_=>by simp[FitsL]at h
theorem FitsL.len:∀ {as:List Sh} {cs:List AV},FitsL as cs->cs.length=as.length
 | [],[],_=>rfl
 | _::_,_::_,h=>by simp only[FitsL]at h;simp[FitsL.len h.2]
 | [],_::_,h=>by simp[FitsL]at h
 | _::_,[],h=>by simp[FitsL]at h
def shFs(F:TypeId->Option (List Sh))(P:Program):Nat->List Field->Option (List Sh)
 | _,[]=>some []
 | off,f::fs=>match F f.type with
  | some a=>if f.offset=off/\P.cellsOf f.type=a.length then match shFs F P (off+a.length) fs with
   | some b=>some (a++b)
   | none=>none
   else none
  | none=>none
def shOf(P:Program):Nat->TypeId->Option (List Sh)
 | 0,_=>none
 | d+1,t=>match P.underlying t with
  | some .bool=>some [.bool]
  | some (.int k)=>some [.int k]
  | some .string=>some [.str]
  | some (.slice e)=>match shOf P d e with
   | some row=>if P.cellsOf e=row.length/\row.length≠0 then some [.sl row] else none
   | none=>none
  | some (.struct fs)=>match shFs (shOf P d) P 0 fs.toList with
   | some a=>if P.cellsOf t=a.length then some a else none
   | none=>none
  | _=>none
section
variable {H:Type} {enc:TypeId×Value->H} {P:Program} {W:World} {base:Nat} {spare:Nat->Bool} {held:Bool}
def Old(W:World)(b:Nat):Prop:=b<W.heap.size
structure ReadL(W:World)(cs:List Value)(sh:List Sh)(avs:List AV):Prop where
 fits:FitsL sh avs
 len:cs.length=avs.length
 bor:∀ (j:Nat) (u:Value) (c:AV),cs[j]?=some u->avs[j]?=some c->Bor W (Old W) u c
theorem ReadL.one{u:Value}{s:Sh}{c:AV}(hf:Fits s c)(hb:Bor W (Old W) u c):ReadL W [u] [s] [c]:=by
 refine⟨⟨hf,trivial⟩,rfl,fun j v d hv hd=>?_⟩
 cases j with
 | zero=>simp only[List.getElem?_cons_zero,Option.some.injEq]at hv hd;subst hv;subst hd;exact hb
 | succ j=>simp at hv
theorem Zg0{F:TypeId->Option (List Sh)}{n:Nat}{cs:List Value}:∀ (fs:List Field) (off:Nat) (sh:List Sh),shFs F P off fs=some sh->cs.length=off+sh.length ->
  (∀ f∈fs,∀ a,F f.type=some a->∀ cs' y,DataW.trod enc P W base spare held n f.type cs'=some y->∃ avs,ReadL W cs' a avs) ->
  (∀ f∈fs,∃ y,DataW.trod enc P W base spare held n f.type ((cs.drop f.offset).take (P.cellsOf f.type))=some y)->∃ avs,ReadL W (cs.drop off) sh avs
 | [],off,sh,hs,hl,_,_=>by
  simp only[shFs,Option.some.injEq]at hs
  subst hs
  refine⟨[],trivial,by simp at hl ⊢;omega,fun j u c _ hc=>by simp at hc⟩
 | f::fs,off,sh,hs,hl,hF,hr=>by
  simp only[shFs]at hs
  cases hf:F f.type with
  | none=>rw[hf]at hs;cases hs
  | some a =>
   rw[hf]at hs
   simp only at hs
   split at hs
   case isFalse=>cases hs
   rename_i hoff
   obtain⟨hoff,hsz⟩:=hoff
   cases hb:shFs F P (off+a.length) fs with
   | none=>rw[hb]at hs;cases hs
   | some b =>
    rw[hb]at hs
    simp only[Option.some.injEq]at hs
    subst hs
    rw[List.length_append]at hl
    obtain⟨y,hy⟩:=hr f List.mem_cons_self
    obtain⟨as,h1⟩:=hF f List.mem_cons_self a hf _ y hy
    obtain⟨bs,h2⟩:=Zg0 fs (off+a.length) b hb (by omega) (fun g hg=>hF g (List.mem_cons_of_mem _ hg)) (fun g hg=>hr g (List.mem_cons_of_mem _ hg))
    rw[hoff,hsz]at h1
    have hsplit:cs.drop off=(cs.drop off).take a.length++cs.drop (off+a.length):=by rw[<- List.drop_drop,List.take_append_drop]
    have hla:((cs.drop off).take a.length).length=a.length:=by simp;omega
    have hlas:=h1.fits.len
    refine⟨as++bs,h1.fits.append h2.fits,by rw[hsplit,List.length_append,h1.len,h2.len,List.length_append],fun j u c hu hc=>?_⟩
    rw[hsplit]at hu
    by_cases hj:j<a.length
    ·rw[List.getElem?_append_left (by omega)]at hu hc
     exact h1.bor j u c hu hc
    ·rw[List.getElem?_append_right (by omega),hla]at hu
     rw[List.getElem?_append_right (by omega),hlas]at hc
     exact h2.bor _ u c hu hc
theorem Zez:∀ (d:Nat) (t:TypeId) (sh:List Sh),shOf P d t=some sh->∀ (n:Nat) (cs:List Value) (y:DataW H×List MemPlace),DataW.trod enc P W base spare held n t cs=some y->∃ avs,ReadL W cs sh avs
 | 0,_,_,hs=>by cases hs
 | d+1,t,sh,hs=>by
  intro n cs y hy
  simp only[shOf]at hs
  cases ht:P.underlying t with
  | none=>rw[ht]at hs;cases hs
  | some td =>
   rw[ht]at hs
   cases td<;>simp only[reduceCtorEq,Option.some.injEq]at hs
   ·subst hs
    obtain⟨b,rfl,_⟩:=DataW.trod_bool ht hy
    exact⟨[.bool b],.one ⟨b,rfl⟩ (.bool b)⟩
   ·subst hs
    obtain⟨k,rfl,_,hw⟩:=DataW.trod_int ht hy
    exact⟨[.int _ k],.one ⟨k,rfl,hw⟩ (.int _ _)⟩
   ·subst hs
    obtain⟨s,rfl,_,hw⟩:=DataW.trod_string ht hy
    exact⟨[.str s],.one ⟨s,rfl,hw⟩ (.str _)⟩
   ·rename_i e
    cases he:shOf P d e with
    | none=>rw[he]at hs;cases hs
    | some row =>
     rw[he]at hs
     simp only at hs
     split at hs
     case isFalse=>cases hs
     rename_i hsz
     obtain⟨hsz,hpos⟩:=hsz
     simp only[Option.some.injEq]at hs
     subst hs
     rcases DataW.trod_slice ht hy with ⟨rfl,_⟩|⟨a,len,cap,elems,rest,m,_,rfl,_,_,hlc,hcm,hel,hget,_⟩
     ·exact⟨[.sl .bor row.length []],.one ⟨[],rfl,by simp,by simp⟩ (.nil _ _ _ _)⟩
     ·by_cases hz:len=0
      ·subst hz
       exact⟨[.sl .bor row.length []],.one ⟨[],rfl,by simp,by simp⟩ (.nil _ _ _ _)⟩
      ·-- every row
       have hrow:∀ i,∃ avs csi,i<len->(∀ j,j<row.length->W.cell? ((a.add (i*row.length)).add j)=csi[j]?)/\csi.length=row.length/\ReadL W csi row avs:=by
        intro i
        by_cases hi:i<len
        ·have hgi:=hget i hi
         rw[show elems[i]?=some (elems[i]'(by omega)) from List.getElem?_eq_getElem _]at hgi
         obtain⟨csi,hc1,hc2⟩:=Option.bind_eq_some_iff.1 hgi
         rw[hsz]at hc1
         obtain⟨_,hl,hcell⟩:=World.cells?_some hc1
         obtain⟨avs,hav⟩:=Zez d e row he m csi _ hc2
         exact⟨avs,csi,fun _=>⟨hcell,hl,hav⟩⟩
        ·exact⟨[],[],fun h=>absurd h hi⟩
       let avr:Nat->List AV:=fun i=>(hrow i).choose
       let csr:Nat->List Value:=fun i=>(hrow i).choose_spec.choose
       have hr:∀ i,i<len->(∀ j,j<row.length->W.cell? ((a.add (i*row.length)).add j)=(csr i)[j]?)/\(csr i).length=row.length/\ReadL W (csr i) row (avr i):=fun i hi=>(hrow i).choose_spec.choose_spec hi
       obtain⟨h01,h02,_⟩:=hr 0 (by omega)
       have hc00:(csr 0)[0]?=some ((csr 0)[0]'(by omega)):=List.getElem?_eq_getElem _
       have hcell0:=h01 0 (by omega)
       rw[hc00]at hcell0
       have hspot:a.spot=none:=by
        have:=World.cell?_spot hcell0
        obtain⟨b,off,sp⟩:=a
        unfold Addr.add at this
        split at this<;>split at this<;>simp_all
       obtain⟨b,off,sp⟩:=a
       simp only at hspot
       subst hspot
       have hadd:∀ i j,((⟨b,off,none⟩:Addr).add (i*row.length)).add j=⟨b,off+i*row.length+j,none⟩:=fun i j=>by rw[Zbq,Zbq]
       have hold:Old W b:=by
        rw[hadd]at hcell0
        unfold World.cell? at hcell0
        unfold Old
        rcases Nat.lt_or_ge b W.heap.size with h|h
        ·exact h
        ·simp[Array.getElem?_eq_none h]at hcell0
       let xs:List (List AV):=(List.range len).map avr
       have hxl:xs.length=len:=by simp[xs]
       have hxi:∀ i r,xs[i]?=some r->i<len/\r=avr i:=fun i r hi=>by
        have h1:=(List.getElem?_eq_some_iff.1 hi).1
        have h2:i<len:=by omega
        simp only[xs,List.getElem?_map,List.getElem?_range h2,Option.map_some,Option.some.injEq]at hi
        exact⟨h2,hi.symm⟩
       refine⟨[.sl .bor row.length xs],.one ⟨xs,rfl,by omega,fun r hrm=>?_⟩ ?_⟩
       ·obtain⟨i,hi⟩:=List.getElem?_of_mem hrm
        obtain⟨h1,rfl⟩:=hxi i r hi
        exact (hr i h1).2.2.fits
       ·have hb:=Bor.sl (w:=W) (R:=Old W) .bor row.length xs b off cap (fun i j=>(csr i)[j]?.getD undef) (by omega) hold (fun r hrm=>by
          obtain⟨i,hi⟩:=List.getElem?_of_mem hrm
          obtain⟨h1,rfl⟩:=hxi i r hi
          exact (hr i h1).2.2.fits.len) (fun i j c hc=>by
          obtain⟨r,h1,h2⟩:=Zaa.1 hc
          obtain⟨hi,rfl⟩:=hxi i r h1
          obtain⟨q1,q2,q3⟩:=hr i hi
          have hj:=(List.getElem?_eq_some_iff.1 h2).1
          have hjl:j<row.length:=by rw[<- q3.fits.len];exact hj
          rw[<- hadd,q1 j hjl,List.getElem?_eq_getElem (by omega)];rfl) (fun i j c hc=>by
          obtain⟨r,h1,h2⟩:=Zaa.1 hc
          obtain⟨hi,rfl⟩:=hxi i r h1
          obtain⟨q1,q2,q3⟩:=hr i hi
          have hj:=(List.getElem?_eq_some_iff.1 h2).1
          have hjl:j<row.length:=by rw[<- q3.fits.len];exact hj
          have hu:(csr i)[j]?=some ((csr i)[j]'(by omega)):=List.getElem?_eq_getElem _
          simp only[hu,Option.getD_some]
          exact q3.bor j _ c hu h2)
        rw[hxl]at hb
        exact hb
   ·rename_i fs
    cases hfs:shFs (shOf P d) P 0 fs.toList with
    | none=>rw[hfs]at hs;cases hs
    | some a =>
     rw[hfs]at hs
     simp only at hs
     split at hs
     case isFalse=>cases hs
     rename_i hsz
     simp only[Option.some.injEq]at hs
     subst hs
     obtain⟨xs,m,_,_,hcl,hxl,hget⟩:=DataW.trod_struct ht hy
     have:=Zg0 (enc:=enc) (W:=W) (base:=base) (spare:=spare) (held:=held) (n:=m) (cs:=cs) fs.toList 0 a hfs (by omega) (fun f _ a' ha cs' y hy=>Zez d f.type a' ha m cs' y hy) (fun f hf=>by
      obtain⟨i,hi⟩:=List.getElem?_of_mem hf
      have hi':fs[i]?=some f:=by simpa using hi
      have hlt:=(Array.getElem?_eq_some_iff.1 hi').1
      exact⟨xs[i]'(by omega),(hget i f hi').trans (List.getElem?_eq_getElem _)⟩)
     simpa using this
end
end Go.Proofs.YtfemiipgkhekiaaGreatDoor
namespace Go.Proofs.YtfemiipgkhekiaaGreatDoor
open Go Go.RowKit Go.WideShapes
set_option linter.unusedSimpArgs false
def cx0(P:Program)(num:Nat->Option FuncId)(fz:List (Nat×Obj))(W:World):Cx:=⟨P,num,Old W,fun _=>False,Old W,Old W,W,0,fun _=>none,fun _=>undef,fz⟩
def g0(W:World):Gh:=⟨fun _=>undef,fun _ _=>False,Old W,Old W,fun _=>False⟩
def ArgRel(num:Nat->Option FuncId)(W:World)(v:Value)(c:AV):Prop:=SRel num W (Old W) (g0 W) (fun _=>none) 0 v c
theorem mem0(P:Program)(num:Nat->Option FuncId){fz:List (Nat×Obj)}(W:World)(hfz:∀ p∈fz,W.heap[p.1]?=some p.2)(hsrt:SrtAll P num):Mem (cx0 P num fz W) (fun _=>none) 0 (g0 W) W :=
 ⟨fun _ _ h=>(nomatch h),fun _ _ h=>(nomatch h),fun _ _ _ _ _ h=>(nomatch h),fun _ _ _ h=>(nomatch h),fun _ h=>h,fun _ h=>h,fun _ h=>.inl h,fun _ h=>h,fun _ h=>h,fun _ h=>.inl h,
  fun _ h=>absurd h (Nat.not_lt_zero _),fun _ _ h=>absurd h (Nat.not_lt_zero _),fun _ h=>h,fun _ h=>⟨h,fun h=>h⟩,fun _ h=>⟨h,fun h=>h⟩,FrameW.refl _ _,fun p hp=>⟨(Array.getElem?_eq_some_iff.1 (hfz p hp)).1,hfz p hp⟩,hsrt⟩
theorem ArgRel.imm{num:Nat->Option FuncId}{W:World}{v:Value}{sz:Nat}{xs:List (List AV)}(h:ArgRel num W v (.sl .bor sz xs)):ArgRel num W v (.sl .imm sz xs):=by
 cases h with
 | sl _ _ _ _ h1 hm _ _=>exact .sl _ _ _ _ h1 (fun _=>(hm rfl).md) (fun e he=>by cases he) (by simp)
theorem Zqf:∀ {s:Sh} {c:AV},Fits s c->c.lend .bor=c
 | .bool,c,h=>by simp only[Fits]at h;obtain⟨b,rfl⟩:=h;rfl
 | .int k,c,h=>by simp only[Fits]at h;obtain⟨n,rfl,_⟩:=h;rfl
 | .str,c,h=>by simp only[Fits]at h;obtain⟨s,rfl,_⟩:=h;rfl
 | .sl row,c,h=>by simp only[Fits]at h;obtain⟨xs,rfl,_⟩:=h;rfl
theorem FitsL.get:∀ {ss:List Sh} {cs:List AV},FitsL ss cs->∀ (j:Nat) (c:AV),cs[j]?=some c->∃ s,ss[j]?=some s/\Fits s c
 | [],[],_,j,c,h=>by simp at h
 | s::ss,d::cs,h,j,c,hc=>by
  simp only[FitsL]at h
  cases j with
  | zero=>simp only[List.getElem?_cons_zero,Option.some.injEq]at hc;subst hc;exact⟨s,rfl,h.1⟩
  | succ j=>obtain⟨s',h1,h2⟩:=FitsL.get h.2 j c (by simpa using hc);exact⟨s',by simpa using h1,h2⟩
 | [],_::_,h,_,_,_=>by simp[FitsL]at h
 | _::_,[],h,_,_,_=>by simp[FitsL]at h
section
variable {H:Type} {enc:TypeId×Value->H} {P:Program} {num:Nat->Option FuncId} {W:World} {r:Reach} {b0 base:Nat} {spare:Nat->Bool} {held:Bool} {t:TypeId} {v:Value} {d:DataW H} {ps:List MemPlace}
theorem ReadL.arg{cs:List Value}{sh:List Sh}{avs:List AV}(h:ReadL W cs sh avs){j:Nat}{u:Value}{c:AV}(hu:cs[j]?=some u)(hc:avs[j]?=some c):ArgRel num W u c/\u.oneCell'=true:=by
 obtain⟨s,_,hs⟩:=h.fits.get j c hc
 have hb:=h.bor j u c hu hc
 have:=SRel.of_bor (num:=num) (w:=W) (R:=Old W) (g:=g0 W) (h:=fun _=>none) (ep:=0) (m:=.bor) hb (fun e he=>by cases he) (by simp)
 rw[Zqf hs]at this
 exact⟨this,hb.one⟩
theorem Zus{s:Sh}{k:Nat}(hs:shOf P k t=some [s])(hv:v.cells.toList=[v])(hd:DataW.Trod enc P W base spare held t v d ps):∃ c,Fits s c/\ArgRel num W v c:=by
 obtain⟨n,hn⟩:=hd
 obtain⟨avs,ha⟩:=Zez k t [s] hs n _ _ hn
 rw[hv]at ha
 have hl:=ha.fits.len
 match avs,hl,ha with
 | [c],_,ha =>
  have hf:=ha.fits
  simp only[FitsL,and_true]at hf
  exact⟨c,hf,(ha.arg (j:=0) rfl rfl).1⟩
theorem Zpi{e:TypeId}(ht:P.underlying t=some (.slice e)){k:Nat}{row:List Sh}(hs:shOf P k t=some [.sl row])(hval:Value.okWide P W r b0 t v)(hd:DataW.Trod enc P W base spare held t v d ps) :
  ∃ xs,ArgRel num W v (.sl .bor row.length xs)/\xs.length<=maxLen/\∀ x∈xs,FitsL row x:=by
 obtain⟨a,len,cap,rfl⟩:=okWide_slice ht hval
 obtain⟨c,h1,h2⟩:=Zus (num:=num) (k:=k) (s:=.sl row) hs rfl hd
 simp only[Fits]at h1
 obtain⟨xs,rfl,h3,h4⟩:=h1
 exact⟨xs,h2,h3,h4⟩
end
inductive ArgsRel (num:Nat->Option FuncId) (W:World):List Value->List AV->Prop
 | nil:ArgsRel num W [] []
 | cons (v:Value) (c:AV) (vs:List Value) (cs:List AV) (h:ArgRel num W v c) (hs:ArgsRel num W vs cs):ArgsRel num W (v::vs) (c::cs)
theorem ArgsRel.get{num:Nat->Option FuncId}{W:World}{vs:List Value}{cs:List AV}(h:ArgsRel num W vs cs):vs.length=cs.length/\∀ (i:Nat) (v:Value) (c:AV),vs[i]?=some v->cs[i]?=some c->ArgRel num W v c:=by
 induction h with
 | nil=>exact⟨rfl,fun i v c hv=>by simp at hv⟩
 | cons v c vs cs h _ ih =>
  refine⟨by simp[ih.1],fun i u d hu hd=>?_⟩
  cases i with
  | zero=>simp only[List.getElem?_cons_zero,Option.some.injEq]at hu hd;subst hu;subst hd;exact h
  | succ i=>exact ih.2 i u d (by simpa using hu) (by simpa using hd)
theorem Zp8{P:Program}{num:Nat→Option FuncId}{fz:List (Nat×Obj)}{f:FuncId}{fn:Func}{body:Code}(hf:P.funcs[f]?=some fn)(hb:fn.body=some body)(hn:fn.name≠"runtime.NumGoroutine"){args:List AV}{ans:Bool}
  (hC:Contract P num fz f args [] (.bool ans) []) {W:World} (hfz:∀ p∈fz,W.heap[p.1]?=some p.2) (hsrt:SrtAll P num) {vs:Array Value} (ha:ArgsRel num W vs.toList args):Calls P f vs W fun e W'=>e=.returned (.bool ans)/\Below W.heap.size W W':=by
 obtain⟨hl,hg⟩:=ha.get
 rw[Array.length_toList]at hl
 have h:=hC (cx0 P num fz W) (g0 W) W vs rfl rfl rfl rfl rfl rfl rfl (fun _ h=>h.elim) (mem0 P num W hfz hsrt) hl (fun i v c hv hc=>hg i v c (by simpa using hv) hc)
 have h2:=h ⟨some 0,.move (.tmp 0),0, "",#[],none⟩ ⟨#[undef],[]⟩ (fun a' w' => ∃ I N S fo,Post (cx0 P num fz W) w' (a'.tmps.getD 0 undef) (.bool ans) [] I N S fo) (fun _ _ _ => False) (fun v w' hp => by
  have:((⟨#[undef],[]⟩:Act).put (some 0) v).tmps.getD 0 undef=v:=by simp[Act.put]
  rw[this];exact hp)
 have hcf:(callFunc f vs).run P W=.ok (.enter f vs) W:=by simp[callFunc,hf,hn,hb]
 rw[hcf,Oper.upon_enter]at h2
 refine h2.mono fun e w' he=>?_
 cases e with
 | panicked _=>exact he.elim
 | outgrown=>obtain⟨_,_,h⟩:=he;exact h.elim
 | returned v =>
  obtain⟨I,N,S,fo,hp⟩:=he
  have hv:((⟨#[undef],[]⟩:Act).put (some 0) v).tmps.getD 0 undef=v:=by simp[Act.put]
  rw[hv]at hp
  have hres:=hp.res
  have:v=.bool ans:=by
   cases hres with
   | one _ _ _ h _=>cases h with
    | one _ _ _ h _=>cases h;rfl
  subst this
  exact⟨rfl,hp.frame.os,hp.frame.tape,hp.frame.output,hp.frame.size,fun k hk=>hp.frame.block k hk (fun h=>h)⟩
end Go.Proofs.YtfemiipgkhekiaaGreatDoor
namespace Go.Proofs.YtfemiipgkhekiaaGreatDoor
open Go Go.RowKit Go.WideShapes
set_option linter.unusedSimpArgs false
def I64(n:Int):Prop := -9223372036854775808<=n/\n<=9223372036854775807
structure Want.wf(w:Want):Prop where
 copy:w.copy.size<=maxLen
 hold:w.hold.size<=maxLen
 version:I64 w.version
 pull:I64 w.pull
 start:I64 w.start
 dies:I64 w.dies
 grace:I64 w.grace
structure Run.wf(r:Run):Prop where
 want:r.want.wf
 state:I64 r.state
 left:I64 r.left
 falls:I64 r.falls
 til:I64 r.til
structure Ask.wf(a:Ask):Prop where
 hold:a.hold.size<=maxLen
 copy:a.copy.size<=maxLen
 first:I64 a.first
 at_:I64 a.at_
structure ListWf{α:Type}(p:α->Prop)(xs:List α):Prop where
 len:xs.length<=maxLen
 all:∀ x∈xs,p x
structure Mate.wf(m:Mate):Prop where
 name:m.name.size<=maxLen
 clock:I64 m.clock
 seen:I64 m.seen
 wants:ListWf Want.wf m.wants
 runs:ListWf Run.wf m.runs
 asks:ListWf Ask.wf m.asks
 gives:ListWf Ask.wf m.gives
structure Parcel.wf(p:Parcel):Prop where
 kind:I64 p.kind
 berth:p.berth.size<=maxLen
 seen:I64 p.seen
 wants:ListWf Want.wf p.wants
 hold:p.hold.size<=maxLen
 copy:p.copy.size<=maxLen
 at_:I64 p.at_
structure Grant.wf(g:Grant):Prop where
 hold:g.hold.size<=maxLen
 berth:g.berth.size<=maxLen
 copy:g.copy.size<=maxLen
 at_:I64 g.at_
 til:I64 g.til
structure Place.wf(p:Place):Prop where
 berth:p.berth.size<=maxLen
 seen:I64 p.seen
 wants:ListWf Want.wf p.wants
structure Land.wf(l:Land):Prop where
 time:I64 l.time
 grants:ListWf Grant.wf l.grants
 places:ListWf Place.wf l.places
structure Wld.wf(w:Wld):Prop where
 land:w.land.wf
 mates:ListWf Mate.wf w.mates
 flight:ListWf (fun s:T=>s.size<=maxLen) w.flight
structure Event.wf(e:Event):Prop where
 kind:I64 e.kind
 a:I64 e.a
 b:I64 e.b
 wants:ListWf Want.wf e.wants
 rates:ListWf I64 e.rates
theorem Zkz{α:Type}{row:List Sh}{cf:α->List AV}{p:α->Prop}(hr:∀ c,FitsL row c->∃ x,c=cf x/\p x){c:AV}(h:Fits (.sl row) c):∃ xs,c=.sl .bor row.length (xs.map cf)/\ListWf p xs:=by
 simp only[Fits]at h
 obtain⟨rows,rfl,hl,ha⟩:=h
 have:∀ rows:List (List AV),(∀ r∈rows,FitsL row r)->∃ xs:List α,rows=xs.map cf/\∀ x∈xs,p x:=by
  intro rows
  induction rows with
  | nil=>intro _;exact⟨[],rfl,by simp⟩
  | cons r rows ih =>
   intro h
   obtain⟨x,h1,h2⟩:=hr r (h r List.mem_cons_self)
   obtain⟨xs,h3,h4⟩:=ih fun r hr=>h r (List.mem_cons_of_mem _ hr)
   exact⟨x::xs,by rw[h1,h3];rfl,fun y hy=>by
    rcases List.mem_cons.1 hy with rfl|hy
    ·exact h2
    ·exact h4 y hy⟩
 obtain⟨xs,rfl,h2⟩:=this rows ha
 exact⟨xs,rfl,by simpa using hl,h2⟩
theorem Zpd{c:List AV}(h:FitsL [] c):c=[]:=by
 cases c with
 | nil=>rfl
 | cons _ _=>simp[FitsL]at h
theorem Zoi{s:Sh}{ss:List Sh}{c:List AV}(h:FitsL (s::ss) c):∃ d ds,c=d::ds/\Fits s d/\FitsL ss ds:=by
 cases c with
 | nil=>simp[FitsL]at h
 | cons d ds=>exact⟨d,ds,rfl,by simpa [FitsL] using h⟩
abbrev rowB (b:Int):List AV:=[.int .u8 b]
def Byte(n:Int):Prop:=0<=n/\n<=255
theorem Zmt{c:List AV}(h:FitsL [.int .u8] c):∃ n,c=rowB n/\Byte n:=by
 obtain⟨_,_,rfl,h0,h⟩:=Zoi h
 obtain rfl:=Zpd h
 simp only[Fits]at h0
 obtain⟨n,rfl,hw⟩:=h0
 refine⟨n,rfl,?_⟩
 simp[Lit.wf,IntKind.min,IntKind.max,IntKind.signed,IntKind.bits]at hw
 unfold Byte
 omega
theorem Zfx{H:Type}{enc:TypeId×Value->H}{P:Program}{num:Nat->Option FuncId}{W:World}{r:Reach}{b0 base:Nat}{spare:Nat->Bool}{held:Bool}{t:TypeId}{v:Value}{d:DataW H}{ps:List MemPlace}{e:TypeId}(ht:P.underlying t=some (.slice e)){k:Nat}{row:List Sh}(hs:shOf P k t=some [.sl row])(hval:Value.okWide P W r b0 t v)(hd:DataW.Trod enc P W base spare held t v d ps) :
  ∃ c,Fits (.sl row) c/\ArgRel num W v c:=by
 obtain⟨xs,h1,h2,h3⟩:=Zpi (num:=num) ht hs hval hd
 exact⟨_,by simp only[Fits];exact⟨xs,rfl,h2,h3⟩,h1⟩
theorem Zsn{P':Program}{num:Nat->Option FuncId}{fz:List (Nat×Obj)}{p:CProg}(t:Tied P' num fz p){k:Nat}{f:FuncId}{args:List AV}{r:AV×List (Option AO)}(hn:num k=some f)(h:p.lim k args []=some r):Contract P' num fz f args [] r.1 r.2:=by
 obtain⟨d,hd⟩:=Zk1.1 h
 exact t.call d k f args [] r.1 r.2 hn (hd d (Nat.le_refl _))
end Go.Proofs.YtfemiipgkhekiaaGreatDoor
namespace Go.Proofs.YtfemiipgkhekiaaGreatDoor
open Go
set_option linter.unusedSimpArgs false
set_option maxRecDepth 100000
def Mate.refs(n:Nat)(x:Mate):List AV:=[.str x.name,.bool x.up,.int .i64 x.clock,.bool x.known,.int .i64 x.seen,.ref n,.ref (n+1),.ref (n+2),.ref (n+3)]
def Mate.arrs(x:Mate):List AO:=[.arr 7 (x.wants.map Want.c),.arr 11 (x.runs.map Run.c),.arr 4 (x.asks.map Ask.c),.arr 4 (x.gives.map Ask.c)]
structure Parcel.small(p:Parcel):Prop where
 wants:p.wants.length<=1048576
def Land.zero:Land:=⟨0,[],[]⟩
def zeroL:List AV:=[.int .i64 0,.sl .own 5 [],.sl .own 3 []]
def head122(l:Land)(m:Md)(i:Nat)(acc:List Place):St :=
 hd [(1,.ptr 0 0 0),(2,.ptr 1 0 0),(3,ownVi 2 3 (acc.map (Place.c .own))),(11,.sl .bor 3 (l.places.map (Place.c m))),(12,.int .i64 l.places.length),(13,.int .i64 i)]
  (.box [.int .i64 l.time,.ref (if acc=[] then 2 else 3),.sl .bor 3 (l.places.map (Place.c m))]::.box zeroL::(ownH 3 (acc.map (Place.c .own))++[.arr 5 (l.grants.map Grant.c)])) 0
theorem law122(l:Land)(m:Md)(hl:l.small):F 122 [.agg (l.c .bor m)] []=some (.agg (l.c .own .own),[]):=by
 refine Zah fn122 rfl ?_
 obtain⟨h1,h2,h3⟩:=hl
 have e1:l.grants.length*64<=140737488355328:=by omega
 have f1:l.grants.length<=140737488355328:=by omega
 simp[c122,takeRows,e1,f1]
 refine (Zab l.places (fun i (acc:List Place)=>head122 l m i acc) (fun i acc=>acc.length=i) (fun _ r acc=>(.agg (({ l with places:=acc++r }:Land).c .own .own),[])) (fun acc Y hacc=>?_) (fun i a r acc Y ha hi hr hacc hY=>?_) [] ?_ rfl ?_).trans ?_
 ·rcases acc with _|⟨x,acc⟩
  ·simp[head122,c122b0,zeroL]
  ·simp[head122,c122b0,zeroL]
 ·have hw:IntKind.i64.wrap ((i:Int)+1)=(i:Int)+1:=i64w (by omega) (by omega)
  obtain⟨_,hg⟩:=List.getElem?_eq_some_iff.1 ha
  have hs:=(h3 a (List.mem_of_getElem? ha)).wants
  have e2:a.wants.length*72<=140737488355328:=by omega
  have f2:a.wants.length<=140737488355328:=by omega
  have hb3:(acc.length+1)*48<=140737488355328:=by omega
  have hb4:acc.length+1<=140737488355328:=by omega
  have hY':=fun s' h=>hY (acc++[a]) s' (by simp[hacc]) h
  rcases acc with _|⟨x,acc⟩
  ·simp[head122,c122b0,zeroL,hi,hg,takeRows,e2,f2]
   exact (hY' _ (by simp[head122,hw,zeroL])).trans (by simp)
  ·simp at hb3 hb4
   simp[head122,c122b0,zeroL,hi,hg,takeRows,e2,f2,hb3,hb4]
   exact (hY' _ (by simp[head122,hw,zeroL])).trans (by simp)
 ·simp[head122,zeroL]
 ·unfold big;omega
 ·simp
def told(p:Place):Parcel:=⟨1,p.berth,p.seen,p.wants,⟨#[]⟩,⟨#[]⟩,0⟩
def landTick(l:Land):Land×List Parcel :=
 if landOk l then (if l.time=2000000 then (l,[]) else ({ l with time:=l.time+2 },l.places.map told)) else (.zero,[])
theorem Zmb{l:Land}(h:landOk l=true):0<=l.time/\l.time<=2000000:=by
 unfold landOk at h
 simp only[Bool.and_eq_true]at h
 have:=h.1
 simpa [inR] using this
def n41(acc:List Parcel):Nat:=if acc=[] then 2 else 3
def head41(l:Land)(i:Nat)(acc:List Parcel):St :=
 hd [(1,.ptr 0 0 0),(2,.ptr 1 0 0),(4,ownVi 2 7 (acc.map (Parcel.c .own))),(22,.ref (n41 acc)),(23,.int .i64 l.places.length),(24,.int .i64 i)]
  (.box [.int .i64 (l.time+2),.ref (n41 acc+1),.ref (n41 acc)]::.box zeroL::(ownH 7 (acc.map (Parcel.c .own))++[.arr 3 (l.places.map (Place.c .own)),.arr 5 (l.grants.map Grant.c)])) 0
theorem law41(l:Land)(m:Md)(hl:l.small):F 41 [.agg (l.c .bor m)] []=some (.tup [.agg ((landTick l).1.c .own .own),.sl .own 7 ((landTick l).2.map (Parcel.c .own))],[]):=by
 refine Zah fn41 rfl ?_
 have w1:=law23 l m hl
 have w2:=law122 l m hl
 simp only[Land.c]at w1 w2
 obtain⟨h1,h2,h3⟩:=hl
 unfold landTick
 simp[c41,w1]
 cases hv:landOk l<;>simp
 ·simp[Land.zero]
 have ht:=Zmb hv
 simp[w2]
 by_cases hx:l.time=2000000
 ·simp[hx]
 have hw2:IntKind.i64.wrap (l.time+2)=l.time+2:=i64w (by omega) (by omega)
 simp[hx,hw2]
 refine (Zab l.places (fun i (acc:List Parcel)=>head41 l i acc) (fun i acc=>acc.length=i) (fun _ r acc=>(.tup [.agg (({ l with time:=l.time+2 }:Land).c .own .own),.sl .own 7 ((acc++r.map told).map (Parcel.c .own))],[])) (fun acc Y hacc=>?_) (fun i a r acc Y ha hi hr hacc hY=>?_) [] ?_ rfl ?_).trans ?_
 ·rcases acc with _|⟨x,acc⟩
  ·simp[head41,c41b0,zeroL,n41]
  ·simp[head41,c41b0,zeroL,n41]
 ·have hw:IntKind.i64.wrap ((i:Int)+1)=(i:Int)+1:=i64w (by omega) (by omega)
  obtain⟨_,hg⟩:=List.getElem?_eq_some_iff.1 ha
  have hs:=(h3 a (List.mem_of_getElem? ha)).wants
  have e2:a.wants.length*72<=140737488355328:=by omega
  have f2:a.wants.length<=140737488355328:=by omega
  have hb3:(acc.length+1)*96<=140737488355328:=by omega
  have hb4:acc.length+1<=140737488355328:=by omega
  have hY':=fun s' h=>hY (acc++[told a]) s' (by simp[hacc]) h
  rcases acc with _|⟨x,acc⟩
  ·simp[head41,c41b0,zeroL,n41,hi,hg,takeRows,e2,f2]
   exact (hY' _ (by simp[head41,hw,zeroL,n41,told])).trans (by simp)
  ·simp at hb3 hb4
   simp[head41,c41b0,zeroL,n41,hi,hg,takeRows,e2,f2,hb3,hb4]
   exact (hY' _ (by simp[head41,hw,zeroL,n41,told])).trans (by simp)
 ·simp[head41,zeroL,n41]
 ·unfold big;omega
 ·simp
def Asc{α:Type}(key:α->T)(xs:List α):Prop:=xs.Pairwise fun a b=>sLt (key a) (key b)=true
def ascL{α:Type}(key:α->T)(pre:List α)(x:α):Bool:=match pre.getLast? with
 | none=>true
 | some p=>sLt (key p) (key x)
theorem Zco{α:Type}(key:α->T)(pre:List α)(x:α)(h:Asc key pre):ascL key pre x=true↔Asc key (pre++[x]):=by
 unfold Asc at *
 unfold ascL
 rw[List.pairwise_append]
 rcases List.eq_nil_or_concat pre with rfl|⟨l,p,rfl⟩
 ·simp
 ·simp only[List.concat_eq_append,List.getLast?_append,List.getLast?_singleton,Option.some_or]at h ⊢
  constructor
  ·intro hp
   refine⟨h,List.pairwise_singleton _ _,fun a ha b hb=>?_⟩
   rw[List.mem_singleton.1 hb]
   rcases List.mem_append.1 ha with ha|ha
   ·exact Zch ((List.pairwise_append.1 h).2.2 a ha p (List.mem_singleton.2 rfl)) hp
   ·rw[List.mem_singleton.1 ha];exact hp
  ·exact fun ⟨_,_,k⟩=>k p (List.mem_append_right _ (List.mem_singleton.2 rfl)) x (List.mem_singleton.2 rfl)
theorem Ztt(pre:List Run)(r:Run):ascR pre r=ascL (fun x:Run=>x.want.copy) pre r:=by unfold ascR ascL;cases pre.getLast?<;>rfl
theorem Ztv(pre:List Ask)(r:Ask):ascA pre r=ascL (fun x:Ask=>x.hold) pre r:=by unfold ascA ascL;cases pre.getLast?<;>rfl
theorem Zuh(pre:List Want)(r:Want):ascW pre r=ascL (fun x:Want=>x.copy) pre r:=by unfold ascW ascL;cases pre.getLast?<;>rfl
theorem Asc.left{α:Type}{key:α->T}{a b:List α}(h:Asc key (a++b)):Asc key a:=(List.pairwise_append.1 h).1
theorem Asc.right{α:Type}{key:α->T}{a b:List α}(h:Asc key (a++b)):Asc key b:=(List.pairwise_append.1 h).2.1
theorem Asc.nil{α:Type}(key:α->T):Asc key []:=List.Pairwise.nil
theorem Ze1(c:Int):∀ (rs pre:List Run),Asc (·.want.copy) pre->(runsGo c pre rs=true↔(∀ r∈rs,runOk r c=true)/\Asc (·.want.copy) (pre++rs))
 | [],pre,h=>by simp[runsGo,h]
 | r::rs,pre,h=>by
  have e:=Zco (fun x:Run=>x.want.copy) pre r h
  rw[<- Ztt]at e
  simp only[runsGo,Bool.and_eq_true]
  constructor
  ·rintro⟨h1,h2,h3⟩
   have h4:=e.1 h2
   obtain⟨h5,h6⟩:=(Ze1 c rs (pre++[r]) h4).1 h3
   exact⟨fun x hx=>(List.mem_cons.1 hx).elim (fun q=>q ▸ h1) (h5 x),by simpa using h6⟩
  ·rintro⟨h1,h2⟩
   have h3:Asc (fun x:Run=>x.want.copy) ((pre++[r])++rs):=by simpa using h2
   exact⟨h1 r List.mem_cons_self,e.2 h3.left,(Ze1 c rs (pre++[r]) h3.left).2 ⟨fun x hx=>h1 x (List.mem_cons_of_mem _ hx),h3⟩⟩
theorem Zdb(rs:List Run)(c:Int):runsOk rs c=true↔rs.length<=20/\(∀ r∈rs,runOk r c=true)/\Asc (·.want.copy) rs:=by
 simp only[runsOk,Bool.and_eq_true,decide_eq_true_eq]
 rw[Ze1 c rs [] (Asc.nil _)]
 rfl
theorem Zex(c:Int):∀ (l pre:List Ask),Asc (·.hold) pre->(asksGo c pre l=true↔(∀ r∈l,askOk c r=true)/\Asc (·.hold) (pre++l))
 | [],pre,h=>by simp[asksGo,h]
 | r::rs,pre,h=>by
  have e:=Zco (fun x:Ask=>x.hold) pre r h
  rw[<- Ztv]at e
  simp only[asksGo,Bool.and_eq_true]
  constructor
  ·rintro⟨h1,h2,h3⟩
   have h4:=e.1 h2
   obtain⟨h5,h6⟩:=(Zex c rs (pre++[r]) h4).1 h3
   exact⟨fun x hx=>(List.mem_cons.1 hx).elim (fun q=>q ▸ h1) (h5 x),by simpa using h6⟩
  ·rintro⟨h1,h2⟩
   have h3:Asc (fun x:Ask=>x.hold) ((pre++[r])++rs):=by simpa using h2
   exact⟨h1 r List.mem_cons_self,e.2 h3.left,(Zex c rs (pre++[r]) h3.left).2 ⟨fun x hx=>h1 x (List.mem_cons_of_mem _ hx),h3⟩⟩
theorem Zes(l:List Ask)(c:Int):asksOk l c=true↔l.length<=40/\(∀ r∈l,askOk c r=true)/\Asc (·.hold) l:=by
 simp only[asksOk,Bool.and_eq_true,decide_eq_true_eq]
 rw[Zex c l [] (Asc.nil _)]
 rfl
def Apart(ws:List Want):Prop:=ws.Pairwise fun a b=>sEq b.hold ⟨#[]⟩=true\/sEq a.hold b.hold=false
theorem Zn6(pre:List Want)(w:Want)(h:Apart pre):freshW pre w=true↔Apart (pre++[w]):=by
 unfold Apart at *
 rw[List.pairwise_append]
 simp only[freshW,heldB,Bool.or_eq_true,Bool.not_eq_true',List.any_eq_false,Bool.not_eq_true]
 constructor
 ·rintro (h1|h1)
  ·exact⟨h,List.pairwise_singleton _ _,fun a _ b hb=>by rw[List.mem_singleton.1 hb];exact .inl h1⟩
  ·exact⟨h,List.pairwise_singleton _ _,fun a ha b hb=>by rw[List.mem_singleton.1 hb];exact .inr (h1 a ha)⟩
 ·rintro⟨_,_,k⟩
  by_cases e:sEq w.hold ⟨#[]⟩=true
  ·exact .inl e
  ·exact .inr fun a ha=>(k a ha w (List.mem_singleton.2 rfl)).resolve_left e
theorem Zdr:∀ (l pre:List Want),Asc (·.copy) pre->Apart pre->(wantsGo pre l=true↔(∀ r∈l,wantOk r=true)/\Asc (·.copy) (pre++l)/\Apart (pre++l))
 | [],pre,h,k=>by simp[wantsGo,h,k]
 | r::rs,pre,h,k=>by
  have e:=Zco (fun x:Want=>x.copy) pre r h
  rw[<- Zuh]at e
  have e2:=Zn6 pre r k
  simp only[wantsGo,Bool.and_eq_true]
  constructor
  ·rintro⟨h1,h2,h3,h7⟩
   have h4:=e.1 h2
   obtain⟨h5,h6,h8⟩:=(Zdr rs (pre++[r]) h4 (e2.1 h3)).1 h7
   exact⟨fun x hx=>(List.mem_cons.1 hx).elim (fun q=>q ▸ h1) (h5 x),by simpa using h6,by simpa using h8⟩
  ·rintro⟨h1,h2,h4⟩
   have h3:Asc (fun x:Want=>x.copy) ((pre++[r])++rs):=by simpa using h2
   have h5:Apart ((pre++[r])++rs):=by simpa using h4
   have h6:Apart (pre++[r]):=(List.pairwise_append.1 h5).1
   exact⟨h1 r List.mem_cons_self,e.2 h3.left,e2.2 h6,(Zdr rs (pre++[r]) h3.left h6).2 ⟨fun x hx=>h1 x (List.mem_cons_of_mem _ hx),h3,h5⟩⟩
theorem Zas(ws:List Want):wantsOk ws=true↔ws.length<=10/\(∀ w∈ws,wantOk w=true)/\Asc (·.copy) ws/\Apart ws:=by
 simp only[wantsOk,Bool.and_eq_true,decide_eq_true_eq]
 rw[Zdr ws [] (Asc.nil _) List.Pairwise.nil]
 rfl
theorem Zos:isName ⟨#[]⟩=false:=by decide
theorem Zbk(m:Mate):mateParts m=true↔isName m.name=true/\inR m.clock 0 1000000=true/\inR m.seen 0 1000000=true/\wantsOk m.wants=true/\(m.known=true\/m.wants=[])/\runsOk m.runs m.clock=true/\asksOk m.asks m.clock=true/\asksOk m.gives m.clock=true:=by
 simp only[mateParts,Bool.and_eq_true,Bool.or_eq_true,List.isEmpty_iff]
theorem Za1(m:Mate):mateValid m=true↔mateParts m=true/\apartGo m.gives m.asks=true/\(m.up=true\/mateDown m=true):=by
 simp only[mateValid,Bool.and_eq_true,Bool.or_eq_true]
theorem Zih(c:Int):asksOk [] c=true:=by simp[asksOk,asksGo]
theorem Zl2:wantsOk []=true:=by simp[wantsOk,wantsGo]
theorem Ze0{b:Bool}{r r':Run}{c:Int}(h:runOk r c=true)(e:fallRun b r=some r'):runOk r' c=true/\r'.want=r.want/\(alive r' || !sEq r'.want.hold ⟨#[]⟩)=true/\alive r'=!b/\(b=false->r'=r/\alive r=true):=by
 unfold fallRun at e
 split at e
 case isFalse=>cases e
 rename_i ha
 cases b
 ·simp only[Bool.false_eq_true,if_false,Option.some.injEq]at e
  subst e
  exact⟨h,rfl,by simp[ha],by simp[ha],fun _=>⟨rfl,ha⟩⟩
 ·simp only[if_true]at e
  split at e
  ·cases e
  ·rename_i hh
   simp only[Option.some.injEq]at e
   subst e
   have hh':sEq r.want.hold ⟨#[]⟩=false:=by simpa using hh
   refine⟨?_,rfl,by simp[hh'],by simp[alive,aliveS],fun h=>by cases h⟩
   simp only[runOk,Bool.and_eq_true]at h ⊢
   obtain⟨h1,h2,h3,h4,h5,h6,h7,h8⟩:=h
   exact⟨h1,by simp[inR],by simp[inR],by simp,h5,h6,h7,by simp[alive,aliveS]⟩
theorem Zin{m:Mate}(b:Bool)(h:mateValid m=true):mateValid (mateFall m b)=true:=by
 obtain⟨h1,h2,h3⟩:=(Za1 m).1 h
 obtain⟨p1,p2,p3,p4,p5,p6,p7,p8⟩:=(Zbk m).1 h1
 obtain⟨r1,r2,r3⟩:=(Zdb _ _).1 p6
 unfold mateFall
 rw[if_pos h]
 refine (Za1 _).2 ⟨(Zbk _).2 ⟨p1,p2,by simp[Mate.zero,inR],Zl2,.inr rfl,(Zdb _ _).2 ⟨?_,?_,?_⟩,Zih _,Zih _⟩,by simp[apartGo,Mate.zero],.inr ?_⟩
 ·exact Nat.le_trans (List.length_filterMap_le _ _) r1
 ·intro r hr
  obtain⟨r0,k1,k2⟩:=List.mem_filterMap.1 hr
  exact (Ze0 (r2 r0 k1) k2).1
 ·refine List.Pairwise.filterMap _ (fun a b' hab x hx y hy=>?_) r3
  ·have hx':=hx
   have hy':=hy
   have e:∀ {r r':Run},fallRun b r=some r'->r'.want=r.want:=fun {r r'} e=>by
    unfold fallRun at e
    split at e
    ·split at e
     ·split at e
      ·cases e
      ·rw[<- Option.some.inj e]
     ·rw[<- Option.some.inj e]
    ·cases e
   simp only at hab ⊢
   rw[e hx,e hy];exact hab
 ·simp only[mateDown,Mate.zero,Bool.not_false,List.isEmpty_nil,beq_self_eq_true,Bool.true_and,downRuns,List.all_eq_true]
  intro r hr
  obtain⟨r0,k1,k2⟩:=List.mem_filterMap.1 hr
  exact (Ze0 (r2 r0 k1) k2).2.2.1
theorem Znu{m:Mate}(h:mateValid m=true):mateValid (mateRise m)=true:=by
 obtain⟨h1,h2,h3⟩:=(Za1 m).1 h
 unfold mateRise
 rw[if_pos h]
 refine (Za1 _).2 ⟨h1,h2,?_⟩
 simp only[Bool.or_eq_true]
 rcases h3 with h3|h3
 ·exact .inl (.inl h3)
 ·exact .inr h3
end Go.Proofs.YtfemiipgkhekiaaGreatDoor
namespace Go.Proofs.YtfemiipgkhekiaaGreatDoor
open Go
set_option linter.unusedSimpArgs false
section
variable {α:Type} (key:α->T)
def ltCount(b:T):List α->Nat
 | []=>0
 | y::ys=>if sLt (key y) b then ltCount b ys+1 else 0
def putBy(x:α):List α->List α
 | []=>[x]
 | y::ys=>if sLt (key y) (key x) then y::putBy x ys else if sEq (key y) (key x) then x::ys else x::y::ys
theorem Zax(x:α):∀ l:List α,(putBy key x l).length<=l.length+1
 | []=>Nat.le_refl _
 | y::ys=>by
  have:=Zax x ys
  unfold putBy
  split
  ·simp;omega
  ·split<;>simp
theorem Zav{x:α}:∀ {l:List α} {z:α},z∈putBy key x l->z=x\/z∈l
 | [],z,h=>by simp[putBy]at h;exact .inl h
 | y::ys,z,h=>by
  unfold putBy at h
  split at h
  ·rcases List.mem_cons.1 h with h|h
   ·exact .inr (h ▸ List.mem_cons_self)
   ·exact (Zav h).imp id (List.mem_cons_of_mem _)
  ·split at h
   ·exact (List.mem_cons.1 h).imp id (List.mem_cons_of_mem _)
   ·exact List.mem_cons.1 h
def Lacks(b:T)(l:List α):Prop:=∀ y∈l,key y≠b
theorem Zbf{x:α}:∀ {l:List α},Lacks key (key x) l->(putBy key x l).Perm (l++[x])
 | [],_=>.refl _
 | y::ys,h=>by
  have h2:Lacks key (key x) ys:=fun z hz=>h z (List.mem_cons_of_mem _ hz)
  unfold putBy
  split
  ·exact (Zbf h2).cons y
  ·rw[if_neg (by rw[Zad (h y List.mem_cons_self)];simp)]
   exact (List.perm_append_comm (l₁:=[x]) (l₂:=y::ys))
theorem Zap{x:α}:∀ {l:List α},Asc key l->Asc key (putBy key x l)
 | [],_=>List.pairwise_singleton _ _
 | y::ys,h=>by
  have h1:=List.pairwise_cons.1 h
  unfold putBy
  split
  ·rename_i hlt
   refine List.pairwise_cons.2 ⟨fun z hz=>?_,Zap h1.2⟩
   rcases Zav key hz with rfl|hz
   ·exact hlt
   ·exact h1.1 z hz
  ·rename_i hlt
   split
   ·rename_i he
    have e:=(Zac _ _).1 he
    exact List.pairwise_cons.2 ⟨fun z hz=>by rw[<- e];exact h1.1 z hz,h1.2⟩
   ·rename_i he
    have hne:key y≠key x:=fun e=>he ((Zac _ _).2 e)
    have hxy:sLt (key x) (key y)=true:=by
     cases q:sLt (key x) (key y) with
     | true=>rfl
     | false=>exact absurd (Zhh (by simpa using hlt) q) hne
    refine List.pairwise_cons.2 ⟨fun z hz=>?_,h⟩
    rcases List.mem_cons.1 hz with rfl|hz
    ·exact hxy
    ·exact Zch hxy (h1.1 z hz)
theorem Zcg{x y:α}:∀ {l:List α} {i:Nat},Asc key l->l[i]?=some y->key y=key x->putBy key x l=l.set i x
 | [],i,_,h,_=>by simp at h
 | z::l,i,ha,h,he=>by
  have h1:=List.pairwise_cons.1 ha
  cases i with
  | zero =>
   simp at h
   subst h
   rw[putBy,if_neg (by rw[he,Zak];simp),if_pos (by rw[he];exact sEq_self _)]
   rfl
  | succ i =>
   have hl:l[i]?=some y:=by simpa using h
   have:=h1.1 y (List.mem_of_getElem? hl)
   rw[he]at this
   rw[putBy,if_pos this,Zcg h1.2 hl he]
   rfl
theorem Zug{l:List α}(h:Asc key l){i j:Nat}{x y:α}(hi:l[i]?=some x)(hj:l[j]?=some y)(he:key x=key y):i=j:=by
 have hpw:=List.pairwise_iff_getElem.1 h
 obtain⟨li,xi⟩:=List.getElem?_eq_some_iff.1 hi
 obtain⟨lj,yj⟩:=List.getElem?_eq_some_iff.1 hj
 rcases Nat.lt_trichotomy i j with q|q|q
 ·have:=hpw i j li lj q
  rw[xi,yj,he,Zak]at this
  cases this
 ·exact q
 ·have:=hpw j i lj li q
  rw[xi,yj,he,Zak]at this
  cases this
end
/-! ### Sorting -/
theorem Zfw{c:Nat}:∀ {xs:List (List AV)},Diff c xs->(∀ r∈xs,∃ s,keyAt c r=some s)->keysApart c xs=true
 | [],_,_=>rfl
 | r::rs,h,hk=>by
  have h1:=List.pairwise_cons.1 h
  simp only[keysApart,Bool.and_eq_true,List.all_eq_true,Bool.not_eq_true']
  obtain⟨s,hs⟩:=hk r List.mem_cons_self
  exact⟨by rw[hs];rfl,fun x hx=>Zad (h1.1 x hx),Zfw h1.2 fun x hx=>hk x (List.mem_cons_of_mem _ hx)⟩
theorem Zbr{α:Type}(f:α->List AV)(key:α->T)(c:Nat)(hf:∀ a,keyAt c (f a)=some (key a)){xs ys:List α}(hp:ys.Perm xs)(ha:Asc key ys):keysApart c (xs.map f)=true/\sortRows c (xs.map f)=ys.map f:=by
 have hd:Diff c (ys.map f):=by
  unfold Diff
  rw[List.pairwise_map]
  refine ha.imp fun {a b} h=>?_
  rw[hf,hf]
  exact Zkd h
 have hd2:Diff c (xs.map f):=(List.Perm.pairwise_iff (fun h e=>h e.symm) (hp.map f)).1 hd
 have hs:(ys.map f).Pairwise (fun a b=>rowLt c a b=true):=by
  rw[List.pairwise_map]
  refine ha.imp fun {a b} h=>?_
  unfold rowLt
  rw[hf,hf]
  exact h
 refine⟨Zfw hd2 fun r hr=>?_,Ze5 ((Zbl c _).trans (hp.map f).symm) (Zbu hd2) hs⟩
 obtain⟨a,_,rfl⟩:=List.mem_map.1 hr
 exact⟨_,hf a⟩
end Go.Proofs.YtfemiipgkhekiaaGreatDoor
namespace Go.Proofs.YtfemiipgkhekiaaGreatDoor
open Go
set_option linter.unusedSimpArgs false
set_option maxRecDepth 100000
/-! ### Grants -/
/-! ### Places -/
/-! ### Books -/
def Land.refs(n:Nat)(l:Land):List AV:=[.int .i64 l.time,.ref n,.ref (n+1)]
def Land.arrs(l:Land):List AO:=[.arr 5 (l.grants.map Grant.c),.arr 3 (l.places.map (Place.c .own))]
/-! ### Parcels -/
def seenAt(b:T)(ps:List Place):Int:=match ps[ltCount (·.berth) b ps]? with
 | some p=>if sEq p.berth b then IntKind.i64.wrap (p.seen+1) else 1
 | none=>1
def putPlace(b:T)(ws:List Want)(ps:List Place):List Place:=putBy (·.berth) ⟨b,seenAt b ps,ws⟩ ps
def landPut(l:Land)(b:T)(ws:List Want):Land:={ l with places:=putPlace b ws l.places }
def matePut(l:Land)(b:T)(ws:List Want):Land×Int :=
 if landOk l then (if isName b && wantsOk ws then (if landOk (landPut l b ws) then (landPut l b ws,0) else (l,3)) else (l,2)) else (.zero,1)
theorem Zf3:∀ (r pre:List Place),Asc (·.berth) pre->placesGo pre r=true->Asc (·.berth) (pre++r)
 | [],pre,h,_=>by simpa using h
 | p::r,pre,h,k=>by
  simp only[placesGo,Bool.and_eq_true]at k
  have e:ascP pre p=ascL (fun x:Place=>x.berth) pre p:=by unfold ascP ascL;cases pre.getLast?<;>rfl
  have h2:=(Zco (fun x:Place=>x.berth) pre p h).1 (by rw[<- e];exact k.2.1)
  have:=Zf3 r (pre++[p]) h2 k.2.2.2
  simpa using this
theorem Ze3{l:Land}(h:landOk l=true):Asc (·.berth) l.places/\l.places.length<=4/\l.grants.length<=40:=by
 simp only[landOk,Bool.and_eq_true,decide_eq_true_eq]at h
 have:=Zf3 l.places [] (Asc.nil _) h.2.2.2.2.2
 exact⟨by simpa using this,h.2.2.2.1,h.2.2.1⟩
def lastAt(b:T):List Place->Nat->Int->Int
 | [],_,a=>a
 | p::r,i,a=>lastAt b r (i+1) (if sEq p.berth b then i else a)
theorem Zfg(b:T):∀ (ps:List Place) (i:Nat) (a:Int),(lastAt b ps i a=a/\∀ p∈ps,p.berth≠b)\/∃ j p,ps[j]?=some p/\p.berth=b/\lastAt b ps i a=((i+j:Nat):Int)
 | [],i,a=>.inl ⟨rfl,fun p hp=>by simp at hp⟩
 | p::r,i,a=>by
  unfold lastAt
  rcases Zfg b r (i+1) (if sEq p.berth b then i else a) with ⟨h1,h2⟩|⟨j,q,h1,h2,h3⟩
  ·by_cases hp:p.berth=b
   ·exact .inr ⟨0,p,rfl,hp,by rw[h1,hp,sEq_self];simp⟩
   ·refine .inl ⟨by rw[h1,Zad hp];simp,fun x hx=>?_⟩
    rcases List.mem_cons.1 hx with rfl|hx
    ·exact hp
    ·exact h2 x hx
  ·exact .inr ⟨j+1,q,by simpa using h1,h2,by rw[h3];congr 1;omega⟩
def head70(l:Land)(m:Md)(b:T)(ws:List Want)(i:Nat)(at_:Int):St :=
 hd [(1,.str b),(3,.ptr 0 0 0),(6,.ptr 1 0 0),(8,.ptr 2 0 0),(9,.ptr 3 0 0),(10,.int .i64 at_),(34,.int .i64 l.places.length),(35,.int .i64 i)]
  [.box (l.c .bor m),.box zeroL,.box [.int .i64 l.time,.ref 4,.ref 5],.box [.str b,.int .i64 1,.ref 6],.arr 5 (l.grants.map Grant.c),.arr 3 (l.places.map (Place.c .own)),.arr 7 (ws.map Want.c)] 0
theorem Zo1{b:T}{ps:List Place}{j:Nat}{p:Place}(ha:Asc (·.berth) ps)(hj:ps[j]?=some p)(hp:p.berth=b):seenAt b ps=IntKind.i64.wrap (p.seen+1):=by
 have hlt:j<=ltCount (fun p:Place=>p.berth) b ps/\ps[ltCount (fun p:Place=>p.berth) b ps]?=some p:=by
  induction ps generalizing j with
  | nil=>simp at hj
  | cons q r ih =>
   have h1:=List.pairwise_cons.1 ha
   cases j with
   | zero =>
    simp at hj
    subst hj
    simp[ltCount,hp,Zak]
   | succ j =>
    have hj':r[j]?=some p:=by simpa using hj
    have h2:=h1.1 p (List.mem_of_getElem? hj')
    simp only at h2
    rw[hp]at h2
    obtain⟨h3,h4⟩:=ih h1.2 hj'
    simp[ltCount,h2,h3,h4]
 unfold seenAt
 rw[hlt.2]
 simp[hp]
theorem Zld{b:T}{ps:List Place}(h:∀ p∈ps,p.berth≠b):seenAt b ps=1:=by
 unfold seenAt
 split
 ·rename_i p hp
  rw[Zad (h p (List.mem_of_getElem? hp))]
  rfl
 ·rfl
theorem law70(l:Land)(m:Md)(b:T)(ws:List Want)(hl:l.small)(hw:ws.length<=1048576):F 70 [.agg (l.c .bor m),.str b,.sl .bor 7 (ws.map Want.c)] []=some (.tup [.agg ((matePut l b ws).1.c .own .own),.int .i64 (matePut l b ws).2],[]):=by
 refine Zah fn70 rfl ?_
 have w1:=law23 l m hl
 have w2:=law6 ws (by unfold big;omega)
 have w3:=law122 l m hl
 simp only[Land.c]at w1 w3
 unfold matePut
 cases q1:landOk l
 ·simp[c70,w1,q1,Land.zero]
 cases q2:isName b
 ·simp[c70,w1,w3,q1,q2]
 cases q3:wantsOk ws
 ·simp[c70,w1,w2,w3,q1,q2,q3]
 obtain⟨hasc,hp4,hg40⟩:=Ze3 q1
 have hb:ws.length*72<=140737488355328:=by omega
 have hb2:ws.length<=140737488355328:=by omega
 have hfin:∀ (x:Land),landPut l b ws=x->F 23 [.agg (x.c .bor .own)] []=some (.bool (landOk x),[]):=fun x hx=>law23 x .own ⟨by rw[<- hx];exact hl.grants,by rw[<- hx];have:=Zax (fun p:Place=>p.berth) ⟨b,seenAt b l.places,ws⟩ l.places;simp only[landPut,putPlace];omega,fun p hp=>by
  rw[<- hx]at hp
  rcases Zav (fun p:Place=>p.berth) hp with rfl|hp
  ·exact⟨hw⟩
  ·exact hl.each p hp⟩
 simp[c70,w1,w2,w3,q1,q2,q3,takeRows,hb,hb2]
 refine (Zab l.places (fun i (a:Int)=>head70 l m b ws i a) (fun i a=>lastAt b (l.places.drop i) i a=lastAt b l.places 0 (-1)) (fun _ _ _=>_) (fun a Y hinv=>?_) (fun i p r a Y hp hi hr hinv hY=>?_) (-1) ?_ rfl ?_).trans rfl
 ·rw[List.drop_length]at hinv
  simp only[lastAt]at hinv
  rcases Zfg b l.places 0 (-1) with ⟨h1,h2⟩|⟨j,p,h1,h2,h3⟩
  ·rw[h1]at hinv
   subst hinv
   have hse:=Zld h2
   have hpl:landPut l b ws=⟨l.time,l.grants,putBy (fun p:Place=>p.berth) ⟨b,1,ws⟩ l.places⟩:=by
    simp only[landPut,putPlace,hse]
   have w23:=hfin _ hpl
   rw[hpl]
   have hsort:=Zbr (Place.c .own) (fun p:Place=>p.berth) 0 (fun _=>rfl) (Zbf (fun p:Place=>p.berth) (x:=⟨b,1,ws⟩) (l:=l.places) h2) (Zap (fun p:Place=>p.berth) hasc)
   simp only[List.map_append,List.map_cons,List.map_nil,Place.c]at hsort
   obtain⟨s1,s2⟩:=hsort
   generalize hpp:putBy (fun p:Place=>p.berth) ⟨b,1,ws⟩ l.places=pp at *
   generalize hq:landOk ⟨l.time,l.grants,pp⟩=q at w23
   simp only[Land.c]at w23
   have e1:(l.places.length+1)*48<=140737488355328:=by omega
   have e2:l.places.length+1<=140737488355328:=by omega
   have e3:l.places.length+1<=1000000000:=by omega
   simp[head70,c70b0,zeroL,takeRows,e1,e2,e3,isRef,sortTab,s1,s2,w23]
   cases q<;>simp[w3]
  ·rw[h3]at hinv
   simp only[Nat.zero_add]at hinv
   subst hinv
   obtain⟨hj,hg⟩:=List.getElem?_eq_some_iff.1 h1
   have hse:=Zo1 hasc h1 h2
   have hpl:landPut l b ws=⟨l.time,l.grants,l.places.set j ⟨b,IntKind.i64.wrap (p.seen+1),ws⟩⟩:=by
    simp only[landPut,putPlace,hse]
    rw[Zcg (fun p:Place=>p.berth) hasc h1 h2]
   have w23:=hfin _ hpl
   rw[hpl]
   generalize hq:landOk ⟨l.time,l.grants,l.places.set j ⟨b,IntKind.i64.wrap (p.seen+1),ws⟩⟩=q at w23
   simp only[Land.c,List.map_set,Place.c]at w23
   have hj0:(0:Int)<=(j:Int):=by omega
   simp[head70,c70b0,zeroL,hj,hg,hj0,w23]
   cases q<;>simp[w3,List.map_set]
 ·have hw1:IntKind.i64.wrap ((i:Int)+1)=(i:Int)+1:=i64w (by omega) (by omega)
  obtain⟨_,hg⟩:=List.getElem?_eq_some_iff.1 hp
  have hiI:(i:Int)<l.places.length:=by omega
  have hd:l.places.drop i=p::l.places.drop (i+1):=by rw[List.drop_eq_getElem_cons hi,hg]
  rw[hd]at hinv
  simp only[lastAt]at hinv
  cases hc:sEq p.berth b
  ·rw[hc]at hinv
   simp[head70,c70b0,zeroL,hiI,hi,hg,hc]
   refine hY a _ (by simpa using hinv) ?_
   simp[head70,zeroL,hw1]
  ·rw[hc]at hinv
   simp[head70,c70b0,zeroL,hiI,hi,hg,hc]
   refine hY i _ (by simpa using hinv) ?_
   simp[head70,zeroL,hw1]
 ·simp[head70,zeroL]
 ·unfold big;omega
structure Code(bs:List Int):Prop where
 len:bs.length<=2000
 byte:∀ b∈bs,0<=b/\b<=255
def rdBox(bs:List Int)(p:Int):AO:=.box [.sl .imm 1 (bs.map rowB),.int .i64 p]
noncomputable def pickV(bs:List Int)(p n:Int):Int:=match F 89 [.ptr 0 0 0,.int .i64 n] [rdBox bs p] with
 | some (.int .i64 r,_)=>r
 | _=>0
theorem Zu4{a b:Int}(h1:0<=a)(h2:a<9223372036854775808)(h3:0<=b)(h4:b<9223372036854775808) :
  ∃ r:Int,IntKind.i64.wrap (((a % 2 ^ IntKind.i64.bits).toNat ^^^ (b % 2 ^ IntKind.i64.bits).toNat:Nat):Int)=r/\0<=r/\r<9223372036854775808:=by
 obtain⟨x,rfl⟩:∃ x:Nat,a=x:=⟨a.toNat,by omega⟩
 obtain⟨y,rfl⟩:∃ y:Nat,b=y:=⟨b.toNat,by omega⟩
 have e1:((x:Int) % 2 ^ IntKind.i64.bits).toNat=x:=by simp[IntKind.bits];omega
 have e2:((y:Int) % 2 ^ IntKind.i64.bits).toNat=y:=by simp[IntKind.bits];omega
 have h:=Nat.xor_lt_two_pow (x:=x) (y:=y) (n:=63) (by omega) (by omega)
 refine⟨((x ^^^ y:Nat):Int),?_,by omega,by omega⟩
 rw[e1,e2]
 exact i64w (by omega) (by omega)
theorem Zjq{x n:Int}(hx:0<=x)(hn:1<=n):0<=x.tmod n/\x.tmod n<n:=by
 rw[Int.tmod_eq_emod_of_nonneg hx]
 exact⟨Int.emod_nonneg _ (by omega),Int.emod_lt_of_pos _ (by omega)⟩
theorem law89'(bs:List Int)(p n:Int)(hb:Code bs)(h0:0<=p)(hp:p<=1000000000000)(hn:n<=1000000000):∃ r,F 89 [.ptr 0 0 0,.int .i64 n] [rdBox bs p]=some (.int .i64 r,[some (rdBox bs (p+1))])/\0<=r/\(1<=n->r<n):=by
 have u1:IntKind.i64.wrap (p+1)=p+1:=i64w (by omega) (by omega)
 have u2:IntKind.i64.wrap p=p:=i64w (by omega) (by omega)
 have hl:=hb.len
 by_cases c1:n<1
 ·refine⟨0,Zah fn89 rfl ?_,by omega,by omega⟩
  simp[c89,rdBox,u1,c1]
 by_cases c2:bs=[]
 ·subst c2
  refine⟨0,Zah fn89 rfl ?_,by omega,by omega⟩
  simp[c89,rdBox,u1,c1]
 have hpos:0<bs.length:=List.length_pos_iff.2 c2
 have c2':¬ ((bs.length:Int)=0):=by omega
 have c1n:¬ (n=0):=by omega
 by_cases c3:p<bs.length
 ·obtain⟨b,hbb⟩:∃ b,bs[p.toNat]?=some b:=⟨_,List.getElem?_eq_getElem (by omega)⟩
  obtain⟨_,hg⟩:=List.getElem?_eq_some_iff.1 hbb
  have hr:=hb.byte b (List.mem_of_getElem? hbb)
  have u3:IntKind.i64.wrap b=b:=i64w (by omega) (by omega)
  have ht:=Zjq (x:=b) (n:=n) (by omega) (by omega)
  have hlt:p.toNat<bs.length:=by omega
  refine⟨b.tmod n,Zah fn89 rfl ?_,ht.1,fun _=>ht.2⟩
  simp[c89,rdBox,u1,u2,c1,c2',c2,c3,c1n,hlt,hg,h0,u3]
 ·obtain⟨i1,hi1⟩:∃ i,i=p.tmod bs.length:=⟨_,rfl⟩
  obtain⟨i2,hi2⟩:∃ i,i=(p*7+3).tmod bs.length:=⟨_,rfl⟩
  have k1:=Zjq (x:=p) (n:=bs.length) h0 (by omega)
  have k2:=Zjq (x:=p*7+3) (n:=bs.length) (by omega) (by omega)
  rw[<- hi1]at k1
  rw[<- hi2]at k2
  obtain⟨b1,hb1⟩:∃ b,bs[i1.toNat]?=some b:=⟨_,List.getElem?_eq_getElem (by omega)⟩
  obtain⟨b2,hb2⟩:∃ b,bs[i2.toNat]?=some b:=⟨_,List.getElem?_eq_getElem (by omega)⟩
  obtain⟨_,hg1⟩:=List.getElem?_eq_some_iff.1 hb1
  obtain⟨_,hg2⟩:=List.getElem?_eq_some_iff.1 hb2
  have r1:=hb.byte b1 (List.mem_of_getElem? hb1)
  have r2:=hb.byte b2 (List.mem_of_getElem? hb2)
  have l1:i1.toNat<bs.length:=by omega
  have l2:i2.toNat<bs.length:=by omega
  have v1:IntKind.i64.wrap b1=b1:=i64w (by omega) (by omega)
  have v2:IntKind.i64.wrap b2=b2:=i64w (by omega) (by omega)
  have v3:IntKind.i64.wrap (b1*131)=b1*131:=i64w (by omega) (by omega)
  have v4:IntKind.i64.wrap (p*7)=p*7:=i64w (by omega) (by omega)
  have v5:IntKind.i64.wrap (p*7+3)=p*7+3:=i64w (by omega) (by omega)
  have v6:IntKind.i64.wrap (b2*1117)=b2*1117:=i64w (by omega) (by omega)
  have v7:IntKind.i64.wrap (b1*131+b2*1117)=b1*131+b2*1117:=i64w (by omega) (by omega)
  have v8:IntKind.i64.wrap (p*29)=p*29:=i64w (by omega) (by omega)
  have v9:IntKind.i64.wrap (b1*131+b2*1117+p*29)=b1*131+b2*1117+p*29:=i64w (by omega) (by omega)
  obtain⟨q,hq⟩:∃ q,q=p.tdiv bs.length:=⟨_,rfl⟩
  have hq1:0<=q/\q<=p:=by
   rw[hq,Int.tdiv_eq_ediv_of_nonneg h0]
   exact⟨Int.ediv_nonneg h0 (by omega),Int.ediv_le_self _ h0⟩
  have v10:IntKind.i64.wrap q=q:=i64w (by omega) (by omega)
  have v11:IntKind.i64.wrap (q*53)=q*53:=i64w (by omega) (by omega)
  obtain⟨x,hx⟩:∃ x,x=b1*131+b2*1117+p*29+q*53:=⟨_,rfl⟩
  have v12:IntKind.i64.wrap x=x:=i64w (by omega) (by omega)
  obtain⟨y,hy⟩:∃ y,y=x.tdiv 64:=⟨_,rfl⟩
  have hy1:0<=y/\y<=x:=by
   rw[hy,Int.tdiv_eq_ediv_of_nonneg (by omega)]
   exact⟨Int.ediv_nonneg (by omega) (by omega),Int.ediv_le_self _ (by omega)⟩
  have v13:IntKind.i64.wrap y=y:=i64w (by omega) (by omega)
  obtain⟨z,hz,hz1,hz2⟩:=Zu4 (a:=x) (b:=y) (by omega) (by omega) (by omega) (by omega)
  have ht:=Zjq (x:=z) (n:=n) hz1 (by omega)
  refine⟨z.tmod n,Zah fn89 rfl ?_,ht.1,fun _=>ht.2⟩
  simp[c89,rdBox,u1,u2,c1,c2',c2,c3,c1n,<- hi1,<- hi2,k1.1,k2.1,l1,l2,hg1,hg2,v1,v2,v3,v4,v5,v6,v7,v8,v9,<- hq,v10,v11,<- hx,v12,<- hy,v13,hz]
theorem law89(bs:List Int)(p n:Int)(hb:Code bs)(h0:0<=p)(hp:p<=1000000000000)(hn:n<=1000000000):F 89 [.ptr 0 0 0,.int .i64 n] [rdBox bs p]=some (.int .i64 (pickV bs p n),[some (rdBox bs (p+1))])/\0<=pickV bs p n/\(1<=n->pickV bs p n<n):=by
 obtain⟨r,h1,h2⟩:=law89' bs p n hb h0 hp hn
 have:pickV bs p n=r:=by unfold pickV;rw[h1]
 rw[this]
 exact⟨h1,h2⟩
theorem law91(bs:List Int)(hl:bs.length<=1000000000):F 91 [.sl .imm 1 (bs.map rowB)] []=some (.cellp [.sl .imm 1 ((bs.take 2000).map rowB),.int .i64 0],[]):=by
 refine Zah fn91 rfl ?_
 by_cases h:2000<bs.length
 ·have h1:(2000:Int)<bs.length:=by omega
  have h2:(2000:Int)<=bs.length:=by omega
  simp[c91,h1,h2,slBounds]
 ·have h1:¬ ((2000:Int)<bs.length):=by omega
  have h2:bs.take 2000=bs:=List.take_of_length_le (by omega)
  simp[c91,h1,h2]
def ascM(pre:List Mate)(m:Mate):Bool :=
 match pre.getLast? with
 | none=>true
 | some p=>sLt p.name m.name
def matesGo(pre:List Mate):List Mate->Bool
 | []=>true
 | m::r=>mateValid m && (ascM pre m && matesGo (pre++[m]) r)
def worldOk(w:Wld):Bool:=landOk w.land && (decide (1<=w.mates.length) && (decide (w.mates.length<=4) && (decide (w.flight.length<=300) && matesGo [] w.mates)))
structure Wld.small(w:Wld):Prop where
 land:w.land.small
 mates:w.mates.length<=1048576
 each:∀ m∈w.mates,m.small
 flight:w.flight.length<=1048576
@[simp] def Wld.cc(m ml mt:Md)(w:Wld):List AV:=[.int .i64 w.land.time,.sl m 5 (w.land.grants.map Grant.c),.sl m 3 (w.land.places.map (Place.c ml)),.sl m 9 (w.mates.map (Mate.c mt)),.sl m 1 (w.flight.map fun s=>[.str s])]
def head57(w:Wld)(ml mm:Md)(i:Nat):St:=hd [(1,.ptr 0 0 0),(28,.sl .bor 9 (w.mates.map (Mate.c mm))),(29,.int .i64 w.mates.length),(30,.int .i64 i)] [.box (w.cc .bor ml mm)] 0
theorem law57c(w:Wld)(ml mm:Md)(hw:w.small):F 57 [.agg (w.cc .bor ml mm)] []=some (.bool (worldOk w),[]):=by
 refine Zah fn57 rfl ?_
 have w1:=law23 w.land ml hw.land
 simp only[Land.c]at w1
 have hl:=hw.mates
 have hf:=hw.flight
 simp[c57,worldOk,w1]
 cases q1:landOk w.land<;>simp
 by_cases q2:1<=w.mates.length
 case neg =>
  have q2':¬ (1<=(w.mates.length:Int)):=by omega
  have q2a:(w.mates.length:Int)<1:=by omega
  simp[q2,q2',q2a]
 have q2':1<=(w.mates.length:Int):=by omega
 have q2a:¬ ((w.mates.length:Int)<1):=by omega
 simp[q2,q2',q2a]
 by_cases q3:w.mates.length<=4
 case neg =>
  have q3':¬ ((w.mates.length:Int)<=4):=by omega
  have q3a:4<(w.mates.length:Int):=by omega
  simp[q3,q3',q3a]
 have q3':(w.mates.length:Int)<=4:=by omega
 have q3a:¬ (4<(w.mates.length:Int)):=by omega
 simp[q3,q3',q3a]
 by_cases q4:w.flight.length<=300
 case neg =>
  have q4':¬ ((w.flight.length:Int)<=300):=by omega
  have q4a:300<(w.flight.length:Int):=by omega
  simp[q4,q4',q4a]
 have q4':(w.flight.length:Int)<=300:=by omega
 have q4a:¬ (300<(w.flight.length:Int)):=by omega
 simp[q4,q4',q4a]
 refine (Zab w.mates (fun i (_:Unit)=>head57 w ml mm i) (fun _ _=>True) (fun i r _=>(.bool (matesGo (w.mates.take i) r),[])) (fun acc Y _=>?_) (fun i a r acc Y ha hi hr _ hY=>?_) () ?_ trivial ?_).trans rfl
 ·simp[head57,c57b0,matesGo]
 ·have hw1:IntKind.i64.wrap ((i:Int)+1)=(i:Int)+1:=i64w (by omega) (by omega)
  obtain⟨_,hg⟩:=List.getElem?_eq_some_iff.1 ha
  have hs:=Zao ha
  have w28:=law28 a (hw.each a (List.mem_of_getElem? ha))
  simp only[Mate.c]at w28
  have hY':∀ s',s'.norm [1,28,29,30]=head57 w ml mm (i+1)->fin [CRes.tmp 2] 0 (Y s')=some (.bool (matesGo (w.mates.take i++[a]) r),[]):=fun s' h=>by rw[<- hs];exact hY () s' trivial h
  rcases Zmy hi (by omega) with ⟨hp,hlast⟩|⟨j,hp,hw2,hj,hlast⟩
  ·simp[head57,c57b0,matesGo,hg,hi,ascM,hp,hlast,w28]
   cases r1:mateValid a<;>simp
   exact (hY' _ (by simp[head57,hw1])).trans (by simp)
  ·simp[head57,c57b0,matesGo,hg,hi,ascM,hp,hw2,hj,hlast,w28]
   cases r1:mateValid a<;>simp
   cases r2:sLt w.mates[j].name a.name<;>simp
   exact (hY' _ (by simp[head57,hw1])).trans (by simp)
 ·simp[head57]
 ·unfold big;omega
def head58(w:Wld)(ml mm:Md)(i:Nat):St:=hd [(1,.ptr 0 0 0),(3,.int .i64 i)] [.box (w.cc .bor ml mm)] 0
theorem law58c(w:Wld)(ml mm:Md)(hw:w.small):F 58 [.agg (w.cc .bor ml mm)] []=some (.bool (worldOk w),[]):=by
 refine Zah fn58 rfl ?_
 have w1:=law24 w.land ml hw.land
 simp only[Land.c]at w1
 have hl:=hw.mates
 have hf:=hw.flight
 simp[c58,worldOk,w1,inR]
 cases q1:landOk w.land<;>simp
 by_cases q2:1<=w.mates.length
 case neg =>
  have q2':¬ (1<=(w.mates.length:Int)):=by omega
  have q2a:(w.mates.length:Int)<1:=by omega
  simp[q2,q2',q2a]
 have q2':1<=(w.mates.length:Int):=by omega
 have q2a:¬ ((w.mates.length:Int)<1):=by omega
 simp[q2,q2',q2a]
 by_cases q3:w.mates.length<=4
 case neg =>
  have q3':¬ ((w.mates.length:Int)<=4):=by omega
  have q3a:4<(w.mates.length:Int):=by omega
  simp[q3,q3',q3a]
 have q3':(w.mates.length:Int)<=4:=by omega
 have q3a:¬ (4<(w.mates.length:Int)):=by omega
 simp[q3,q3',q3a]
 by_cases q4:w.flight.length<=300
 case neg =>
  have q4':¬ ((w.flight.length:Int)<=300):=by omega
  have q4a:300<(w.flight.length:Int):=by omega
  simp[q4,q4',q4a]
 have q4':(w.flight.length:Int)<=300:=by omega
 have q4a:¬ (300<(w.flight.length:Int)):=by omega
 simp[q4,q4',q4a]
 refine (Zab w.mates (fun i (_:Unit)=>head58 w ml mm i) (fun _ _=>True) (fun i r _=>(.bool (matesGo (w.mates.take i) r),[])) (fun acc Y _=>?_) (fun i a r acc Y ha hi hr _ hY=>?_) () ?_ trivial ?_).trans rfl
 ·simp[head58,c58b0,matesGo]
 ·have hw1:IntKind.i64.wrap ((i:Int)+1)=(i:Int)+1:=i64w (by omega) (by omega)
  obtain⟨_,hg⟩:=List.getElem?_eq_some_iff.1 ha
  have hs:=Zao ha
  have w28:=law29 a (hw.each a (List.mem_of_getElem? ha))
  simp only[Mate.c]at w28
  have hY':∀ s',s'.norm [1,3]=head58 w ml mm (i+1)->fin [CRes.tmp 2] 0 (Y s')=some (.bool (matesGo (w.mates.take i++[a]) r),[]):=fun s' h=>by rw[<- hs];exact hY () s' trivial h
  rcases Zmy hi (by omega) with ⟨hp,hlast⟩|⟨j,hp,hw2,hj,hlast⟩
  ·simp[head58,c58b0,matesGo,hg,hi,ascM,hp,hlast,w28]
   cases r1:mateValid a<;>simp
   exact (hY' _ (by simp[head58,hw1])).trans (by simp)
  ·simp[head58,c58b0,matesGo,hg,hi,ascM,hp,hw2,hj,hlast,w28]
   cases r1:mateValid a<;>simp
   cases r2:sLt w.mates[j].name a.name<;>simp
   exact (hY' _ (by simp[head58,hw1])).trans (by simp)
 ·simp[head58]
 ·unfold big;omega
def eqWant(a b:Want):Bool:=sEq a.copy b.copy && (a.version == b.version && (sEq a.hold b.hold && (a.pull == b.pull && (a.start == b.start && (a.dies == b.dies && a.grace == b.grace)))))
theorem Znv(a b:Want):eqWant a b=true↔a=b:=by
 cases a;cases b
 simp[eqWant,Zac]
@[simp] theorem eqCells_want(s1:T)(n1:Int)(h1:T)(p1 q1 d1 g1:Int)(s2:T)(n2:Int)(h2:T)(p2 q2 d2 g2:Int) :
  eqCells [.s,.i,.s,.i,.i,.i,.i] [.str s1,.int .i64 n1,.str h1,.int .i64 p1,.int .i64 q1,.int .i64 d1,.int .i64 g1] [.str s2,.int .i64 n2,.str h2,.int .i64 p2,.int .i64 q2,.int .i64 d2,.int .i64 g2] =
   some (eqWant ⟨s1,n1,h1,p1,q1,d1,g1⟩ ⟨s2,n2,h2,p2,q2,d2,g2⟩):=by
 simp only[eqCells,eqCell,eqWant,if_true,List.length_cons,List.length_nil,and_self]
 cases sEq s1 s2<;>simp only[Bool.false_and,Bool.true_and]
 cases n1 == n2<;>simp only[Bool.false_and,Bool.true_and]
 cases sEq h1 h2<;>simp only[Bool.false_and,Bool.true_and]
 cases p1 == p2<;>simp only[Bool.false_and,Bool.true_and]
 cases q1 == q2<;>simp only[Bool.false_and,Bool.true_and]
 cases d1 == d2<;>simp only[Bool.false_and,Bool.true_and]
 cases g1 == g2<;>rfl
def sameGo:List Want->List Want->Bool
 | a::as,b::bs=>eqWant a b && sameGo as bs
 | _,_=>true
def sameWants(a b:List Want):Bool:=decide (a.length=b.length) && sameGo a b
def head138(a b:List Want)(i:Nat):St:=hd [(0,.sl .bor 7 (a.map Want.c)),(1,.sl .bor 7 (b.map Want.c)),(5,.int .i64 i)] [] 0
theorem law138(a b:List Want)(ha:a.length<=1048576)(_:b.length<=1048576):F 138 [.sl .bor 7 (a.map Want.c),.sl .bor 7 (b.map Want.c)] []=some (.bool (sameWants a b),[]):=by
 refine Zah fn138 rfl ?_
 simp[c138,sameWants]
 by_cases hl:a.length=b.length
 case neg =>
  have hl':¬ ((a.length:Int)=b.length):=by omega
  simp[hl,hl']
 simp[hl]
 refine (Zab a (fun i (_:Unit)=>head138 a b i) (fun _ _=>True) (fun i r _=>(.bool (sameGo r (b.drop i)),[])) (fun acc Y _=>?_) (fun i x r acc Y hx hi hr _ hY=>?_) () ?_ trivial ?_).trans (by simp)
 ·simp[head138,c138b0,sameGo]
 ·have hw:IntKind.i64.wrap ((i:Int)+1)=(i:Int)+1:=i64w (by omega) (by omega)
  obtain⟨_,hg⟩:=List.getElem?_eq_some_iff.1 hx
  have hi2:i<b.length:=by omega
  have hd:b.drop i=b[i]::b.drop (i+1):=List.drop_eq_getElem_cons hi2
  rw[hd]
  simp[head138,c138b0,sameGo,hg,hi,hi2]
  cases q:eqWant x b[i]<;>simp
  exact hY () _ trivial (by simp[head138,hw])
 ·simp[head138]
 ·unfold big;omega
def wantsFor(name:T)(acc:List Want):List Place->List Want
 | []=>acc
 | p::r=>wantsFor name (if sEq p.berth name then p.wants else acc) r
def runsAre:List Run->List Want->Bool
 | r::rs,w::ws=>eqWant r.want w && (r.state == 4 && runsAre rs ws)
 | _,_=>true
def settledRuns(up:Bool)(rs:List Run)(ws:List Want):Bool:=up && (decide (rs.length=ws.length) && runsAre rs ws)
def settledMate(ps:List Place)(m:Mate):Bool:=settledRuns m.up m.runs (wantsFor m.name [] ps)
def settled(w:Wld):Bool:=worldOk w && w.mates.all (settledMate w.land.places)
def wantV(acc:Option (List Want)):AV:=match acc with
 | none=>.sl .own 7 []
 | some ws=>.sl .bor 7 (ws.map Want.c)
def head68m(w:Wld)(ml mm:Md)(i:Nat):St:=hd [(1,.ptr 0 0 0),(14,.sl .bor 9 (w.mates.map (Mate.c mm))),(15,.int .i64 w.mates.length),(16,.int .i64 i)] [.box (w.cc .bor ml mm)] 0
def head68p(w:Wld)(ml mm:Md)(i:Nat)(m:Mate)(j:Nat)(acc:Option (List Want)):St:=hd [(1,.ptr 0 0 0),(4,.ptr 1 0 0),(5,wantV acc),(14,.sl .bor 9 (w.mates.map (Mate.c mm))),(15,.int .i64 w.mates.length),(16,.int .i64 i),(22,.sl .bor 3 (w.land.places.map (Place.c ml))),(23,.int .i64 w.land.places.length),(24,.int .i64 j)] [.box (w.cc .bor ml mm),.box (m.c .bor)] 0
def head68r(w:Wld)(ml mm:Md)(i:Nat)(m:Mate)(ws:List Want)(j:Nat):St:=hd [(1,.ptr 0 0 0),(5,.sl .bor 7 (ws.map Want.c)),(14,.sl .bor 9 (w.mates.map (Mate.c mm))),(15,.int .i64 w.mates.length),(16,.int .i64 i),(48,.sl .bor 11 (m.runs.map Run.c)),(49,.int .i64 m.runs.length),(50,.int .i64 j)] [.box (w.cc .bor ml mm)] 0
def head68e(w:Wld)(ml mm:Md)(i:Nat):St:=hd [(1,.ptr 0 0 0),(5,.sl .own 7 []),(14,.sl .bor 9 (w.mates.map (Mate.c mm))),(15,.int .i64 w.mates.length),(16,.int .i64 i),(48,.sl .bor 11 []),(49,.int .i64 0),(50,.int .i64 0)] [.box (w.cc .bor ml mm)] 0
theorem law68c(w:Wld)(ml mm:Md)(hw:w.small):F 68 [.agg (w.cc .bor ml mm)] []=some (.bool (settled w),[]):=by
 refine Zah fn68 rfl ?_
 have w1:=law57c w ml mm hw
 simp only[Wld.cc,Wld.c]at w1
 have hl:=hw.mates
 have hlp:=hw.land.places
 simp only[settled]
 simp[c68,w1]
 cases q1:worldOk w<;>simp
 refine (Zab w.mates (fun i (_:Unit)=>head68m w ml mm i) (fun _ _=>True) (fun _ r _=>(.bool (r.all (settledMate w.land.places)),[])) (fun acc Y _=>?_) (fun i a r acc Y ha hi hr _ hY=>?_) () ?_ trivial ?_).trans (by simp)
 ·simp[head68m,c68b2]
 ·have hw1:IntKind.i64.wrap ((i:Int)+1)=(i:Int)+1:=i64w (by omega) (by omega)
  obtain⟨_,hg⟩:=List.getElem?_eq_some_iff.1 ha
  have hrs:=(hw.each a (List.mem_of_getElem? ha)).runs
  simp only[List.all_cons]
  simp[head68m,c68b2,hg,hi]
  refine (Zab w.land.places (fun j (acc:Option (List Want))=>head68p w ml mm i a j acc) (fun _ acc=>∀ ws,acc=some ws->ws.length<=1048576) (fun _ t acc=>(.bool (settledRuns a.up a.runs (wantsFor a.name (acc.getD []) t) && r.all (settledMate w.land.places)),[])) (fun acc Z hacc=>?_) (fun j p t acc Z hp hj ht hacc hZ=>?_) none ?_ (fun ws h=>by cases h) ?_).trans (by simp[settledMate])
  ·simp only[wantsFor,settledRuns]
   cases q2:a.up
   ·rcases acc with _|ws<;>simp[head68p,c68b0,q2]
   rcases acc with _|ws
   ·by_cases q3:a.runs=[]
    ·simp[head68p,c68b0,wantV,q2,q3]
     refine (Zab ([]:List Run) (fun _ (_:Unit)=>head68e w ml mm i) (fun _ _=>True) (fun _ _ _=>(.bool (r.all (settledMate w.land.places)),[])) (fun acc V _=>?_) (fun jj b u acc V hb _ _ _ _=>by simp at hb) () ?_ trivial ?_).trans (by simp[runsAre])
     ·simp[head68e,c68b1]
      exact (hY () _ trivial (by simp[head68m,hw1])).trans (by simp)
     ·simp[head68e]
     ·unfold big;simp
    ·have q4:¬ (a.runs.length=0):=fun h=>q3 (List.length_eq_zero_iff.1 h)
     simp[head68p,c68b0,wantV,q2,q3,q4]
   ·have hws:=hacc ws rfl
    by_cases q3:a.runs.length=ws.length
    case neg =>
     have q4:¬ ((a.runs.length:Int)=ws.length):=by omega
     simp[head68p,c68b0,wantV,q2,q3,q4]
    simp[head68p,c68b0,wantV,q2,q3]
    refine (Zab a.runs (fun j (_:Unit)=>head68r w ml mm i a ws j) (fun _ _=>True) (fun j t _=>(.bool (runsAre t (ws.drop j) && r.all (settledMate w.land.places)),[])) (fun acc V _=>?_) (fun jj b u acc V hb hjj hu _ hV=>?_) () ?_ trivial ?_).trans (by simp)
    ·simp[head68r,c68b1,runsAre]
     exact (hY () _ trivial (by simp[head68m,hw1])).trans (by simp)
    ·have hwj:IntKind.i64.wrap ((jj:Int)+1)=(jj:Int)+1:=i64w (by omega) (by omega)
     obtain⟨_,hgb⟩:=List.getElem?_eq_some_iff.1 hb
     have hj2:jj<ws.length:=by omega
     have hd:ws.drop jj=ws[jj]::ws.drop (jj+1):=List.drop_eq_getElem_cons hj2
     rw[hd]
     simp only[runsAre]
     simp[head68r,c68b1,hjj,hgb,hj2]
     cases q5:eqWant b.want ws[jj]<;>simp
     by_cases q6:b.state=4<;>simp[q6]
     exact (hV () _ trivial (by simp[head68r,hwj])).trans (by simp)
    ·simp[head68r,q3]
    ·unfold big;omega
  ·have hwj:IntKind.i64.wrap ((j:Int)+1)=(j:Int)+1:=i64w (by omega) (by omega)
   obtain⟨_,hgp⟩:=List.getElem?_eq_some_iff.1 hp
   have hpw:=(hw.land.each p (List.mem_of_getElem? hp)).wants
   simp only[wantsFor]
   rcases acc with _|ws
   all_goals
    simp[head68p,c68b0,wantV,hj,hgp]
    cases q2:sEq p.berth a.name<;>simp
    ·refine (hZ _ _ hacc (by simp[head68p,hwj,wantV])).trans (by simp)
    ·refine (hZ (some p.wants) _ (fun ws h=>by cases h;exact hpw) (by simp[head68p,hwj,wantV])).trans (by simp)
  ·simp[head68p,wantV]
  ·unfold big;omega
 ·simp[head68m]
 ·unfold big;omega
theorem Zfq:∀ (rs:List Run) (ws:List Want),rs.length=ws.length->(rs.all (fun r=>r.state == 4) && sameGo (rs.map Run.want) ws)=runsAre rs ws
 | [],[],_=>rfl
 | r::rs,w::ws,h=>by
  have ih:=Zfq rs ws (by simpa using h)
  simp only[List.all_cons,List.map_cons,sameGo,runsAre,<- ih]
  cases r.state == 4<;>cases eqWant r.want w<;>cases rs.all (fun r=>r.state == 4)<;>rfl
 | [],_::_,h=>by simp at h
 | _::_,[],h=>by simp at h
theorem Zku(up:Bool)(rs:List Run)(ws:List Want):(rs.all (fun r=>r.state == 4) && (up && sameWants (rs.map Run.want) ws))=settledRuns up rs ws:=by
 unfold sameWants settledRuns
 rw[List.length_map]
 by_cases h:rs.length=ws.length
 ·rw[<- Zfq rs ws h]
  cases up<;>simp[h]
 ·cases up<;>simp[h]
def head69m(w:Wld)(ml mm:Md)(i:Nat):St:=hd [(1,.ptr 0 0 0),(3,.int .i64 i)] [.box (w.cc .bor ml mm)] 0
def wantV2(acc:Option (List Want)):AV:=match acc with
 | none=>.ref 2
 | some ws=>.sl .bor 7 (ws.map Want.c)
def wantH2(acc:Option (List Want)):List AO:=match acc with
 | none=>[.arr 7 []]
 | some _=>[]
def haveV(acc:Option (List Want)):AV:=match acc with
 | none=>.ref 3
 | some _=>.ref 2
def head69p(w:Wld)(ml mm:Md)(i:Nat)(m:Mate)(j:Nat)(acc:Option (List Want)):St:=hd [(1,.ptr 0 0 0),(3,.int .i64 i),(4,.ptr 1 0 0),(5,wantV2 acc),(6,.int .i64 j)] (.box (w.cc .bor ml mm)::.box (m.c .bor)::wantH2 acc) 0
def head69r(w:Wld)(ml mm:Md)(i:Nat)(m:Mate)(j:Nat)(acc:Option (List Want))(hv:List Want):St:=hd [(1,.ptr 0 0 0),(3,.int .i64 i),(4,.ptr 1 0 0),(5,wantV2 acc),(7,haveV acc),(8,.int .i64 j)] (.box (w.cc .bor ml mm)::.box (m.c .bor)::(wantH2 acc++[.arr 7 (hv.map Want.c)])) 0
theorem law69c(w:Wld)(ml mm:Md)(hw:w.small):F 69 [.agg (w.cc .bor ml mm)] []=some (.bool (settled w),[]):=by
 refine Zah fn69 rfl ?_
 have w1:=law58c w ml mm hw
 simp only[Wld.cc,Wld.c]at w1
 have hl:=hw.mates
 have hlp:=hw.land.places
 simp only[settled]
 simp[c69,w1]
 cases q1:worldOk w<;>simp
 refine (Zab w.mates (fun i (_:Unit)=>head69m w ml mm i) (fun _ _=>True) (fun _ r _=>(.bool (r.all (settledMate w.land.places)),[])) (fun acc Y _=>?_) (fun i a r acc Y ha hi hr _ hY=>?_) () ?_ trivial ?_).trans (by simp)
 ·simp[head69m,c69b2]
 ·have hw1:IntKind.i64.wrap ((i:Int)+1)=(i:Int)+1:=i64w (by omega) (by omega)
  obtain⟨_,hg⟩:=List.getElem?_eq_some_iff.1 ha
  have hrs:=(hw.each a (List.mem_of_getElem? ha)).runs
  simp only[List.all_cons]
  simp[head69m,c69b2,hg,hi]
  refine (Zab w.land.places (fun j (acc:Option (List Want))=>head69p w ml mm i a j acc) (fun _ acc=>∀ ws,acc=some ws->ws.length<=1048576) (fun _ t acc=>(.bool (settledRuns a.up a.runs (wantsFor a.name (acc.getD []) t) && r.all (settledMate w.land.places)),[])) (fun acc Z hacc=>?_) (fun j p t acc Z hp hj ht hacc hZ=>?_) none ?_ (fun ws h=>by cases h) ?_).trans (by simp[settledMate])
  ·simp only[wantsFor]
   rw[<- Zku]
   have hws:(acc.getD []).length<=1048576:=by
    rcases acc with _|ws
    ·simp
    ·exact hacc ws rfl
   rcases acc with _|ws
   ·simp only[Option.getD_none]at hws ⊢
    simp[head69p,c69b0,wantV2,wantH2]
    refine (Zab a.runs (fun j (hv:List Want)=>head69r w ml mm i a j none hv) (fun j hv=>hv.length=j) (fun _ t hv=>(.bool ((t.all (fun r=>r.state == 4) && (a.up && sameWants (hv++t.map Run.want) [])) && r.all (settledMate w.land.places)),[])) (fun hv V hhv=>?_) (fun jj b u hv V hb hjj hu hhv hV=>?_) [] ?_ rfl ?_).trans (by simp)
    ·have w138:=law138 hv [] (by omega) hws
     try simp only[List.map_nil]at w138
     simp[head69r,c69b1,wantV2,wantH2,haveV,w138]
     cases q2:a.up<;>simp
     cases q3:sameWants hv []<;>simp
     exact (hY () _ trivial (by simp[head69m,hw1])).trans (by simp)
    ·have hwj:IntKind.i64.wrap ((jj:Int)+1)=(jj:Int)+1:=i64w (by omega) (by omega)
     obtain⟨_,hgb⟩:=List.getElem?_eq_some_iff.1 hb
     have hb3:(hv.length+1)*72<=140737488355328:=by omega
     have hb4:hv.length+1<=140737488355328:=by omega
     simp only[List.all_cons]
     simp[head69r,c69b1,wantV2,wantH2,haveV,hjj,hgb,takeRows,rowsPlain,hb3,hb4]
     by_cases q6:b.state=4<;>simp[q6]
     exact (hV (hv++[b.want]) _ (by simp[hhv]) (by simp[head69r,hwj,wantV2,wantH2,haveV])).trans (by simp)
    ·simp[head69r,wantV2,wantH2,haveV]
    ·unfold big;omega
   ·simp only[Option.getD_some]at hws ⊢
    simp[head69p,c69b0,wantV2,wantH2]
    refine (Zab a.runs (fun j (hv:List Want)=>head69r w ml mm i a j (some ws) hv) (fun j hv=>hv.length=j) (fun _ t hv=>(.bool ((t.all (fun r=>r.state == 4) && (a.up && sameWants (hv++t.map Run.want) ws)) && r.all (settledMate w.land.places)),[])) (fun hv V hhv=>?_) (fun jj b u hv V hb hjj hu hhv hV=>?_) [] ?_ rfl ?_).trans (by simp)
    ·have w138:=law138 hv ws (by omega) hws
     try simp only[List.map_nil]at w138
     simp[head69r,c69b1,wantV2,wantH2,haveV,w138]
     cases q2:a.up<;>simp
     cases q3:sameWants hv ws<;>simp
     exact (hY () _ trivial (by simp[head69m,hw1])).trans (by simp)
    ·have hwj:IntKind.i64.wrap ((jj:Int)+1)=(jj:Int)+1:=i64w (by omega) (by omega)
     obtain⟨_,hgb⟩:=List.getElem?_eq_some_iff.1 hb
     have hb3:(hv.length+1)*72<=140737488355328:=by omega
     have hb4:hv.length+1<=140737488355328:=by omega
     simp only[List.all_cons]
     simp[head69r,c69b1,wantV2,wantH2,haveV,hjj,hgb,takeRows,rowsPlain,hb3,hb4]
     by_cases q6:b.state=4<;>simp[q6]
     exact (hV (hv++[b.want]) _ (by simp[hhv]) (by simp[head69r,hwj,wantV2,wantH2,haveV])).trans (by simp)
    ·simp[head69r,wantV2,wantH2,haveV]
    ·unfold big;omega
  ·have hwj:IntKind.i64.wrap ((j:Int)+1)=(j:Int)+1:=i64w (by omega) (by omega)
   obtain⟨_,hgp⟩:=List.getElem?_eq_some_iff.1 hp
   have hpw:=(hw.land.each p (List.mem_of_getElem? hp)).wants
   simp only[wantsFor]
   rcases acc with _|ws
   all_goals
    simp[head69p,c69b0,wantV2,wantH2,hj,hgp]
    cases q2:sEq p.berth a.name<;>simp
    ·refine (hZ _ _ hacc (by simp[head69p,hwj,wantV2,wantH2])).trans (by simp)
    ·refine (hZ (some p.wants) _ (fun ws h=>by cases h;exact hpw) (by simp[head69p,hwj,wantV2,wantH2])).trans (by simp)
  ·simp[head69p,wantV2,wantH2]
  ·unfold big;omega
 ·simp[head69m]
 ·unfold big;omega
theorem law68(w:Wld)(mm:Md)(hw:w.small):F 68 [.agg (w.c .bor mm)] []=some (.bool (settled w),[]):=law68c w mm mm hw
theorem law69(w:Wld)(mm:Md)(hw:w.small):F 69 [.agg (w.c .bor mm)] []=some (.bool (settled w),[]):=law69c w mm mm hw
def Run.zero:Run:=⟨⟨⟨#[]⟩,0,⟨#[]⟩,0,0,0,0⟩,0,0,0,0⟩
def beginR(r:Run)(clock:Int):Run:=if leased r clock then { r with state:=3,left:=r.want.start } else { r with state:=2,left:=0 }
def fallsUp(n:Int):Int:=if n<1000 then n+1 else n
def leftOf(f:Int):Int:=if 4<=f then 16 else if f<=0 then 1 else if f=1 then 2 else if f=2 then 4 else 8
def dies(r:Run):Run:={ r with falls:=fallsUp r.falls,state:=5,left:=leftOf (fallsUp r.falls) }
def mateLive(r:Run)(w:Want)(wanted:Bool)(clock:Int):Option Run :=
 if (!wanted || !eqWant w r.want) && r.state != 6 then (if alive r then some { r with state:=6,left:=r.want.grace } else none)
 else if r.state≠2/\1<r.left then some { r with left:=r.left-1 }
 else if r.state=3 then some { r with state:=4,left:=r.want.dies }
 else if r.state=4 then (if r.left=1 then some (dies r) else some r)
 else if r.state=6 then none
 else if r.state=1\/r.state=2\/r.state=5 then some (beginR r clock)
 else some r
def liveRes(r:Run)(w:Want)(wanted:Bool)(clock:Int):AV:=.tup [.agg ((mateLive r w wanted clock).getD .zero).c,.bool (mateLive r w wanted clock).isSome]
theorem law92(r:Run)(clock:Int):F 92 [.agg r.c,.int .i64 clock] []=some (.agg (beginR r clock).c,[]):=by
 refine Zah fn92 rfl ?_
 simp[c92,beginR,leased,leasedB]
 cases q1:sEq r.want.hold ⟨#[]⟩<;>simp
 by_cases q2:IntKind.i64.wrap (clock+4)<=r.til
 ·simp[q2]
 ·simp[q2]
theorem Zto{f:Int}(h:f<4):IntKind.i64.wrap (2 ^ min (if f<0 then (0:Int) else f).toNat IntKind.i64.bits)=leftOf f:=by
 unfold leftOf
 rw[if_neg (show ¬ 4<=f by omega)]
 by_cases h0:f<=0
 ·rw[if_pos (show f<=0 from h0)]
  have:(if f<0 then (0:Int) else f)=0:=by split<;>omega
  rw[this];rfl
 rw[if_neg (show ¬ f<=0 from h0),if_neg (show ¬ f<0 by omega)]
 by_cases h1:f=1
 ·subst h1;rfl
 by_cases h2:f=2
 ·subst h2;rfl
 have h3:f=3:=by omega
 subst h3;rfl
theorem law14(r:Run)(w:Want)(b:Bool)(clock:Int)(hf:I64 r.falls)(hl:I64 r.left):F 14 [.agg r.c,.agg w.c,.bool b,.int .i64 clock] []=some (liveRes r w b clock,[]):=by
 refine Zah fn14 rfl ?_
 have w92:=law92 r clock
 have hw:1<r.left->IntKind.i64.wrap (r.left-1)=r.left-1:=fun h=>i64w (by omega) (by have:=hl.2;omega)
 have hu:r.falls<1000->IntKind.i64.wrap (r.falls+1)=r.falls+1:=fun h=>i64w (by have:=hf.1;omega) (by omega)
 simp only[Run.c]at w92
 unfold liveRes mateLive
 by_cases hu1:b=true/\eqWant w r.want=true
 ·obtain⟨rfl,he⟩:=hu1
  by_cases sl:1<r.left
  ·have sl':¬ r.left<=1:=by omega
   have hw':=hw sl
   by_cases s1:r.state=1
   ·simp[c14,he,s1,sl,sl',hw']
   by_cases s2:r.state=2
   ·rw[s2]at w92
    simp[c14,he,s2,sl,sl',hw',w92]
   by_cases s3:r.state=3
   ·simp[c14,he,s3,sl,sl',hw']
   by_cases s4:r.state=4
   ·simp[c14,he,s4,sl,sl',hw']
   by_cases s5:r.state=5
   ·simp[c14,he,s5,sl,sl',hw']
   by_cases s6:r.state=6
   ·simp[c14,he,s6,sl,sl',hw']
   ·simp[c14,he,s1,s2,s3,s4,s5,s6,sl,sl',hw']
  ·have sl':r.left<=1:=by omega
   by_cases s1:r.state=1
   ·rw[s1]at w92
    simp[c14,he,s1,sl,sl',w92]
   by_cases s2:r.state=2
   ·rw[s2]at w92
    simp[c14,he,s2,sl,sl',w92]
   by_cases s3:r.state=3
   ·simp[c14,he,s3,sl,sl']
   by_cases s4:r.state=4
   ·by_cases sa:r.left=1
    ·have hf2:=hf.1
     have bk:sEq (bkey false) (bkey true)=false:=by
      rw[<- Bool.not_eq_true,Zac]
      intro e
      have:=congrArg (fun x=>x.data.toList) e
      simp[bkey]at this
     by_cases q:r.falls<1000
     ·have hq:=hu q
      by_cases q4:r.falls+1<4
      ·have q4':¬ (4<=r.falls+1):=by omega
       have hsh:=Zto q4
       have hnn:¬ ((if r.falls+1<0 then 0 else r.falls+1)<0):=by split<;>omega
       simp[c14,he,s4,sl,sl',sa,q,hq,q4,mapGet,mapPut,noKeys,dies,fallsUp,hnn,hsh]
      ·have q4':4<=r.falls+1:=by omega
       simp[c14,he,s4,sl,sl',sa,q,hq,q4,q4',mapGet,mapPut,noKeys,dies,fallsUp,leftOf]
     ·have hq:IntKind.i64.wrap r.falls=r.falls:=i64w hf.1 hf.2
      have q4:¬ r.falls<4:=by omega
      have q4':4<=r.falls:=by omega
      simp[c14,he,s4,sl,sl',sa,q,hq,q4,q4',mapGet,mapPut,noKeys,bk,dies,fallsUp,leftOf]
    ·simp[c14,he,s4,sl,sl',sa]
   by_cases s5:r.state=5
   ·rw[s5]at w92
    simp[c14,he,s5,sl,sl',w92]
   by_cases s6:r.state=6
   ·simp[c14,he,s6,sl,sl',Run.zero]
   ·simp[c14,he,s1,s2,s3,s4,s5,s6,sl,sl']
 ·have hun:(!b || !eqWant w r.want)=true:=by
   cases b<;>simp at hu1 ⊢
   exact hu1
  by_cases s6:r.state=6
  ·by_cases sl:1<r.left
   ·have sl':¬ r.left<=1:=by omega
    have hw':=hw sl
    cases b
    ·simp[c14,s6,sl,sl',hw']
    ·simp only[Bool.not_true,Bool.false_or,Bool.not_eq_true']at hun
     simp[c14,s6,sl,sl',hw',hun]
   ·have sl':r.left<=1:=by omega
    cases b
    ·simp[c14,s6,sl,sl',Run.zero]
    ·simp only[Bool.not_true,Bool.false_or,Bool.not_eq_true']at hun
     simp[c14,s6,sl,sl',hun,Run.zero]
  ·cases q:aliveS r.state
   ·cases b
    ·simp[c14,s6,alive,q,Run.zero]
    ·simp only[Bool.not_true,Bool.false_or,Bool.not_eq_true']at hun
     simp[c14,s6,alive,q,hun,Run.zero]
   ·cases b
    ·simp[c14,s6,alive,q]
    ·simp only[Bool.not_true,Bool.false_or,Bool.not_eq_true']at hun
     simp[c14,s6,alive,q,hun]
def selT(l:List T)(i:Int):T:=l.getD i.toNat ⟨#[]⟩
def selI(l:List Int)(i:Int):Int:=l.getD i.toNat 0
theorem Zbe{i:Int}{n:Nat}(h0:0<=i)(h:i<n):∃ k:Nat,i=k/\k<n:=⟨i.toNat,by omega,by omega⟩
@[simp] theorem selT2(a b:T){i:Int}(h:i.toNat < [[AV.str a],[.str b]].length):[[AV.str a],[.str b]][i.toNat]'h=[.str (selT [a,b] i)]:=by
 unfold selT
 generalize i.toNat=k at h ⊢
 rcases k with _|_|k<;>first|rfl|(simp at h;omega)
@[simp] theorem selI2(a b:Int){i:Int}(h:i.toNat < [[AV.int .i64 a],[.int .i64 b]].length):[[AV.int .i64 a],[.int .i64 b]][i.toNat]'h=[.int .i64 (selI [a,b] i)]:=by
 unfold selI
 generalize i.toNat=k at h ⊢
 rcases k with _|_|k<;>first|rfl|(simp at h;omega)
@[simp] theorem selT3(a b c:T){i:Int}(h:i.toNat < [[AV.str a],[.str b],[.str c]].length):[[AV.str a],[.str b],[.str c]][i.toNat]'h=[.str (selT [a,b,c] i)]:=by
 unfold selT
 generalize i.toNat=k at h ⊢
 rcases k with _|_|_|k<;>first|rfl|(simp at h;omega)
@[simp] theorem selI3(a b c:Int){i:Int}(h:i.toNat < [[AV.int .i64 a],[.int .i64 b],[.int .i64 c]].length):[[AV.int .i64 a],[.int .i64 b],[.int .i64 c]][i.toNat]'h=[.int .i64 (selI [a,b,c] i)]:=by
 unfold selI
 generalize i.toNat=k at h ⊢
 rcases k with _|_|_|k<;>first|rfl|(simp at h;omega)
@[simp] theorem selT4(a b c d:T){i:Int}(h:i.toNat < [[AV.str a],[.str b],[.str c],[.str d]].length):[[AV.str a],[.str b],[.str c],[.str d]][i.toNat]'h=[.str (selT [a,b,c,d] i)]:=by
 unfold selT
 generalize i.toNat=k at h ⊢
 rcases k with _|_|_|_|k<;>first|rfl|(simp at h;omega)
@[simp] theorem selI4(a b c d:Int){i:Int}(h:i.toNat < [[AV.int .i64 a],[.int .i64 b],[.int .i64 c],[.int .i64 d]].length):[[AV.int .i64 a],[.int .i64 b],[.int .i64 c],[.int .i64 d]][i.toNat]'h=[.int .i64 (selI [a,b,c,d] i)]:=by
 unfold selI
 generalize i.toNat=k at h ⊢
 rcases k with _|_|_|_|k<;>first|rfl|(simp at h;omega)
@[simp] theorem selT5(a b c d e:T){i:Int}(h:i.toNat < [[AV.str a],[.str b],[.str c],[.str d],[.str e]].length):[[AV.str a],[.str b],[.str c],[.str d],[.str e]][i.toNat]'h=[.str (selT [a,b,c,d,e] i)]:=by
 unfold selT
 generalize i.toNat=k at h ⊢
 rcases k with _|_|_|_|_|k<;>first|rfl|(simp at h;omega)
@[simp] theorem selI5(a b c d e:Int){i:Int}(h:i.toNat < [[AV.int .i64 a],[.int .i64 b],[.int .i64 c],[.int .i64 d],[.int .i64 e]].length):[[AV.int .i64 a],[.int .i64 b],[.int .i64 c],[.int .i64 d],[.int .i64 e]][i.toNat]'h=[.int .i64 (selI [a,b,c,d,e] i)]:=by
 unfold selI
 generalize i.toNat=k at h ⊢
 rcases k with _|_|_|_|_|k<;>first|rfl|(simp at h;omega)
@[simp] theorem selT6(a b c d e f:T){i:Int}(h:i.toNat < [[AV.str a],[.str b],[.str c],[.str d],[.str e],[.str f]].length):[[AV.str a],[.str b],[.str c],[.str d],[.str e],[.str f]][i.toNat]'h=[.str (selT [a,b,c,d,e,f] i)]:=by
 unfold selT
 generalize i.toNat=k at h ⊢
 rcases k with _|_|_|_|_|_|k<;>first|rfl|(simp at h;omega)
@[simp] theorem selI6(a b c d e f:Int){i:Int}(h:i.toNat < [[AV.int .i64 a],[.int .i64 b],[.int .i64 c],[.int .i64 d],[.int .i64 e],[.int .i64 f]].length):[[AV.int .i64 a],[.int .i64 b],[.int .i64 c],[.int .i64 d],[.int .i64 e],[.int .i64 f]][i.toNat]'h=[.int .i64 (selI [a,b,c,d,e,f] i)]:=by
 unfold selI
 generalize i.toNat=k at h ⊢
 rcases k with _|_|_|_|_|_|k<;>first|rfl|(simp at h;omega)
@[simp] theorem selT7(a b c d e f g:T){i:Int}(h:i.toNat < [[AV.str a],[.str b],[.str c],[.str d],[.str e],[.str f],[.str g]].length):[[AV.str a],[.str b],[.str c],[.str d],[.str e],[.str f],[.str g]][i.toNat]'h=[.str (selT [a,b,c,d,e,f,g] i)]:=by
 unfold selT
 generalize i.toNat=k at h ⊢
 rcases k with _|_|_|_|_|_|_|k<;>first|rfl|(simp at h;omega)
@[simp] theorem selI7(a b c d e f g:Int){i:Int}(h:i.toNat < [[AV.int .i64 a],[.int .i64 b],[.int .i64 c],[.int .i64 d],[.int .i64 e],[.int .i64 f],[.int .i64 g]].length):[[AV.int .i64 a],[.int .i64 b],[.int .i64 c],[.int .i64 d],[.int .i64 e],[.int .i64 f],[.int .i64 g]][i.toNat]'h=[.int .i64 (selI [a,b,c,d,e,f,g] i)]:=by
 unfold selI
 generalize i.toNat=k at h ⊢
 rcases k with _|_|_|_|_|_|_|k<;>first|rfl|(simp at h;omega)
@[simp] theorem selT8(a b c d e f g u:T){i:Int}(h:i.toNat < [[AV.str a],[.str b],[.str c],[.str d],[.str e],[.str f],[.str g],[.str u]].length):[[AV.str a],[.str b],[.str c],[.str d],[.str e],[.str f],[.str g],[.str u]][i.toNat]'h=[.str (selT [a,b,c,d,e,f,g,u] i)]:=by
 unfold selT
 generalize i.toNat=k at h ⊢
 rcases k with _|_|_|_|_|_|_|_|k<;>first|rfl|(simp at h;omega)
@[simp] theorem selI8(a b c d e f g u:Int){i:Int}(h:i.toNat < [[AV.int .i64 a],[.int .i64 b],[.int .i64 c],[.int .i64 d],[.int .i64 e],[.int .i64 f],[.int .i64 g],[.int .i64 u]].length):[[AV.int .i64 a],[.int .i64 b],[.int .i64 c],[.int .i64 d],[.int .i64 e],[.int .i64 f],[.int .i64 g],[.int .i64 u]][i.toNat]'h=[.int .i64 (selI [a,b,c,d,e,f,g,u] i)]:=by
 unfold selI
 generalize i.toNat=k at h ⊢
 rcases k with _|_|_|_|_|_|_|_|k<;>first|rfl|(simp at h;omega)
noncomputable def drawWant(bs:List Int)(p:Int)(copy:T):Want :=
 ⟨copy,1+pickV bs p 3,selT [⟨#[]⟩,⟨#[118,111,108]⟩,⟨#[105,112]⟩,⟨#[118,111,108,50]⟩] (pickV bs (p+1) 4),pickV bs (p+2) 4,pickV bs (p+3) 3,selI [0,0,0,1,3,8] (pickV bs (p+4) 6),pickV bs (p+5) 4⟩
theorem law87(bs:List Int)(p:Int)(copy:T)(hb:Code bs)(h0:0<=p)(hp:p<=100000000000):F 87 [.ptr 0 0 0,.str copy] [rdBox bs p]=some (.agg (drawWant bs p copy).c,[some (rdBox bs (p+6))]):=by
 refine Zah fn87 rfl ?_
 obtain⟨a1,a2,a3⟩:=law89 bs p 3 hb h0 (by omega) (by omega)
 obtain⟨b1,b2,b3⟩:=law89 bs (p+1) 4 hb (by omega) (by omega) (by omega)
 obtain⟨c1,c2,c3⟩:=law89 bs (p+2) 4 hb (by omega) (by omega) (by omega)
 obtain⟨d1,d2,d3⟩:=law89 bs (p+3) 3 hb (by omega) (by omega) (by omega)
 obtain⟨e1,e2,e3⟩:=law89 bs (p+4) 6 hb (by omega) (by omega) (by omega)
 obtain⟨f1,f2,f3⟩:=law89 bs (p+5) 4 hb (by omega) (by omega) (by omega)
 rw[show p+1+1=p+2 by omega]at b1
 rw[show p+2+1=p+3 by omega]at c1
 rw[show p+3+1=p+4 by omega]at d1
 rw[show p+4+1=p+5 by omega]at e1
 rw[show p+5+1=p+6 by omega]at f1
 have hu:IntKind.i64.wrap (1+pickV bs p 3)=1+pickV bs p 3:=i64w (by omega) (by have:=a3 (by omega);omega)
 have b4:=b3 (by omega)
 have e4:=e3 (by omega)
 simp only[rdBox]at a1 b1 c1 d1 e1 f1 ⊢
 simp[c87,a1,b1,c1,d1,e1,f1,b2,b4,e2,e4,hu,drawWant]
/-! ### Drawn values are of moderate size -/
def tame(n:Int):Prop := -100000000<=n/\n<=100000000
def inS(h:T):Bool:=[(⟨#[]⟩:T),⟨#[118,111,108]⟩,⟨#[105,112]⟩,⟨#[118,111,108,50]⟩,⟨#[122,122]⟩,⟨#[42]⟩,⟨#[120,32,121]⟩].any (sEq h)
theorem Zhb{h:T}(hx:h∈[(⟨#[]⟩:T),⟨#[118,111,108]⟩,⟨#[105,112]⟩,⟨#[118,111,108,50]⟩,⟨#[122,122]⟩,⟨#[42]⟩,⟨#[120,32,121]⟩]):inS h=true:=List.any_eq_true.2 ⟨h,hx,(Zac _ _).2 rfl⟩
theorem Zrz{l:List T}(h:∀ x∈l,inS x=true)(i:Int):inS (selT l i)=true:=by
 unfold selT
 rw[List.getD_eq_getElem?_getD]
 cases e:l[i.toNat]? with
 | none=>exact Zhb (by simp)
 | some x=>exact h x (List.mem_of_getElem? e)
structure Want.tame(w:Want):Prop where
 copy:w.copy.size<=1000
 version:YtfemiipgkhekiaaGreatDoor.tame w.version
 hold:inS w.hold=true
 pull:YtfemiipgkhekiaaGreatDoor.tame w.pull
 start:YtfemiipgkhekiaaGreatDoor.tame w.start
 dies:YtfemiipgkhekiaaGreatDoor.tame w.dies
 grace:YtfemiipgkhekiaaGreatDoor.tame w.grace
structure Run.tame(r:Run):Prop where
 want:r.want.tame
 state:YtfemiipgkhekiaaGreatDoor.tame r.state
 left:YtfemiipgkhekiaaGreatDoor.tame r.left
 falls:YtfemiipgkhekiaaGreatDoor.tame r.falls
 til:YtfemiipgkhekiaaGreatDoor.tame r.til
theorem Zrs{l:List Int}(h:∀ x∈l,tame x)(i:Int):tame (selI l i):=by
 unfold selI
 rw[List.getD_eq_getElem?_getD]
 cases e:l[i.toNat]? with
 | none=>exact⟨by simp,by simp⟩
 | some x=>exact h x (List.mem_of_getElem? e)
theorem Zgu{x n:Int}(h0:0<=x)(h:x<n)(hn:n<=100000000):tame x:=⟨by omega,by omega⟩
theorem Zjf{bs:List Int}{p:Int}{copy:T}(hb:Code bs)(h0:0<=p)(hp:p<=100000000000)(hc:copy.size<=1000):(drawWant bs p copy).tame:=by
 obtain⟨_,a2,a3⟩:=law89 bs p 3 hb h0 (by omega) (by omega)
 obtain⟨_,c2,c3⟩:=law89 bs (p+2) 4 hb (by omega) (by omega) (by omega)
 obtain⟨_,d2,d3⟩:=law89 bs (p+3) 3 hb (by omega) (by omega) (by omega)
 obtain⟨_,f2,f3⟩:=law89 bs (p+5) 4 hb (by omega) (by omega) (by omega)
 have a4:=a3 (by omega)
 have c4:=c3 (by omega)
 have d4:=d3 (by omega)
 have f4:=f3 (by omega)
 refine⟨hc,⟨by simp only[drawWant];omega,by simp only[drawWant];omega⟩,Zrz (fun x hx=>Zhb (by simp at hx ⊢;rcases hx with rfl|rfl|rfl|rfl<;>simp)) _,Zgu c2 c4 (by omega),Zgu d2 d4 (by omega),Zrs (by simp[tame]) _,Zgu f2 f4 (by omega)⟩
/-! ### A text many times -/
theorem Zal(x y:T):(x++y).size=x.size+y.size:=ByteArray.size_append
theorem Code.take{bs:List Int}(h:∀ b∈bs,0<=b/\b<=255):Code (bs.take 2000):=⟨by rw[List.length_take];omega,fun b hb=>h b (List.mem_of_mem_take hb)⟩
def Want.zero:Want:=⟨⟨#[]⟩,0,⟨#[]⟩,0,0,0,0⟩
end Go.Proofs.YtfemiipgkhekiaaGreatDoor
namespace Go.Proofs.YtfemiipgkhekiaaGreatDoor
open Go
def Ends{ρ:Type}(o:Option ρ)(Q:ρ->Prop):Prop:=∃ r,o=some r/\Q r
@[simp] theorem Ends_some{ρ:Type}(r:ρ)(Q:ρ->Prop):Ends (some r) Q↔Q r:=by
 unfold Ends
 constructor
 ·rintro⟨s,h,k⟩;cases h;exact k
 ·exact fun k=>⟨r,rfl,k⟩
theorem Ends.mono{ρ:Type}{o:Option ρ}{Q Q':ρ->Prop}(h:Ends o Q)(k:∀ r,Q r->Q' r):Ends o Q':=by
 obtain⟨r,h1,h2⟩:=h
 exact⟨r,h1,k r h2⟩
theorem Zm5{k:Nat}{c:CFn}{args:List AV}{objs:List AO}{Q:AV×List (Option AO)->Prop}(hc:P.fn k=some c)(hl:Nat.ble args.length c.nt=true)
  (h:Ends (fin c.res objs.length (X F [.code c.body] (.normal,⟨startSlots args 0,startHeap objs 0,0,objs.length,objs.length⟩))) Q):Ends (F k args objs) Q:=by
 obtain⟨r,h1,h2⟩:=h
 exact⟨r,Zah hc hl h1,h2⟩
open Classical in
theorem Zem{cl:Callee}{ρ σ:Type}{K:Option (AExit×St)->Option ρ}{keep:List Nat}{b:CCode}{fs:List Fr}{Q:ρ->Prop}(H:σ->St)(Inv:σ->Prop)(μ:σ->Nat)
  (step:∀ x Y,Inv x->(∀ y s',Inv y->μ y<μ x->s'.norm keep=H y->Ends (K (Y s')) Q)->Ends (K (X cl (.code b::.back Y::fs) (.normal,H x))) Q)
  (x:σ) {s:St} (hs:s.norm keep=H x) (hi:Inv x) (hm:μ x<big):Ends (K (X cl (.code (.loop keep b)::fs) (.normal,s))) Q:=by
 have h:=Zay (cl:=cl) (K:=fun o=>if Ends (K o) Q then some () else none) (keep:=keep) (b:=b) (fs:=fs) H Inv μ (fun _=>()) (fun x Y hx hY=>by
  have:=step x Y hx (fun y s' h1 h2 h3=>by
   have h4:=hY y s' h1 h2 h3
   split at h4
   ·assumption
   ·cases h4)
  exact if_pos this) x hs hi hm
 split at h
 ·assumption
 ·cases h
end Go.Proofs.YtfemiipgkhekiaaGreatDoor
namespace Go.Proofs.YtfemiipgkhekiaaGreatDoor
open Go
set_option linter.unusedSimpArgs false
set_option maxRecDepth 100000
def digit(d:Nat):T:=⟨#[48+UInt8.ofNat d]⟩
def dec(n:Nat):T:=if _h:n<10 then digit n else dec (n / 10)++digit (n % 10)
termination_by n
decreasing_by omega
theorem u8w{d:Nat}(h:d<10):IntKind.u8.wrap (IntKind.i64.wrap (48+(d:Int)))=48+(d:Int):=by
 rw[i64w (by omega) (by omega)]
 simp[IntKind.wrap,IntKind.signed,IntKind.bits]
 omega
theorem Zgc:∀ (j n:Nat),n<10 ^ (j+1)->(dec n).size<=j+1
 | 0,n,h=>by
  rw[dec,dif_pos (by omega)]
  exact Nat.le_refl _
 | j+1,n,h=>by
  rw[dec]
  split
  ·show 1<=_;omega
  ·rw[Zal]
   have:=Zgc j (n / 10) (Nat.div_lt_of_lt_mul (by rw[Nat.pow_succ]at h;omega))
   have e:(digit (n % 10)).size=1:=rfl
   omega
theorem law140(n:Nat)(hn:n<1000000000000000000):F 140 [.int .i64 n] []=some (.str (dec n),[]):=by
 induction n using Nat.strongRecOn with
 | ind n ih =>
  refine Zah fn140 rfl ?_
  rw[dec]
  by_cases h:n<10
  ·have hI:(n:Int)<10:=by omega
   have hu:=u8w h
   have ht:(48+(n:Int)).toNat=48+n:=by omega
   simp[c140,h,hI,toBytes,hu,digit,ht]
  ·have hI:¬ (n:Int)<10:=by omega
   have w:=ih (n / 10) (by omega) (by omega)
   have hs:=Zgc 18 (n / 10) (by omega)
   have hd:=Nat.mod_lt n (show 0<10 by omega)
   obtain⟨q,hq⟩:∃ q,q=n / 10:=⟨_,rfl⟩
   obtain⟨d,hdd⟩:∃ d,d=n % 10:=⟨_,rfl⟩
   have hm:Int.tmod (n:Int) 10=(d:Int):=by rw[Int.tmod_eq_emod_of_nonneg (by omega)];omega
   have hm2:(n:Int) % 10=(d:Int):=by omega
   have hq2:(n:Int) / 10=(q:Int):=by omega
   have hq3:IntKind.i64.wrap (q:Int)=(q:Int):=i64w (by omega) (by omega)
   rw[<- hq]at w hs ⊢
   rw[<- hdd]at hd ⊢
   have hu:=u8w hd
   have ht:(48+(d:Int)).toNat=48+d:=by omega
   have hs2:(dec q).size+(⟨#[48+UInt8.ofNat d]⟩:T).size<=9223372036854775807:=by
    have:(⟨#[48+UInt8.ofNat d]⟩:T).size=1:=rfl
    omega
   simp[c140,h,hI,toBytes,hm,hm2,hq2,hq3,hu,digit,ht,w,hs2]
theorem Zo9{i:Nat}(h:i<1000):((⟨#[99]⟩:T)++dec i).size<=1000:=by
 rw[Zal]
 have:=Zgc 3 i (by omega)
 have e:(⟨#[99]⟩:T).size=1:=rfl
 omega
/-! ### Lists of wants and of runs -/
def head145(bs:List Int)(p:Int)(ws:List Want)(i:Nat):St:=hd [(0,.ptr 0 0 0),(3,.ref 1),(4,.int .i64 i)] [rdBox bs p,.arr 7 (ws.map Want.c)] 1
def Drew(bs:List Int)(p n:Int)(v:AV->Prop)(r:AV×List (Option AO)):Prop:=∃ x p',r=(x,[some (rdBox bs p')])/\p<=p'/\p'<=p+n/\v x
theorem law145(bs:List Int)(p:Int)(hb:Code bs)(h0:0<=p)(hp:p<=1000000000) :
  Ends (F 145 [.ptr 0 0 0] [rdBox bs p]) (Drew bs p 28 fun x=>∃ ws:List Want,x=.sl .own 7 (ws.map Want.c)/\ws.length<=4/\∀ w∈ws,Want.tame w):=by
 refine Zm5 fn145 rfl ?_
 simp[c145]
 refine Zem (σ:=Nat×Int×List Want) (fun z=>head145 bs z.2.1 z.2.2 z.1) (fun z=>z.1<=4/\p<=z.2.1/\z.2.1<=p+7*z.1/\z.2.2.length<=z.1/\∀ w∈z.2.2,Want.tame w) (fun z=>4-z.1) (fun z Y hinv hY=>?_) (0,p,[]) ?_ ⟨by omega,by simp,by simp,by simp,by simp⟩ (by unfold big;simp)
 ·obtain⟨i,q,ws⟩:=z
  obtain⟨h1,h2,h3,h4,h5⟩:=hinv
  simp only at h1 h2 h3 h4 h5 hY ⊢
  by_cases hi:i<4
  ·have hiI:(i:Int)<4:=by omega
   have hw:IntKind.i64.wrap ((i:Int)+1)=(i:Int)+1:=i64w (by omega) (by omega)
   obtain⟨a1,a2,a3⟩:=law89 bs q 2 hb (by omega) (by omega) (by omega)
   have d1:=law140 i (by omega)
   have d2:=Zo9 (i:=i) (by omega)
   have d3:(⟨#[99]⟩:T).size+(dec i).size<=9223372036854775807:=by rw[Zal]at d2;omega
   have b1:=law87 bs (q+1) (⟨#[99]⟩++dec i) hb (by omega) (by omega)
   rw[show q+1+6=q+7 by omega]at b1
   have b2:=Zjf (p:=q+1) (copy:=⟨#[99]⟩++dec i) hb (by omega) (by omega) d2
   generalize drawWant bs (q+1) (⟨#[99]⟩++dec i)=w at b1 b2
   have c1:=law7 (ws++[w]) (by unfold big;simp;omega)
   have e1:ws.length*72<=140737488355328:=by omega
   have e2:ws.length<=140737488355328:=by omega
   have e3:(ws.length+1)*72<=140737488355328:=by omega
   have e4:ws.length+1<=140737488355328:=by omega
   simp only[rdBox,Want.c]at a1 b1
   simp at c1
   by_cases k0:pickV bs q 2=0
   ·cases k1:wantsOk (ws++[w])
    ·rw[k1]at c1
     simp[head145,rdBox,c145b0,hiI,a1,k0,d1,d3,b1,takeRows,rowsPlain,e1,e2,e3,e4,c1]
     refine hY (i+1,q+7,ws) _ ⟨by omega,by simp only;omega,by simp only;omega,by simp only;omega,h5⟩ (by simp only;omega) ?_
     simp[head145,rdBox,hw]
    ·rw[k1]at c1
     simp[head145,rdBox,c145b0,hiI,a1,k0,d1,d3,b1,takeRows,rowsPlain,e1,e2,e3,e4,c1]
     refine hY (i+1,q+7,ws++[w]) _ ⟨by omega,by simp only;omega,by simp only;omega,by simp;omega,?_⟩ (by simp only;omega) ?_
     ·intro x hx
      rcases List.mem_append.1 hx with hx|hx
      ·exact h5 x hx
      ·rw[List.mem_singleton.1 hx];exact b2
     ·simp[head145,rdBox,hw]
   ·simp[head145,rdBox,c145b0,hiI,a1,k0]
    refine hY (i+1,q+1,ws) _ ⟨by omega,by simp only;omega,by simp only;omega,by simp only;omega,h5⟩ (by simp only;omega) ?_
    simp[head145,rdBox,hw]
  ·have hiI:¬ (i:Int)<4:=by omega
   simp[head145,rdBox,c145b0,hiI]
   exact⟨_,q,rfl,by omega,by omega,ws,rfl,by omega,h5⟩
 ·simp[head145,rdBox]
def findW(l:List Want)(n:T):Option Want:=l.find? fun w=>sEq w.copy n
structure Ask.tame(a:Ask):Prop where
 hold:inS a.hold=true
 copy:a.copy.size<=1000
 first:YtfemiipgkhekiaaGreatDoor.tame a.first
 at_:YtfemiipgkhekiaaGreatDoor.tame a.at_
structure Mate.tameN(k:Nat)(m:Mate):Prop where
 name:m.name.size<=1000
 clock:YtfemiipgkhekiaaGreatDoor.tame m.clock
 seen:YtfemiipgkhekiaaGreatDoor.tame m.seen
 nwants:m.wants.length<=k
 wants:∀ w∈m.wants,w.tame
 nruns:m.runs.length<=k
 runs:∀ r∈m.runs,r.tame
 nasks:m.asks.length<=k
 asks:∀ a∈m.asks,a.tame
 ngives:m.gives.length<=k
 gives:∀ a∈m.gives,a.tame
abbrev Mate.tame (m:Mate):Prop:=m.tameN 10
theorem Mate.tameN.up{k k':Nat}{m:Mate}(h:m.tameN k)(hk:k<=k'):m.tameN k' :=
 ⟨h.name,h.clock,h.seen,Nat.le_trans h.nwants hk,h.wants,Nat.le_trans h.nruns hk,h.runs,Nat.le_trans h.nasks hk,h.asks,Nat.le_trans h.ngives hk,h.gives⟩
theorem Mate.tameN.small{k:Nat}{m:Mate}(h:m.tameN k)(hk:k<=1000):m.small:=by
 obtain⟨_,_,_,h1,_,h2,_,h3,_,h4,_⟩:=h
 exact⟨by omega,by omega,by omega,by omega⟩
def wn(wk:Bool):Nat:=if wk then 1 else 0
def an(l:List Ask):Nat:=if l=[] then 0 else 1
def cellsB(n:Nat)(wk:Bool)(m:Mate):List AV :=
 [.str m.name,.bool m.up,.int .i64 m.clock,.bool m.known,.int .i64 m.seen,if wk then .ref n else .sl .own 7 [],.ref (n+wn wk),ownVi (n+wn wk+1) 4 (m.asks.map Ask.c),ownVi (n+wn wk+1+an m.asks) 4 (m.gives.map Ask.c)]
def arrsB(wk:Bool)(m:Mate):List AO:=(if wk then [.arr 7 (m.wants.map Want.c)] else [])++.arr 11 (m.runs.map Run.c)::(ownH 4 (m.asks.map Ask.c)++ownH 4 (m.gives.map Ask.c))
structure Mid(bs:List Int)(q:Int)(wk:Bool)(m:Mate)(i:Nat)(a:Ask)(s:St):Prop where
 s0:s.slots 0=.ptr 0 0 0
 s2:s.slots 2=.ptr 1 0 0
 s3:s.slots 3=.ptr 2 0 0
 s7:s.slots 7=.int .i64 i
 s8:s.slots 8=.ptr 3 0 0
 h0:s.heap 0=some (rdBox bs q)
 h1:s.heap 1=some (.box zeroCells)
 h2:s.heap 2=some (.box (cellsB 4 wk m))
 h3:s.heap 3=some (.box a.c)
 hx:∀ k,k<5->s.heap (4+k)=(arrsB wk m)[k]?
 nx:100<=s.next
 base:s.base=1
end Go.Proofs.YtfemiipgkhekiaaGreatDoor
