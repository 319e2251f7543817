/- The whole: what the abstract machine says of a call, the program does. And what follows from it, part by part, as the proof needs it. -/
import Derived.Test.YtgdfelbedghhnaaGreatDoorB4
import Derived.Carry
import Derived.ChangeArms
import Derived.DataReads
import Derived.Test.YtgdfelbedghhnaaGreatDoorB2
namespace Go.Proofs.YtgdfelbedghhnaaGreatDoor
open Go Go.RowKit
set_option linter.unusedSimpArgs false
section
variable {cx:Cx} {nt:Nat}
def resOf(tmps:Array Value):ResultVar->Sem Value
 | .tmp t=>pure (tmps.getD t undef)
 | .cell a t=>do loadVar t (<- asAddr (tmps.getD a undef))
theorem Zmb{s:St}{g:Gh}{a:Act}{w:World}(c:Corr cx nt s g a w):∀ {rs:List ResultVar} {cs:List CRes} {vs:List AV},chkRes cx.P rs cs=true->resVals s cs=some vs ->
  ∃ us:List Value,(rs.mapM (resOf a.tmps)).run cx.P w=.ok us w/\us.length=vs.length/\∀ (i:Nat) (u:Value) (d:AV),us[i]?=some u->vs[i]?=some d->SRel cx.num w cx.R g s.heap s.ep u d
 | [],[],vs,_,h=>by
  simp only[resVals,Xb]at h
  subst h
  exact⟨[],rfl,rfl,fun i u d hu=>by simp at hu⟩
 | .tmp t::rs,.tmp t'::cs,vs,hc,h=>by
  simp only[chkRes,Xc,Xan]at hc
  obtain⟨rfl,hc⟩:=hc
  simp only[resVals,resVal]at h
  cases h1:resVals s cs with
  | none=>rw[h1]at h;cases h
  | some vs' =>
   rw[h1]at h
   simp only[Xb]at h
   subst h
   obtain⟨us,h2,h3,h4⟩:=Zmb c hc h1
   refine⟨a.tmps.getD t undef::us,by simp[List.mapM_cons,resOf,h2],by simp[h3],fun i u d hu hd=>?_⟩
   cases i with
   | zero=>simp only[Xm,Xb]at hu hd;subst hu;subst hd;exact c.slots t
   | succ i=>exact h4 i u d (by simpa using hu) (by simpa using hd)
 | .cell t ty::rs,.cell t' sz agg::cs,vs,hc,h=>by
  simp only[chkRes,Xc,Xan]at hc
  obtain⟨rfl,hsz,hag,hc⟩:=hc
  obtain⟨i0,hi,hi2⟩:=Zau hsz
  simp only[Xj]at hi2
  subst hi2
  split at hag
  case h_2=>cases hag
  rename_i d hd
  simp only[Xc,Xan,Xas]at hag
  obtain⟨rfl,h1s⟩:=hag
  simp only[resVals,resVal]at h
  have hr:=c.slots t
  generalize s.slots t=c1 at h hr
  generalize hv:a.tmps.getD t undef=v1 at hr
  cases c1<;>try (cases h;done)
  rename_i id i off
  cases i<;>cases off<;>try (cases h;done)
  simp only at h
  cases hh:s.heap id with
  | none=>rw[hh]at h;cases h
  | some ob =>
   rw[hh]at h
   cases ob<;>try (cases h;done)
   rename_i cells
   simp only at h
   split at h
   ·cases h
   ·rename_i v hlv
    split at hlv
    case isFalse=>cases hlv
    rename_i hlen
    cases h1:resVals s cs with
    | none=>rw[h1]at h;cases h
    | some vs' =>
     rw[h1]at h
     simp only[Xb]at h
     subst h
     obtain⟨us,h2,h3,h4⟩:=Zmb c hc h1
     obtain⟨b,cur,e,h5,h6,h7,h8,h9,h10⟩:=c.mem.objs id _ hh
     cases hr with
     | ptr _ _ _ _ _ hu hv' =>
      obtain⟨b',h11,h12⟩:=hv' _ hh
      rw[h5]at h11
      simp only[Value.pointer.injEq,Xb,Addr.mk.injEq,Xbv]at h11
      subst h11
      obtain⟨hle,hrv⟩:=Za3 (fun hf=>h1s.resolve_left (by simp[hf])) hlv
      have hcell:∀ j,j<i0.size->w.cell? ⟨b,0+j,none⟩=some (cur.getD j undef):=fun j hj=>by
       rw[Zaf h6,Xbe,Xaz,Xz (by omega)];rfl
      have hrun:=Zc5 (w:=w) hd hi b 0 (fun j=>cur.getD j undef) hcell (fun hf=>h1s.resolve_left (by simp[hf]))
      have hcr:∀ j,j<i0.size->∃ d0,cells[j]?=some d0/\(cur.getD j undef).oneCell'=true/\SRel cx.num w cx.R g s.heap s.ep (cur.getD j undef) d0:=fun j hj=>by
       have hcj:cells[j]?=some (cells[j]'(by omega)):=Xd (by omega)
       have huj:cur[j]?=some (cur.getD j undef):=by rw[Xaz,Xz (by omega)];rfl
       obtain⟨h13,h14⟩:=h10 j _ _ huj hcj
       exact⟨_,hcj,h13,h14⟩
      refine⟨_::us,by simp only[List.mapM_cons,resOf,hv,h12,asAddr,Sem.run_bind,Sem.run_pure,Result.andThen_ok,hrun,h2];rfl,by simp[h3],fun i u d0 hu hd0=>?_⟩
      cases i with
      | succ i=>exact h4 i u d0 (by simpa using hu) (by simpa using hd0)
      | zero =>
       simp only[Xm,Xb]at hu hd0
       subst hu;subst hd0
       rw[hrv]
       cases hdd:aggB d with
       | true =>
        simp only[Xag,List.drop_zero]
        refine .agg _ _ (by simp;omega) (fun j v hv=>?_) (fun j v c0 hv hc0=>?_)
        ·simp only[Xbd,Xam]at hv
         cases hj:(List.range i0.size)[j]? with
         | none=>rw[hj]at hv;cases hv
         | some j' =>
          rw[hj]at hv
          simp only[Xw,Xb]at hv
          obtain⟨hlt,he⟩:=Xa.1 hj
          simp only[Xb5]at hlt
          simp only[Xce]at he
          subst he;subst hv
          exact (hcr j hlt).choose_spec.2.1
        ·simp only[Xbd,Xam]at hv
         cases hj:(List.range i0.size)[j]? with
         | none=>rw[hj]at hv;cases hv
         | some j' =>
          rw[hj]at hv
          simp only[Xw,Xb]at hv
          obtain⟨hlt,he⟩:=Xa.1 hj
          simp only[Xb5]at hlt
          simp only[Xce]at he
          subst he;subst hv
          obtain⟨d1,h13,_,h14⟩:=hcr j hlt
          rw[Xal,Xr hlt,h13]at hc0
          obtain rfl:=Xf hc0
          exact h14
       | false =>
        simp only[Xq,Xaj,List.drop_zero]
        have h1z:i0.size=1:=h1s.resolve_left (by simp[hdd])
        obtain⟨d1,h13,_,h14⟩:=hcr 0 (by omega)
        rw[show cells.getD 0 .any=d1 by simp[List.getD,h13]]
        exact h14
 | [],_::_,_,hc,_=>by simp[chkRes]at hc
 | .tmp _::_,[],_,hc,_=>by simp[chkRes]at hc
 | .cell _ _::_,[],_,hc,_=>by simp[chkRes]at hc
 | .tmp _::_,.cell _ _ _::_,_,hc,_=>by simp[chkRes]at hc
 | .cell _ _::_,.tmp _::_,_,hc,_=>by simp[chkRes]at hc
end
theorem Zlw{P:Program}{num:Nat->Option FuncId}{fz:List (Nat×Obj)}{f:FuncId}{fn:Func}{c:CFn}{cl:Callee}(hf:P.funcs[f]?=some fn)(hc:chkFn P num fn c=true)(hm:P.follows .mixedOrders=true)
  (hK:∀ (k:Nat) (f:FuncId) (args:List AV) (objs:List AO) (r:AV) (outs:List (Option AO)),num k=some f->cl k args objs=some (r,outs)->Contract P num fz f args objs r outs)
  {args:List AV} {objs:List AO} {r:AV} {outs:List (Option AO)} (h:runFn cl c args objs=some (r,outs)):Contract P num fz f args objs r outs:=by
 intro cx g w vs hP hnum hfz hw0 hbase hh0 hv0 hu m hsz hrel
 subst hP;subst hnum;subst hfz
 simp only[chkFn,Xc,bne_iff_ne,ne_eq,Xan]at hc
 obtain⟨hname,hnt,hbody⟩:=hc
 split at hbody
 case h_2=>cases hbody
 rename_i b hb
 simp only[Xc]at hbody
 obtain⟨hcode,hres⟩:=hbody
 simp only[runFn]at h
 split at h
 case isFalse=>cases h
 rename_i hal
 cases hrun:runCode cl c.body ⟨startSlots args 0,startHeap objs 0,0,objs.length,objs.length⟩ with
 | none=>rw[hrun]at h;cases h
 | some p =>
  obtain⟨ex,s⟩:=p
  rw[hrun]at h
  have hend:(ex=.ret\/ex=.normal)/\endFn c objs.length s=some (r,outs):=by
   cases ex with
   | ret=>exact⟨.inl rfl,h⟩
   | normal=>exact⟨.inr rfl,h⟩
   | exit id=>cases h
  obtain⟨hex,hend⟩:=hend
  intro o a next Q hnext
  have hcf:(callFunc f vs).run cx.P w=.ok (.enter f vs) w:=by
   simp[callFunc,hf,hname,hb]
  rw[hcf,Oper.upon_enter]
  refine Calls.mono (R:=fun e w'=>match e with|.returned v=>(∃ I N S fo,Post cx w' v r outs I N S fo)|_=>False) ?_ (fun e w' he=>by
   cases e with
   | returned v=>exact hnext v w' he
   | panicked _=>exact he.elim
   | outgrown=>exact he.elim)
  refine calls_of_wp hf hb (Zbx hm hK c.body b hcode _ ex s _ w _ hrun ⟨g,⟨?_,rfl,fun t=>?_,m⟩,hu,hbase.symm⟩ (fun a' w' hg=>?_))
  ·show (vs++Array.replicate (fn.ntmps-vs.size) undef).size=c.nt
   simp;omega
  ·show SRel cx.num w cx.R g (startHeap objs 0) 0 ((vs++Array.replicate (fn.ntmps-vs.size) undef).getD t undef) (startSlots args 0 t)
   rw[Zd1,Xr (Xp _),Xcx]
   by_cases ht:t<args.length
   ·have h1:vs[t]?=some (vs[t]'(by omega)):=Xz (by omega)
    have h2:args[t]?=some (args[t]'ht):=Xd ht
    have h3:(vs++Array.replicate (fn.ntmps-vs.size) undef).getD t undef=vs[t]'(by omega):=by
     rw[Xaz,Array.getElem?_append_left (by omega),h1];rfl
    rw[h3,show args.getD t .any=args[t]'ht by simp[List.getD,h2]]
    exact hrel t _ _ h1 h2
   ·rw[show args.getD t .any=.any by simp[List.getD,List.getElem?_eq_none (Nat.le_of_not_lt ht)]]
    exact .any _
  ·obtain⟨g',hcr,hu',hb'⟩:=hg
   unfold endFn at hend
   cases hrv:resVals s c.res with
   | none=>rw[hrv]at hend;cases hend
   | some rvs =>
    rw[hrv]at hend
    simp only at hend
    cases hst:shutT s.heap rvs with
    | none=>rw[hst]at hend;cases hend
    | some q =>
     obtain⟨ws,is⟩:=q
     rw[hst]at hend
     simp only at hend
     cases hsb:shutBoxes s.heap 0 objs.length with
     | none=>rw[hsb]at hend;cases hend
     | some js =>
      rw[hsb]at hend
      simp only at hend
      split at hend
      case isFalse=>cases hend
      rename_i hcond
      simp only[Xc,Xao]at hcond
      simp only[Xb,Xk]at hend
      obtain⟨hr1,hr2⟩:=hend
      obtain⟨us,hrs,hul,hur⟩:=Zmb hcr hres hrv
      have hpost:=Zq4 hcr.mem hul hur hst (by rw[hbase];exact hsb) hcond.1 (fun i hi cells ho=>by
       have:=hcond.2 i hi
       rw[ho]at this
       rw[hbase]
       simpa using this)
      have hresults:(results fn a'.tmps).run cx.P w'=.ok (if hz:us.length=1 then us[0]'(by omega) else .tuple us.toArray) w':=by
       have hmm:(fn.results.mapM (resOf a'.tmps)).run cx.P w'=.ok us.toArray w':=by
        rw[Array.mapM_eq_mapM_toList,Sem.run_map,hrs,Result.andThen_ok]
       have he:results fn a'.tmps=(do
         let vs <- fn.results.mapM (resOf a'.tmps)
         pure (if h:vs.size=1 then vs[0] else .tuple vs)):=by
        unfold results
        congr 1
       rw[he]
       simp[hmm]
      have hpost':∃ I N S fo,Post cx w' (if hz:us.length=1 then us[0]'(by omega) else .tuple us.toArray) r outs I N S fo:=by
       rw[hbase]at hpost
       rw[<- hr1,<- hr2]
       exact hpost
      rcases hex with rfl|rfl
      ·exact⟨hcr.defers,_,hresults,hpost'⟩
      ·exact⟨hcr.defers,_,hresults,hpost'⟩
structure Tied(P:Program)(num:Nat->Option FuncId)(fz:List (Nat×Obj))(p:CProg):Prop where
 mixed:P.follows .mixedOrders=true
 fns:∀ k c,p.fn k=some c->∀ f,num k=some f->∃ fn,P.funcs[f]?=some fn/\chkFn P num fn c=true
 prims:∀ k f args objs r outs,num k=some f->p.fn k=none->p.prim k args objs=some (r,outs)->Contract P num fz f args objs r outs
theorem Tied.call{P:Program}{num:Nat->Option FuncId}{fz:List (Nat×Obj)}{p:CProg}(t:Tied P num fz p):∀ (d k:Nat) (f:FuncId) (args:List AV) (objs:List AO) (r:AV) (outs:List (Option AO)),num k=some f->p.call d k args objs=some (r,outs)->Contract P num fz f args objs r outs
 | 0,k,f,args,objs,r,outs,_,h=>by cases h
 | d+1,k,f,args,objs,r,outs,hn,h=>by
  simp only[CProg.call]at h
  cases hc:p.fn k with
  | none=>rw[hc]at h;exact t.prims k f args objs r outs hn hc h
  | some c =>
   rw[hc]at h
   obtain⟨fn,hf,hchk⟩:=t.fns k c hc f hn
   exact Zlw hf hchk t.mixed (fun k f args objs r outs hn h=>t.call d k f args objs r outs hn h) h
end Go.Proofs.YtgdfelbedghhnaaGreatDoor
namespace Go.Proofs.YtgdfelbedghhnaaGreatDoor
open Go Go.RowKit Go.WideShapes
set_option linter.unusedSimpArgs false
inductive Sh where
 | bool
 | int (k:IntKind)
 | str
 | sl (row:List Sh)
mutual
def Fits:Sh->AV->Prop
 | .bool,c=>∃ b,c=.bool b
 | .int k,c=>∃ n,c=.int k n/\(Lit.int k n).wf=true
 | .str,c=>∃ s:ByteArray,c=.str s/\s.size<=maxLen
 | .sl row,c=>∃ xs,c=.sl .bor row.length xs/\xs.length<=maxLen/\∀ r∈xs,FitsL row r
def FitsL:List Sh->List AV->Prop
 | [],[]=>True
 | s::ss,c::cs=>Fits s c/\FitsL ss cs
 | _,_=>False
end
theorem FitsL.append:∀ {as bs:List Sh} {cs ds:List AV},FitsL as cs->FitsL bs ds->FitsL (as++bs) (cs++ds)
 | [],_,[],_,_,h=>h
 | _::_,_,_::_,_,h,k=>by
  simp only[FitsL,Xa1]at h ⊢
  exact⟨h.1,FitsL.append h.2 k⟩
 | [],_,_::_,_,h,_=>by simp[FitsL]at h
 | _::_,_,[],_,h,_=>by simp[FitsL]at h
theorem FitsL.len:∀ {as:List Sh} {cs:List AV},FitsL as cs->cs.length=as.length
 | [],[],_=>rfl
 | _::_,_::_,h=>by simp only[FitsL]at h;simp[FitsL.len h.2]
 | [],_::_,h=>by simp[FitsL]at h
 | _::_,[],h=>by simp[FitsL]at h
def shFs(F:TypeId->Option (List Sh))(P:Program):Nat->List Field->Option (List Sh)
 | _,[]=>some []
 | off,f::fs=>match F f.type with
  | some a=>if f.offset=off/\P.cellsOf f.type=a.length then match shFs F P (off+a.length) fs with
   | some b=>some (a++b)
   | none=>none
   else none
  | none=>none
def shOf(P:Program):Nat->TypeId->Option (List Sh)
 | 0,_=>none
 | d+1,t=>match P.underlying t with
  | some .bool=>some [.bool]
  | some (.int k)=>some [.int k]
  | some .string=>some [.str]
  | some (.slice e)=>match shOf P d e with
   | some row=>if P.cellsOf e=row.length/\row.length≠0 then some [.sl row] else none
   | none=>none
  | some (.struct fs)=>match shFs (shOf P d) P 0 fs.toList with
   | some a=>if P.cellsOf t=a.length then some a else none
   | none=>none
  | _=>none
section
variable {H:Type} {enc:TypeId×Value->H} {P:Program} {W:World} {base:Nat} {spare:Nat->Bool} {held:Bool}
def Old(W:World)(b:Nat):Prop:=b<W.heap.size
structure ReadL(W:World)(cs:List Value)(sh:List Sh)(avs:List AV):Prop where
 fits:FitsL sh avs
 len:cs.length=avs.length
 bor:∀ (j:Nat) (u:Value) (c:AV),cs[j]?=some u->avs[j]?=some c->Bor W (Old W) u c
theorem ReadL.one{u:Value}{s:Sh}{c:AV}(hf:Fits s c)(hb:Bor W (Old W) u c):ReadL W [u] [s] [c]:=by
 refine⟨⟨hf,trivial⟩,rfl,fun j v d hv hd=>?_⟩
 cases j with
 | zero=>simp only[Xm,Xb]at hv hd;subst hv;subst hd;exact hb
 | succ j=>simp at hv
theorem Zg1{F:TypeId->Option (List Sh)}{n:Nat}{cs:List Value}:∀ (fs:List Field) (off:Nat) (sh:List Sh),shFs F P off fs=some sh->cs.length=off+sh.length ->
  (∀ f∈fs,∀ a,F f.type=some a->∀ cs' y,DataW.trod enc P W base spare held n f.type cs'=some y->∃ avs,ReadL W cs' a avs) ->
  (∀ f∈fs,∃ y,DataW.trod enc P W base spare held n f.type ((cs.drop f.offset).take (P.cellsOf f.type))=some y)->∃ avs,ReadL W (cs.drop off) sh avs
 | [],off,sh,hs,hl,_,_=>by
  simp only[shFs,Xb]at hs
  subst hs
  refine⟨[],trivial,by simp at hl ⊢;omega,fun j u c _ hc=>by simp at hc⟩
 | f::fs,off,sh,hs,hl,hF,hr=>by
  simp only[shFs]at hs
  cases hf:F f.type with
  | none=>rw[hf]at hs;cases hs
  | some a =>
   rw[hf]at hs
   simp only at hs
   split at hs
   case isFalse=>cases hs
   rename_i hoff
   obtain⟨hoff,hsz⟩:=hoff
   cases hb:shFs F P (off+a.length) fs with
   | none=>rw[hb]at hs;cases hs
   | some b =>
    rw[hb]at hs
    simp only[Xb]at hs
    subst hs
    rw[Xs]at hl
    obtain⟨y,hy⟩:=hr f Xi
    obtain⟨as,h1⟩:=hF f Xi a hf _ y hy
    obtain⟨bs,h2⟩:=Zg1 fs (off+a.length) b hb (by omega) (fun g hg=>hF g (Xh _ hg)) (fun g hg=>hr g (Xh _ hg))
    rw[hoff,hsz]at h1
    have hsplit:cs.drop off=(cs.drop off).take a.length++cs.drop (off+a.length):=by rw[<- List.drop_drop,List.take_append_drop]
    have hla:((cs.drop off).take a.length).length=a.length:=by simp;omega
    have hlas:=h1.fits.len
    refine⟨as++bs,h1.fits.append h2.fits,by rw[hsplit,Xs,h1.len,h2.len,Xs],fun j u c hu hc=>?_⟩
    rw[hsplit]at hu
    by_cases hj:j<a.length
    ·rw[Xay (by omega)]at hu hc
     exact h1.bor j u c hu hc
    ·rw[Xar (by omega),hla]at hu
     rw[Xar (by omega),hlas]at hc
     exact h2.bor _ u c hu hc
theorem Zfa:∀ (d:Nat) (t:TypeId) (sh:List Sh),shOf P d t=some sh->∀ (n:Nat) (cs:List Value) (y:DataW H×List MemPlace),DataW.trod enc P W base spare held n t cs=some y->∃ avs,ReadL W cs sh avs
 | 0,_,_,hs=>by cases hs
 | d+1,t,sh,hs=>by
  intro n cs y hy
  simp only[shOf]at hs
  cases ht:P.underlying t with
  | none=>rw[ht]at hs;cases hs
  | some td =>
   rw[ht]at hs
   cases td<;>simp only[reduceCtorEq,Xb]at hs
   ·subst hs
    obtain⟨b,rfl,_⟩:=DataW.trod_bool ht hy
    exact⟨[.bool b],.one ⟨b,rfl⟩ (.bool b)⟩
   ·subst hs
    obtain⟨k,rfl,_,hw⟩:=DataW.trod_int ht hy
    exact⟨[.int _ k],.one ⟨k,rfl,hw⟩ (.int _ _)⟩
   ·subst hs
    obtain⟨s,rfl,_,hw⟩:=DataW.trod_string ht hy
    exact⟨[.str s],.one ⟨s,rfl,hw⟩ (.str _)⟩
   ·rename_i e
    cases he:shOf P d e with
    | none=>rw[he]at hs;cases hs
    | some row =>
     rw[he]at hs
     simp only at hs
     split at hs
     case isFalse=>cases hs
     rename_i hsz
     obtain⟨hsz,hpos⟩:=hsz
     simp only[Xb]at hs
     subst hs
     rcases DataW.trod_slice ht hy with ⟨rfl,_⟩|⟨a,len,cap,elems,rest,m,_,rfl,_,_,hlc,hcm,hel,hget,_⟩
     ·exact⟨[.sl .bor row.length []],.one ⟨[],rfl,by simp,by simp⟩ (.nil _ _ _ _)⟩
     ·by_cases hz:len=0
      ·subst hz
       exact⟨[.sl .bor row.length []],.one ⟨[],rfl,by simp,by simp⟩ (.nil _ _ _ _)⟩
      ·-- every row
       have hrow:∀ i,∃ avs csi,i<len->(∀ j,j<row.length->W.cell? ((a.add (i*row.length)).add j)=csi[j]?)/\csi.length=row.length/\ReadL W csi row avs:=by
        intro i
        by_cases hi:i<len
        ·have hgi:=hget i hi
         rw[show elems[i]?=some (elems[i]'(by omega)) from Xd _]at hgi
         obtain⟨csi,hc1,hc2⟩:=Option.bind_eq_some_iff.1 hgi
         rw[hsz]at hc1
         obtain⟨_,hl,hcell⟩:=World.cells?_some hc1
         obtain⟨avs,hav⟩:=Zfa d e row he m csi _ hc2
         exact⟨avs,csi,fun _=>⟨hcell,hl,hav⟩⟩
        ·exact⟨[],[],fun h=>absurd h hi⟩
       let avr:Nat->List AV:=fun i=>(hrow i).choose
       let csr:Nat->List Value:=fun i=>(hrow i).choose_spec.choose
       have hr:∀ i,i<len->(∀ j,j<row.length->W.cell? ((a.add (i*row.length)).add j)=(csr i)[j]?)/\(csr i).length=row.length/\ReadL W (csr i) row (avr i):=fun i hi=>(hrow i).choose_spec.choose_spec hi
       obtain⟨h01,h02,_⟩:=hr 0 (by omega)
       have hc00:(csr 0)[0]?=some ((csr 0)[0]'(by omega)):=Xd _
       have hcell0:=h01 0 (by omega)
       rw[hc00]at hcell0
       have hspot:a.spot=none:=by
        have:=World.cell?_spot hcell0
        obtain⟨b,off,sp⟩:=a
        unfold Addr.add at this
        split at this<;>split at this<;>simp_all
       obtain⟨b,off,sp⟩:=a
       simp only at hspot
       subst hspot
       have hadd:∀ i j,((⟨b,off,none⟩:Addr).add (i*row.length)).add j=⟨b,off+i*row.length+j,none⟩:=fun i j=>by rw[Zbq,Zbq]
       have hold:Old W b:=by
        rw[hadd]at hcell0
        unfold World.cell? at hcell0
        unfold Old
        rcases Xck b W.heap.size with h|h
        ·exact h
        ·simp[Array.getElem?_eq_none h]at hcell0
       let xs:List (List AV):=(List.range len).map avr
       have hxl:xs.length=len:=by simp[xs]
       have hxi:∀ i r,xs[i]?=some r->i<len/\r=avr i:=fun i r hi=>by
        have h1:=(Xa.1 hi).1
        have h2:i<len:=by omega
        simp only[xs,Xam,List.getElem?_range h2,Xw,Xb]at hi
        exact⟨h2,hi.symm⟩
       refine⟨[.sl .bor row.length xs],.one ⟨xs,rfl,by omega,fun r hrm=>?_⟩ ?_⟩
       ·obtain⟨i,hi⟩:=Xak hrm
        obtain⟨h1,rfl⟩:=hxi i r hi
        exact (hr i h1).2.2.fits
       ·have hb:=Bor.sl (w:=W) (R:=Old W) .bor row.length xs b off cap (fun i j=>(csr i)[j]?.getD undef) (by omega) hold (fun r hrm=>by
          obtain⟨i,hi⟩:=Xak hrm
          obtain⟨h1,rfl⟩:=hxi i r hi
          exact (hr i h1).2.2.fits.len) (fun i j c hc=>by
          obtain⟨r,h1,h2⟩:=Zab.1 hc
          obtain⟨hi,rfl⟩:=hxi i r h1
          obtain⟨q1,q2,q3⟩:=hr i hi
          have hj:=(Xa.1 h2).1
          have hjl:j<row.length:=by rw[<- q3.fits.len];exact hj
          rw[<- hadd,q1 j hjl,Xd (by omega)];rfl) (fun i j c hc=>by
          obtain⟨r,h1,h2⟩:=Zab.1 hc
          obtain⟨hi,rfl⟩:=hxi i r h1
          obtain⟨q1,q2,q3⟩:=hr i hi
          have hj:=(Xa.1 h2).1
          have hjl:j<row.length:=by rw[<- q3.fits.len];exact hj
          have hu:(csr i)[j]?=some ((csr i)[j]'(by omega)):=Xd _
          simp only[hu,Xbb]
          exact q3.bor j _ c hu h2)
        rw[hxl]at hb
        exact hb
   ·rename_i fs
    cases hfs:shFs (shOf P d) P 0 fs.toList with
    | none=>rw[hfs]at hs;cases hs
    | some a =>
     rw[hfs]at hs
     simp only at hs
     split at hs
     case isFalse=>cases hs
     rename_i hsz
     simp only[Xb]at hs
     subst hs
     obtain⟨xs,m,_,_,hcl,hxl,hget⟩:=DataW.trod_struct ht hy
     have:=Zg1 (enc:=enc) (W:=W) (base:=base) (spare:=spare) (held:=held) (n:=m) (cs:=cs) fs.toList 0 a hfs (by omega) (fun f _ a' ha cs' y hy=>Zfa d f.type a' ha m cs' y hy) (fun f hf=>by
      obtain⟨i,hi⟩:=Xak hf
      have hi':fs[i]?=some f:=by simpa using hi
      have hlt:=(Xab.1 hi').1
      exact⟨xs[i]'(by omega),(hget i f hi').trans (Xd _)⟩)
     simpa using this
end
end Go.Proofs.YtgdfelbedghhnaaGreatDoor
namespace Go.Proofs.YtgdfelbedghhnaaGreatDoor
open Go Go.RowKit Go.WideShapes
set_option linter.unusedSimpArgs false
def cx0(P:Program)(num:Nat->Option FuncId)(fz:List (Nat×Obj))(W:World):Cx:=⟨P,num,Old W,fun _=>False,Old W,Old W,W,0,fun _=>none,fun _=>undef,fz⟩
def g0(W:World):Gh:=⟨fun _=>undef,fun _ _=>False,Old W,Old W,fun _=>False⟩
def ArgRel(num:Nat->Option FuncId)(W:World)(v:Value)(c:AV):Prop:=SRel num W (Old W) (g0 W) (fun _=>none) 0 v c
theorem mem0(P:Program)(num:Nat->Option FuncId){fz:List (Nat×Obj)}(W:World)(hfz:∀ p∈fz,W.heap[p.1]?=some p.2)(hsrt:SrtAll P num):Mem (cx0 P num fz W) (fun _=>none) 0 (g0 W) W :=
 ⟨fun _ _ h=>(nomatch h),fun _ _ h=>(nomatch h),fun _ _ _ _ _ h=>(nomatch h),fun _ _ _ h=>(nomatch h),fun _ h=>h,fun _ h=>h,fun _ h=>.inl h,fun _ h=>h,fun _ h=>h,fun _ h=>.inl h,
  fun _ h=>absurd h (Nat.not_lt_zero _),fun _ _ h=>absurd h (Nat.not_lt_zero _),fun _ h=>h,fun _ h=>⟨h,fun h=>h⟩,fun _ h=>⟨h,fun h=>h⟩,FrameW.refl _ _,fun p hp=>⟨(Xab.1 (hfz p hp)).1,hfz p hp⟩,hsrt⟩
theorem ArgRel.imm{num:Nat->Option FuncId}{W:World}{v:Value}{sz:Nat}{xs:List (List AV)}(h:ArgRel num W v (.sl .bor sz xs)):ArgRel num W v (.sl .imm sz xs):=by
 cases h with
 | sl _ _ _ _ h1 hm _ _=>exact .sl _ _ _ _ h1 (fun _=>(hm rfl).md) (fun e he=>by cases he) (by simp)
theorem Zpg:∀ {s:Sh} {c:AV},Fits s c->c.lend .bor=c
 | .bool,c,h=>by simp only[Fits]at h;obtain⟨b,rfl⟩:=h;rfl
 | .int k,c,h=>by simp only[Fits]at h;obtain⟨n,rfl,_⟩:=h;rfl
 | .str,c,h=>by simp only[Fits]at h;obtain⟨s,rfl,_⟩:=h;rfl
 | .sl row,c,h=>by simp only[Fits]at h;obtain⟨xs,rfl,_⟩:=h;rfl
theorem FitsL.get:∀ {ss:List Sh} {cs:List AV},FitsL ss cs->∀ (j:Nat) (c:AV),cs[j]?=some c->∃ s,ss[j]?=some s/\Fits s c
 | [],[],_,j,c,h=>by simp at h
 | s::ss,d::cs,h,j,c,hc=>by
  simp only[FitsL]at h
  cases j with
  | zero=>simp only[Xm,Xb]at hc;subst hc;exact⟨s,rfl,h.1⟩
  | succ j=>obtain⟨s',h1,h2⟩:=FitsL.get h.2 j c (by simpa using hc);exact⟨s',by simpa using h1,h2⟩
 | [],_::_,h,_,_,_=>by simp[FitsL]at h
 | _::_,[],h,_,_,_=>by simp[FitsL]at h
section
variable {H:Type} {enc:TypeId×Value->H} {P:Program} {num:Nat->Option FuncId} {W:World} {r:Reach} {b0 base:Nat} {spare:Nat->Bool} {held:Bool} {t:TypeId} {v:Value} {d:DataW H} {ps:List MemPlace}
theorem ReadL.arg{cs:List Value}{sh:List Sh}{avs:List AV}(h:ReadL W cs sh avs){j:Nat}{u:Value}{c:AV}(hu:cs[j]?=some u)(hc:avs[j]?=some c):ArgRel num W u c/\u.oneCell'=true:=by
 obtain⟨s,_,hs⟩:=h.fits.get j c hc
 have hb:=h.bor j u c hu hc
 have:=SRel.of_bor (num:=num) (w:=W) (R:=Old W) (g:=g0 W) (h:=fun _=>none) (ep:=0) (m:=.bor) hb (fun e he=>by cases he) (by simp)
 rw[Zpg hs]at this
 exact⟨this,hb.one⟩
theorem Zr0{s:Sh}{k:Nat}(hs:shOf P k t=some [s])(hv:v.cells.toList=[v])(hd:DataW.Trod enc P W base spare held t v d ps):∃ c,Fits s c/\ArgRel num W v c:=by
 obtain⟨n,hn⟩:=hd
 obtain⟨avs,ha⟩:=Zfa k t [s] hs n _ _ hn
 rw[hv]at ha
 have hl:=ha.fits.len
 match avs,hl,ha with
 | [c],_,ha =>
  have hf:=ha.fits
  simp only[FitsL,Xbv]at hf
  exact⟨c,hf,(ha.arg (j:=0) rfl rfl).1⟩
theorem Zot{e:TypeId}(ht:P.underlying t=some (.slice e)){k:Nat}{row:List Sh}(hs:shOf P k t=some [.sl row])(hval:Value.okWide P W r b0 t v)(hd:DataW.Trod enc P W base spare held t v d ps) :
  ∃ xs,ArgRel num W v (.sl .bor row.length xs)/\xs.length<=maxLen/\∀ x∈xs,FitsL row x:=by
 obtain⟨a,len,cap,rfl⟩:=okWide_slice ht hval
 obtain⟨c,h1,h2⟩:=Zr0 (num:=num) (k:=k) (s:=.sl row) hs rfl hd
 simp only[Fits]at h1
 obtain⟨xs,rfl,h3,h4⟩:=h1
 exact⟨xs,h2,h3,h4⟩
end
inductive ArgsRel (num:Nat->Option FuncId) (W:World):List Value->List AV->Prop
 | nil:ArgsRel num W [] []
 | cons (v:Value) (c:AV) (vs:List Value) (cs:List AV) (h:ArgRel num W v c) (hs:ArgsRel num W vs cs):ArgsRel num W (v::vs) (c::cs)
theorem ArgsRel.get{num:Nat->Option FuncId}{W:World}{vs:List Value}{cs:List AV}(h:ArgsRel num W vs cs):vs.length=cs.length/\∀ (i:Nat) (v:Value) (c:AV),vs[i]?=some v->cs[i]?=some c->ArgRel num W v c:=by
 induction h with
 | nil=>exact⟨rfl,fun i v c hv=>by simp at hv⟩
 | cons v c vs cs h _ ih =>
  refine⟨by simp[ih.1],fun i u d hu hd=>?_⟩
  cases i with
  | zero=>simp only[Xm,Xb]at hu hd;subst hu;subst hd;exact h
  | succ i=>exact ih.2 i u d (by simpa using hu) (by simpa using hd)
theorem Zpm{P:Program}{num:Nat→Option FuncId}{fz:List (Nat×Obj)}{f:FuncId}{fn:Func}{body:Code}(hf:P.funcs[f]?=some fn)(hb:fn.body=some body)(hn:fn.name≠"runtime.NumGoroutine"){args:List AV}{ans:Bool}
  (hC:Contract P num fz f args [] (.bool ans) []) {W:World} (hfz:∀ p∈fz,W.heap[p.1]?=some p.2) (hsrt:SrtAll P num) {vs:Array Value} (ha:ArgsRel num W vs.toList args):Calls P f vs W fun e W'=>e=.returned (.bool ans)/\Below W.heap.size W W':=by
 obtain⟨hl,hg⟩:=ha.get
 rw[Xau]at hl
 have h:=hC (cx0 P num fz W) (g0 W) W vs rfl rfl rfl rfl rfl rfl rfl (fun _ h=>h.elim) (mem0 P num W hfz hsrt) hl (fun i v c hv hc=>hg i v c (by simpa using hv) hc)
 have h2:=h ⟨some 0,.move (.tmp 0),0, "",#[],none⟩ ⟨#[undef],[]⟩ (fun a' w' => ∃ I N S fo,Post (cx0 P num fz W) w' (a'.tmps.getD 0 undef) (.bool ans) [] I N S fo) (fun _ _ _ => False) (fun v w' hp => by
  have:((⟨#[undef],[]⟩:Act).put (some 0) v).tmps.getD 0 undef=v:=by simp[Act.put]
  rw[this];exact hp)
 have hcf:(callFunc f vs).run P W=.ok (.enter f vs) W:=by simp[callFunc,hf,hn,hb]
 rw[hcf,Oper.upon_enter]at h2
 refine h2.mono fun e w' he=>?_
 cases e with
 | panicked _=>exact he.elim
 | outgrown=>obtain⟨_,_,h⟩:=he;exact h.elim
 | returned v =>
  obtain⟨I,N,S,fo,hp⟩:=he
  have hv:((⟨#[undef],[]⟩:Act).put (some 0) v).tmps.getD 0 undef=v:=by simp[Act.put]
  rw[hv]at hp
  have hres:=hp.res
  have:v=.bool ans:=by
   cases hres with
   | one _ _ _ h _=>cases h with
    | one _ _ _ h _=>cases h;rfl
  subst this
  exact⟨rfl,hp.frame.os,hp.frame.tape,hp.frame.output,hp.frame.size,fun k hk=>hp.frame.block k hk (fun h=>h)⟩
end Go.Proofs.YtgdfelbedghhnaaGreatDoor
namespace Go.Proofs.YtgdfelbedghhnaaGreatDoor
open Go Go.RowKit Go.WideShapes
set_option linter.unusedSimpArgs false
def I64(n:Int):Prop := -9223372036854775808<=n/\n<=9223372036854775807
structure Want.wf(w:Want):Prop where
 copy:w.copy.size<=maxLen
 hold:w.hold.size<=maxLen
 version:I64 w.version
 pull:I64 w.pull
 start:I64 w.start
 dies:I64 w.dies
 grace:I64 w.grace
structure Run.wf(r:Run):Prop where
 want:r.want.wf
 state:I64 r.state
 left:I64 r.left
 falls:I64 r.falls
 til:I64 r.til
structure Ask.wf(a:Ask):Prop where
 hold:a.hold.size<=maxLen
 copy:a.copy.size<=maxLen
 first:I64 a.first
 at_:I64 a.at_
structure ListWf{α:Type}(p:α->Prop)(xs:List α):Prop where
 len:xs.length<=maxLen
 all:∀ x∈xs,p x
structure Mate.wf(m:Mate):Prop where
 name:m.name.size<=maxLen
 clock:I64 m.clock
 seen:I64 m.seen
 wants:ListWf Want.wf m.wants
 runs:ListWf Run.wf m.runs
 asks:ListWf Ask.wf m.asks
 gives:ListWf Ask.wf m.gives
structure Parcel.wf(p:Parcel):Prop where
 kind:I64 p.kind
 berth:p.berth.size<=maxLen
 seen:I64 p.seen
 wants:ListWf Want.wf p.wants
 hold:p.hold.size<=maxLen
 copy:p.copy.size<=maxLen
 at_:I64 p.at_
structure Grant.wf(g:Grant):Prop where
 hold:g.hold.size<=maxLen
 berth:g.berth.size<=maxLen
 copy:g.copy.size<=maxLen
 at_:I64 g.at_
 til:I64 g.til
structure Place.wf(p:Place):Prop where
 berth:p.berth.size<=maxLen
 seen:I64 p.seen
 wants:ListWf Want.wf p.wants
structure Land.wf(l:Land):Prop where
 time:I64 l.time
 grants:ListWf Grant.wf l.grants
 places:ListWf Place.wf l.places
structure Wld.wf(w:Wld):Prop where
 land:w.land.wf
 mates:ListWf Mate.wf w.mates
 flight:ListWf (fun s:T=>s.size<=maxLen) w.flight
structure Event.wf(e:Event):Prop where
 kind:I64 e.kind
 a:I64 e.a
 b:I64 e.b
 wants:ListWf Want.wf e.wants
 rates:ListWf I64 e.rates
theorem Zkh{α:Type}{row:List Sh}{cf:α->List AV}{p:α->Prop}(hr:∀ c,FitsL row c->∃ x,c=cf x/\p x){c:AV}(h:Fits (.sl row) c):∃ xs,c=.sl .bor row.length (xs.map cf)/\ListWf p xs:=by
 simp only[Fits]at h
 obtain⟨rows,rfl,hl,ha⟩:=h
 have:∀ rows:List (List AV),(∀ r∈rows,FitsL row r)->∃ xs:List α,rows=xs.map cf/\∀ x∈xs,p x:=by
  intro rows
  induction rows with
  | nil=>intro _;exact⟨[],rfl,by simp⟩
  | cons r rows ih =>
   intro h
   obtain⟨x,h1,h2⟩:=hr r (h r Xi)
   obtain⟨xs,h3,h4⟩:=ih fun r hr=>h r (Xh _ hr)
   exact⟨x::xs,by rw[h1,h3];rfl,fun y hy=>by
    rcases Xl.1 hy with rfl|hy
    ·exact h2
    ·exact h4 y hy⟩
 obtain⟨xs,rfl,h2⟩:=this rows ha
 exact⟨xs,rfl,by simpa using hl,h2⟩
theorem Zpf{c:List AV}(h:FitsL [] c):c=[]:=by
 cases c with
 | nil=>rfl
 | cons _ _=>simp[FitsL]at h
theorem Zn1{s:Sh}{ss:List Sh}{c:List AV}(h:FitsL (s::ss) c):∃ d ds,c=d::ds/\Fits s d/\FitsL ss ds:=by
 cases c with
 | nil=>simp[FitsL]at h
 | cons d ds=>exact⟨d,ds,rfl,by simpa [FitsL] using h⟩
abbrev rowB (b:Int):List AV:=[.int .u8 b]
def Byte(n:Int):Prop:=0<=n/\n<=255
theorem Zmw{c:List AV}(h:FitsL [.int .u8] c):∃ n,c=rowB n/\Byte n:=by
 obtain⟨_,_,rfl,h0,h⟩:=Zn1 h
 obtain rfl:=Zpf h
 simp only[Fits]at h0
 obtain⟨n,rfl,hw⟩:=h0
 refine⟨n,rfl,?_⟩
 simp[Lit.wf,IntKind.min,IntKind.max,IntKind.signed,IntKind.bits]at hw
 unfold Byte
 omega
theorem Zfu{H:Type}{enc:TypeId×Value->H}{P:Program}{num:Nat->Option FuncId}{W:World}{r:Reach}{b0 base:Nat}{spare:Nat->Bool}{held:Bool}{t:TypeId}{v:Value}{d:DataW H}{ps:List MemPlace}{e:TypeId}(ht:P.underlying t=some (.slice e)){k:Nat}{row:List Sh}(hs:shOf P k t=some [.sl row])(hval:Value.okWide P W r b0 t v)(hd:DataW.Trod enc P W base spare held t v d ps) :
  ∃ c,Fits (.sl row) c/\ArgRel num W v c:=by
 obtain⟨xs,h1,h2,h3⟩:=Zot (num:=num) ht hs hval hd
 exact⟨_,by simp only[Fits];exact⟨xs,rfl,h2,h3⟩,h1⟩
theorem Zrk{P':Program}{num:Nat->Option FuncId}{fz:List (Nat×Obj)}{p:CProg}(t:Tied P' num fz p){k:Nat}{f:FuncId}{args:List AV}{r:AV×List (Option AO)}(hn:num k=some f)(h:p.lim k args []=some r):Contract P' num fz f args [] r.1 r.2:=by
 obtain⟨d,hd⟩:=Zko.1 h
 exact t.call d k f args [] r.1 r.2 hn (hd d (Xo _))
end Go.Proofs.YtgdfelbedghhnaaGreatDoor
namespace Go.Proofs.YtgdfelbedghhnaaGreatDoor
open Go
set_option linter.unusedSimpArgs false
set_option maxRecDepth 100000
structure Code(bs:List Int):Prop where
 len:bs.length<=2000
 byte:∀ b∈bs,0<=b/\b<=255
def rdBox(bs:List Int)(p:Int):AO:=.box [.sl .imm 1 (bs.map rowB),.int .i64 p]
noncomputable def pickV(bs:List Int)(p n:Int):Int:=match F 89 [.ptr 0 0 0,.int .i64 n] [rdBox bs p] with
 | some (.int .i64 r,_)=>r
 | _=>0
theorem Zte{a b:Int}(h1:0<=a)(h2:a<9223372036854775808)(h3:0<=b)(h4:b<9223372036854775808) :
  ∃ r:Int,IntKind.i64.wrap (((a % 2 ^ IntKind.i64.bits).toNat ^^^ (b % 2 ^ IntKind.i64.bits).toNat:Nat):Int)=r/\0<=r/\r<9223372036854775808:=by
 obtain⟨x,rfl⟩:∃ x:Nat,a=x:=⟨a.toNat,by omega⟩
 obtain⟨y,rfl⟩:∃ y:Nat,b=y:=⟨b.toNat,by omega⟩
 have e1:((x:Int) % 2 ^ IntKind.i64.bits).toNat=x:=by simp[IntKind.bits];omega
 have e2:((y:Int) % 2 ^ IntKind.i64.bits).toNat=y:=by simp[IntKind.bits];omega
 have h:=Nat.xor_lt_two_pow (x:=x) (y:=y) (n:=63) (by omega) (by omega)
 refine⟨((x ^^^ y:Nat):Int),?_,by omega,by omega⟩
 rw[e1,e2]
 exact i64w (by omega) (by omega)
theorem Zj2{x n:Int}(hx:0<=x)(hn:1<=n):0<=x.tmod n/\x.tmod n<n:=by
 rw[Xba hx]
 exact⟨Int.emod_nonneg _ (by omega),Int.emod_lt_of_pos _ (by omega)⟩
theorem law89'(bs:List Int)(p n:Int)(hb:Code bs)(h0:0<=p)(hp:p<=1000000000000)(hn:n<=1000000000):∃ r,F 89 [.ptr 0 0 0,.int .i64 n] [rdBox bs p]=some (.int .i64 r,[some (rdBox bs (p+1))])/\0<=r/\(1<=n->r<n):=by
 have u1:IntKind.i64.wrap (p+1)=p+1:=i64w (by omega) (by omega)
 have u2:IntKind.i64.wrap p=p:=i64w (by omega) (by omega)
 have hl:=hb.len
 by_cases c1:n<1
 ·refine⟨0,Zae fn89 rfl ?_,by omega,by omega⟩
  simp[c89,rdBox,u1,c1]
 by_cases c2:bs=[]
 ·subst c2
  refine⟨0,Zae fn89 rfl ?_,by omega,by omega⟩
  simp[c89,rdBox,u1,c1]
 have hpos:0<bs.length:=Xcn.2 c2
 have c2':¬ ((bs.length:Int)=0):=by omega
 have c1n:¬ (n=0):=by omega
 by_cases c3:p<bs.length
 ·obtain⟨b,hbb⟩:∃ b,bs[p.toNat]?=some b:=⟨_,Xd (by omega)⟩
  obtain⟨_,hg⟩:=Xa.1 hbb
  have hr:=hb.byte b (Xe hbb)
  have u3:IntKind.i64.wrap b=b:=i64w (by omega) (by omega)
  have ht:=Zj2 (x:=b) (n:=n) (by omega) (by omega)
  have hlt:p.toNat<bs.length:=by omega
  refine⟨b.tmod n,Zae fn89 rfl ?_,ht.1,fun _=>ht.2⟩
  simp[c89,rdBox,u1,u2,c1,c2',c2,c3,c1n,hlt,hg,h0,u3]
 ·obtain⟨i1,hi1⟩:∃ i,i=p.tmod bs.length:=⟨_,rfl⟩
  obtain⟨i2,hi2⟩:∃ i,i=(p*7+3).tmod bs.length:=⟨_,rfl⟩
  have k1:=Zj2 (x:=p) (n:=bs.length) h0 (by omega)
  have k2:=Zj2 (x:=p*7+3) (n:=bs.length) (by omega) (by omega)
  rw[<- hi1]at k1
  rw[<- hi2]at k2
  obtain⟨b1,hb1⟩:∃ b,bs[i1.toNat]?=some b:=⟨_,Xd (by omega)⟩
  obtain⟨b2,hb2⟩:∃ b,bs[i2.toNat]?=some b:=⟨_,Xd (by omega)⟩
  obtain⟨_,hg1⟩:=Xa.1 hb1
  obtain⟨_,hg2⟩:=Xa.1 hb2
  have r1:=hb.byte b1 (Xe hb1)
  have r2:=hb.byte b2 (Xe hb2)
  have l1:i1.toNat<bs.length:=by omega
  have l2:i2.toNat<bs.length:=by omega
  have v1:IntKind.i64.wrap b1=b1:=i64w (by omega) (by omega)
  have v2:IntKind.i64.wrap b2=b2:=i64w (by omega) (by omega)
  have v3:IntKind.i64.wrap (b1*131)=b1*131:=i64w (by omega) (by omega)
  have v4:IntKind.i64.wrap (p*7)=p*7:=i64w (by omega) (by omega)
  have v5:IntKind.i64.wrap (p*7+3)=p*7+3:=i64w (by omega) (by omega)
  have v6:IntKind.i64.wrap (b2*1117)=b2*1117:=i64w (by omega) (by omega)
  have v7:IntKind.i64.wrap (b1*131+b2*1117)=b1*131+b2*1117:=i64w (by omega) (by omega)
  have v8:IntKind.i64.wrap (p*29)=p*29:=i64w (by omega) (by omega)
  have v9:IntKind.i64.wrap (b1*131+b2*1117+p*29)=b1*131+b2*1117+p*29:=i64w (by omega) (by omega)
  obtain⟨q,hq⟩:∃ q,q=p.tdiv bs.length:=⟨_,rfl⟩
  have hq1:0<=q/\q<=p:=by
   rw[hq,Int.tdiv_eq_ediv_of_nonneg h0]
   exact⟨Int.ediv_nonneg h0 (by omega),Int.ediv_le_self _ h0⟩
  have v10:IntKind.i64.wrap q=q:=i64w (by omega) (by omega)
  have v11:IntKind.i64.wrap (q*53)=q*53:=i64w (by omega) (by omega)
  obtain⟨x,hx⟩:∃ x,x=b1*131+b2*1117+p*29+q*53:=⟨_,rfl⟩
  have v12:IntKind.i64.wrap x=x:=i64w (by omega) (by omega)
  obtain⟨y,hy⟩:∃ y,y=x.tdiv 64:=⟨_,rfl⟩
  have hy1:0<=y/\y<=x:=by
   rw[hy,Int.tdiv_eq_ediv_of_nonneg (by omega)]
   exact⟨Int.ediv_nonneg (by omega) (by omega),Int.ediv_le_self _ (by omega)⟩
  have v13:IntKind.i64.wrap y=y:=i64w (by omega) (by omega)
  obtain⟨z,hz,hz1,hz2⟩:=Zte (a:=x) (b:=y) (by omega) (by omega) (by omega) (by omega)
  have ht:=Zj2 (x:=z) (n:=n) hz1 (by omega)
  refine⟨z.tmod n,Zae fn89 rfl ?_,ht.1,fun _=>ht.2⟩
  simp[c89,rdBox,u1,u2,c1,c2',c2,c3,c1n,<- hi1,<- hi2,k1.1,k2.1,l1,l2,hg1,hg2,v1,v2,v3,v4,v5,v6,v7,v8,v9,<- hq,v10,v11,<- hx,v12,<- hy,v13,hz]
theorem law89(bs:List Int)(p n:Int)(hb:Code bs)(h0:0<=p)(hp:p<=1000000000000)(hn:n<=1000000000):F 89 [.ptr 0 0 0,.int .i64 n] [rdBox bs p]=some (.int .i64 (pickV bs p n),[some (rdBox bs (p+1))])/\0<=pickV bs p n/\(1<=n->pickV bs p n<n):=by
 obtain⟨r,h1,h2⟩:=law89' bs p n hb h0 hp hn
 have:pickV bs p n=r:=by unfold pickV;rw[h1]
 rw[this]
 exact⟨h1,h2⟩
theorem law91(bs:List Int)(hl:bs.length<=1000000000):F 91 [.sl .imm 1 (bs.map rowB)] []=some (.cellp [.sl .imm 1 ((bs.take 2000).map rowB),.int .i64 0],[]):=by
 refine Zae fn91 rfl ?_
 by_cases h:2000<bs.length
 ·have h1:(2000:Int)<bs.length:=by omega
  have h2:(2000:Int)<=bs.length:=by omega
  simp[c91,h1,h2,slBounds]
 ·have h1:¬ ((2000:Int)<bs.length):=by omega
  have h2:bs.take 2000=bs:=Xae (by omega)
  simp[c91,h1,h2]
def inR(n lo hi:Int):Bool:=decide (lo<=n) && decide (n<=hi)
@[simp] theorem law85(n lo hi:Int):F 85 [.int .i64 n,.int .i64 lo,.int .i64 hi] []=some (.bool (inR n lo hi),[]):=by
 refine Zae fn85 rfl ?_
 simp[c85,inR]
 by_cases h:lo<=n<;>simp[h]
@[simp] theorem law102(n lo hi:Int):F 102 [.int .i64 n,.int .i64 lo,.int .i64 hi] []=some (.bool (inR n lo hi),[]):=by
 refine Zae fn102 rfl ?_
 simp[c102,inR]
 by_cases h:lo<=n<;>simp[h]
def nameByte(b:UInt8):Bool:=decide (33<=(b.toNat:Int)) && decide ((b.toNat:Int)<=126)
def isName(s:ByteArray):Bool:=decide (1<=s.size) && decide (s.size<=20) && s.data.toList.all nameByte
theorem Zal(s:ByteArray):s.data.toList.length=s.size:=rfl
def head105(s:ByteArray)(i:Nat):St:=hd [(0,.str s),(13,.int .i64 s.size),(14,.int .i64 i)] [] 0
@[simp] theorem law105(s:ByteArray):F 105 [.str s] []=some (.bool (isName s),[]):=by
 refine Zae fn105 rfl ?_
 simp[c105,isName]
 by_cases h1:1<=s.size
 ·by_cases h2:s.size<=20
  ·have h3:¬ (20<(s.size:Int)):=by omega
   have h4:1<=(s.size:Int):=by omega
   simp[h1,h2,h3,h4]
   refine (Zaa s.data.toList (fun i (_:Unit)=>head105 s i) (fun _ _=>True) (fun _ r _=>(.bool (r.all nameByte),[])) (fun acc Y _=>?_) (fun i a r acc Y ha hi hr _ hY=>?_) () ?_ trivial ?_).trans ?_
   ·rw[Zal]
    simp[head105,c105b0]
   ·rw[Zal]at hi
    have hw:IntKind.i64.wrap ((i:Int)+1)=(i:Int)+1:=i64w (by omega) (by omega)
    have ha':s.data[i]?=some a:=by simpa using ha
    obtain⟨_,ha⟩:=Xab.1 ha'
    simp[head105,c105b0,ha,hi,nameByte]
    by_cases q1:33<=(a.toNat:Int)
    ·by_cases q2:(a.toNat:Int)<=126
     ·have q3:¬ ((a.toNat:Int)<33):=by omega
      have q4:¬ (126<(a.toNat:Int)):=by omega
      simp[q1,q2,q3,q4]
      rw[hY () _ trivial]
      simp[head105,hw]
     ·have q3:¬ ((a.toNat:Int)<33):=by omega
      have q4:126<(a.toNat:Int):=by omega
      simp[q1,q2,q3,q4]
    ·have q3:(a.toNat:Int)<33:=by omega
     simp[q1,q3]
   ·simp[head105]
   ·rw[Zal];unfold big;omega
   ·simp
  ·have h3:20<(s.size:Int):=by omega
   have h4:1<=(s.size:Int):=by omega
   simp[h1,h2,h3,h4]
 ·have h4:¬ (1<=(s.size:Int)):=by omega
  simp[h1,h4]
def head101(s:ByteArray)(i:Nat):St:=hd [(0,.str s),(3,.int .i64 i)] [] 0
@[simp] theorem law101(s:ByteArray):F 101 [.str s] []=some (.bool (isName s),[]):=by
 refine Zae fn101 rfl ?_
 simp[c101,isName,inR]
 by_cases h1:1<=s.size
 ·by_cases h2:s.size<=20
  ·have h3:¬ (20<(s.size:Int)):=by omega
   have h4:¬ ((s.size:Int)<1):=by omega
   simp[h1,h2,h3,h4]
   refine (Zaa s.data.toList (fun i (_:Unit)=>head101 s i) (fun _ _=>True) (fun _ r _=>(.bool (r.all nameByte),[])) (fun acc Y _=>?_) (fun i a r acc Y ha hi hr _ hY=>?_) () ?_ trivial ?_).trans ?_
   ·rw[Zal]
    simp[head101,c101b0]
   ·rw[Zal]at hi
    have hw:IntKind.i64.wrap ((i:Int)+1)=(i:Int)+1:=i64w (by omega) (by omega)
    have ha':s.data[i]?=some a:=by simpa using ha
    obtain⟨_,ha⟩:=Xab.1 ha'
    simp[head101,c101b0,ha,hi,nameByte]
    by_cases q1:33<=(a.toNat:Int)
    ·by_cases q2:(a.toNat:Int)<=126
     ·have q3:¬ ((a.toNat:Int)<33):=by omega
      have q4:¬ (126<(a.toNat:Int)):=by omega
      simp[q1,q2,q3,q4]
      rw[hY () _ trivial]
      simp[head101,hw]
     ·have q3:¬ ((a.toNat:Int)<33):=by omega
      have q4:126<(a.toNat:Int):=by omega
      simp[q1,q2,q3,q4]
    ·have q3:(a.toNat:Int)<33:=by omega
     simp[q1,q3]
   ·simp[head101]
   ·rw[Zal];unfold big;omega
   ·simp
  ·have h3:20<(s.size:Int):=by omega
   simp[h1,h2,h3]
 ·have h4:(s.size:Int)<1:=by omega
  simp[h1,h4]
def isHold(s:ByteArray):Bool:=isName s && !(sEq s ⟨#[42]⟩)
@[simp] theorem law106(s:ByteArray):F 106 [.str s] []=some (.bool (isHold s),[]):=by
 refine Zae fn106 rfl ?_
 simp[c106,isHold]
 cases isName s<;>simp
@[simp] theorem law100(s:ByteArray):F 100 [.str s] []=some (.bool (isHold s),[]):=by
 refine Zae fn100 rfl ?_
 simp[c100,isHold]
 cases isName s<;>simp
def wantOk(w:Want):Bool:=isName w.copy && inR w.version 1 1000000 && (sEq w.hold ⟨#[]⟩ || isHold w.hold) && inR w.pull 0 100 && inR w.start 0 100 && inR w.dies 0 100 && inR w.grace 0 100
@[simp] theorem law82(s:T)(n:Int)(h:T)(n1 n2 n3 n4:Int):F 82 [.agg [.str s,.int .i64 n,.str h,.int .i64 n1,.int .i64 n2,.int .i64 n3,.int .i64 n4]] []=some (.bool (wantOk ⟨s,n,h,n1,n2,n3,n4⟩),[]):=by
 refine Zae fn82 rfl ?_
 simp[c82,wantOk]
 repeat' split
 all_goals simp_all
@[simp] theorem law81(s:T)(n:Int)(h:T)(n1 n2 n3 n4:Int):F 81 [.agg [.str s,.int .i64 n,.str h,.int .i64 n1,.int .i64 n2,.int .i64 n3,.int .i64 n4]] []=some (.bool (wantOk ⟨s,n,h,n1,n2,n3,n4⟩),[]):=by
 refine Zae fn81 rfl ?_
 simp[c81,wantOk]
 repeat' split
 all_goals simp_all
/-! ### Wants -/
def ascW(pre:List Want)(w:Want):Bool :=
 match pre.getLast? with
 | none=>true
 | some p=>sLt p.copy w.copy
def heldB(pre:List Want)(k:T):Bool:=pre.any fun p=>sEq p.hold k
def freshW(pre:List Want)(w:Want):Bool:=sEq w.hold ⟨#[]⟩ || !heldB pre w.hold
def wantsGo(pre:List Want):List Want->Bool
 | []=>true
 | w::r=>wantOk w && (ascW pre w && (freshW pre w && wantsGo (pre++[w]) r))
def wantsOk(ws:List Want):Bool:=decide (ws.length<=10) && wantsGo [] ws
def heldMap(pre:List Want):ByteArray->Option AV:=pre.foldl (fun m w=>mapPut w.hold (.bool true) m) noKeys
@[simp] theorem heldMap_get(pre:List Want)(k:ByteArray):(mapGet k (heldMap pre)).getD (.bool false)=.bool (heldB pre k):=by
 have h:∀ (l:List Want) (m:ByteArray->Option AV) (b:Bool),(mapGet k m).getD (.bool false)=.bool b->(mapGet k (l.foldl (fun m w=>mapPut w.hold (.bool true) m) m)).getD (.bool false)=.bool (b || l.any fun p=>sEq p.hold k):=by
  intro l
  induction l with
  | nil=>intro m b h;simpa using h
  | cons w l ih =>
   intro m b h
   rw[Xbl,ih _ (b || sEq w.hold k)]
   ·simp[Bool.or_assoc]
   ·rw[Zi1,Zeu w.hold k]
    by_cases h2:sEq k w.hold=true
    ·simp[h2]
    ·simp[h2,h]
 have:=h pre noKeys false rfl
 rw[Xbk]at this
 exact this
@[simp] theorem heldB_nil(k:T):heldB [] k=false:=rfl
theorem Zf1(pre:List Want)(w:Want):heldMap (pre++[w])=mapPut w.hold (.bool true) (heldMap pre):=by simp[heldMap]
def head6(m:Md)(ws:List Want)(i:Nat):St:=hd [(0,.sl m 7 (ws.map Want.c)),(3,.mapr 0),(7,.sl m 7 (ws.map Want.c)),(8,.int .i64 ws.length),(9,.int .i64 i)] [.map false (heldMap (ws.take i))] 0
theorem Zas{α:Type}{xs:List α}{j:Nat}{a:α}(h:xs[j]?=some a):xs.take (j+1)=xs.take j++[a]:=by
 rw[Xax,h];rfl
theorem prev{α:Type}{xs:List α}{i:Nat}(hi:i<xs.length)(hm:xs.length<=9223372036854775807)(hp:i≠0):∃ j:Nat,0<i/\IntKind.i64.wrap ((i:Int)-1)=(j:Int)/\∃ h:j<xs.length,(xs.take i).getLast?=some (xs[j]'h):=by
 obtain⟨j,rfl⟩:∃ j,i=j+1:=⟨i-1,by omega⟩
 refine⟨j,by omega,?_,by omega,?_⟩
 ·rw[i64w]<;>omega
 ·rw[Zas (Xd (show j<xs.length by omega)),List.getLast?_concat]
theorem law6(ws:List Want)(hl:ws.length<big):F 6 [.sl .bor 7 (ws.map Want.c)] []=some (.bool (wantsOk ws),[]):=by
 refine Zae fn6 rfl ?_
 have hm:ws.length<=9223372036854775807:=by unfold big at hl;omega
 simp[c6]
 refine (Zaa ws (fun i (_:Unit)=>head6 .bor ws i) (fun _ _=>True) (fun i r _=>(.bool (decide (ws.length<=10) && wantsGo (ws.take i) r),[])) (fun acc Y _=>?_) (fun i a r acc Y ha hi hr _ hY=>?_) () ?_ trivial ?_).trans ?_
 ·simp[head6,c6b0,wantsGo]
  omega
 ·have hw:IntKind.i64.wrap ((i:Int)+1)=(i:Int)+1:=i64w (by omega) (by omega)
  obtain⟨_,hg⟩:=Xa.1 ha
  have hs:=Zas ha
  have hY':∀ s',s'.norm [0,3,7,8,9]=head6 .bor ws (i+1)->fin [CRes.tmp 2] 0 (Y s')=some (.bool (decide (ws.length<=10) && wantsGo (ws.take i++[a]) r),[]):=fun s' h=>by rw[<- hs];exact hY () s' trivial h
  have hh:heldMap (ws.take (i+1))=mapPut a.hold (.bool true) (heldMap (ws.take i)):=by rw[hs,Zf1]
  by_cases hz:i=0
  ·have hp:¬ 0<i:=by omega
   have ht:ws.take i=[]:=by rw[hz];rfl
   simp[head6,c6b0,wantsGo,hg,hi,ascW,freshW,hp,ht]
   cases hq:wantOk a<;>cases hr2:sEq a.hold ⟨#[]⟩<;>simp[hq,hr2]
   all_goals
    rw[hY' _ (by simp[head6,hw,hh,ht])]
    simp[ht]
  ·obtain⟨j,hp,hw1,hj,hlast⟩:=prev hi hm hz
   simp[head6,c6b0,wantsGo,hg,hi,ascW,freshW,hp,hw1,hj,hlast]
   cases hq:wantOk a<;>cases hr2:sEq a.hold ⟨#[]⟩<;>cases hr3:sLt ws[j].copy a.copy<;>simp[hq,hr2,hr3]
   ·cases hr4:heldB (ws.take i) a.hold
    ·simp
     rw[hY' _ (by simp[head6,hw,hh])]
    ·simp
   ·rw[hY' _ (by simp[head6,hw,hh])]
 ·simp[head6,heldMap]
 ·exact hl
 ·simp[wantsOk]
def head7(ws:List Want)(i:Nat):St:=hd [(0,.sl .bor 7 (ws.map Want.c)),(3,.int .i64 i)] [] 0
def head7k(ws:List Want)(i k:Nat):St:=hd [(0,.sl .bor 7 (ws.map Want.c)),(3,.int .i64 i),(4,.int .i64 k)] [] 0
theorem law7(ws:List Want)(hl:ws.length<big):F 7 [.sl .bor 7 (ws.map Want.c)] []=some (.bool (wantsOk ws),[]):=by
 refine Zae fn7 rfl ?_
 have hm:ws.length<=9223372036854775807:=by unfold big at hl;omega
 simp[c7,wantsOk]
 by_cases h10:ws.length<=10
 ·have h10':¬ (10<(ws.length:Int)):=by omega
  simp[h10,h10']
  refine (Zaa ws (fun i (_:Unit)=>head7 ws i) (fun _ _=>True) (fun i r _=>(.bool (wantsGo (ws.take i) r),[])) (fun acc Y _=>?_) (fun i a r acc Y ha hi hr _ hY=>?_) () ?_ trivial ?_).trans ?_
  ·simp[head7,c7b1,wantsGo]
  ·have hw:IntKind.i64.wrap ((i:Int)+1)=(i:Int)+1:=i64w (by omega) (by omega)
   obtain⟨_,hg⟩:=Xa.1 ha
   have hs:=Zas ha
   have hY':∀ s',s'.norm [0,3]=head7 ws (i+1)->fin [CRes.tmp 2] 0 (Y s')=some (.bool (wantsGo (ws.take i++[a]) r),[]):=fun s' h=>by rw[<- hs];exact hY () s' trivial h
   have inner:∀ (fs:List Fr) (st:St),st.norm [0,3,4]=head7k ws i 0->fin [CRes.tmp 2] 0 (X F (.code (.loop [0,3,4] c7b0)::.blk 2::.blk 1::.code (.region [xd 12 3,xu 13 12 1,xd 3 13] [0,3])::.back Y::fs) (.normal,st))=some (.bool (freshW (ws.take i) a && wantsGo (ws.take i++[a]) r),[]):=by
    intro fs st hst
    refine (Zaa (ws.take i) (fun k (_:Unit)=>head7k ws i k) (fun _ _=>True) (fun k t _=>(.bool ((sEq a.hold ⟨#[]⟩ || !heldB t a.hold) && wantsGo (ws.take i++[a]) r),[])) (fun acc Z _=>?_) (fun k b t acc Z hb hk ht _ hZ=>?_) () hst trivial ?_).trans ?_
    ·have hlen:(ws.take i).length=i:=by simp;omega
     rw[hlen]
     simp[head7k,c7b0]
     exact hY' _ (by simp[head7,hw])
    ·have hk2:k<i:=by simp at hk;omega
     have hwk:IntKind.i64.wrap ((k:Int)+1)=(k:Int)+1:=i64w (by omega) (by omega)
     have hb2:ws[k]?=some b:=by rw[Xal,Xr hk2]at hb;exact hb
     obtain⟨hkl,hgb⟩:=Xa.1 hb2
     simp[head7k,c7b0,hk2,hi,hg,hkl,hgb]
     cases hr2:sEq a.hold ⟨#[]⟩<;>cases hr3:sEq b.hold a.hold<;>simp[hr2,hr3,heldB]
     all_goals
      rw[hZ () _ trivial (by simp[head7k,hwk])]
      simp[hr2,heldB]
    ·simp;unfold big;omega
    ·simp[freshW]
   by_cases hz:i=0
   ·have hp:¬ 0<i:=by omega
    have ht:ws.take i=[]:=by rw[hz];rfl
    simp[head7,c7b1,wantsGo,hg,hi,ascW,hp,ht]
    cases hq:wantOk a<;>simp[hq]
    rw[inner _ _ (by simp[head7k])]
    simp[ht]
   ·obtain⟨j,hp,hw1,hj,hlast⟩:=prev hi hm hz
    simp[head7,c7b1,wantsGo,hg,hi,ascW,hp,hw1,hj,hlast]
    cases hq:wantOk a<;>cases hr3:sLt ws[j].copy a.copy<;>simp[hq,hr3]
    rw[inner _ _ (by simp[head7k])]
  ·simp[head7]
  ·exact hl
  ·simp
 ·have h10':10<(ws.length:Int):=by omega
  simp[h10,h10']
def aliveS(n:Int):Bool:=n == 3 || n == 4 || n == 6
@[simp] theorem aliveS_2:aliveS 2=false:=rfl
def alive(r:Run):Bool:=aliveS r.state
@[simp] theorem law1(s:T)(n:Int)(h:T)(n1 n2 n3 n4 m1 m2 m3 m4:Int):F 1 [.agg [.str s,.int .i64 n,.str h,.int .i64 n1,.int .i64 n2,.int .i64 n3,.int .i64 n4,.int .i64 m1,.int .i64 m2,.int .i64 m3,.int .i64 m4]] []=some (.bool (aliveS m1),[]):=by
 refine Zae fn1 rfl ?_
 simp[c1,aliveS]
 by_cases h1:m1=3<;>by_cases h2:m1=4<;>simp[h1,h2]
@[simp] theorem law2(s:T)(n:Int)(h:T)(n1 n2 n3 n4 m1 m2 m3 m4:Int):F 2 [.agg [.str s,.int .i64 n,.str h,.int .i64 n1,.int .i64 n2,.int .i64 n3,.int .i64 n4,.int .i64 m1,.int .i64 m2,.int .i64 m3,.int .i64 m4]] []=some (.bool (aliveS m1),[]):=by
 refine Zae fn2 rfl ?_
 simp[c2,aliveS]
 by_cases h1:m1=3<;>by_cases h2:m1=4<;>simp[h1,h2]
def leasedB(hold:T)(til clock:Int):Bool:=sEq hold ⟨#[]⟩ || decide (IntKind.i64.wrap (clock+4)<=til)
def leased(r:Run)(clock:Int):Bool:=leasedB r.want.hold r.til clock
@[simp] theorem law95(s:T)(n:Int)(h:T)(n1 n2 n3 n4 m1 m2 m3 m4 c:Int):F 95 [.agg [.str s,.int .i64 n,.str h,.int .i64 n1,.int .i64 n2,.int .i64 n3,.int .i64 n4,.int .i64 m1,.int .i64 m2,.int .i64 m3,.int .i64 m4],.int .i64 c] []=some (.bool (leasedB h m4 c),[]):=by
 refine Zae fn95 rfl ?_
 simp[c95,leasedB]
 cases h1:sEq h ⟨#[]⟩<;>simp[h1]
def runOk(r:Run)(clock:Int):Bool :=
 wantOk r.want && (inR r.state 1 6 && (inR r.left 0 100 && (!(r.state == 2 && r.left != 0) && (inR r.falls 0 1000 && (inR r.til 0 1000016 && (!(sEq r.want.hold ⟨#[]⟩ && r.til != 0) && (!alive r || leased r clock)))))))
@[simp] theorem law84(s:T)(n:Int)(h:T)(n1 n2 n3 n4 m1 m2 m3 m4 c:Int):F 84 [.agg [.str s,.int .i64 n,.str h,.int .i64 n1,.int .i64 n2,.int .i64 n3,.int .i64 n4,.int .i64 m1,.int .i64 m2,.int .i64 m3,.int .i64 m4],.int .i64 c] [] =
  some (.bool (runOk ⟨⟨s,n,h,n1,n2,n3,n4⟩,m1,m2,m3,m4⟩ c),[]):=by
 refine Zae fn84 rfl ?_
 simp[c84,runOk,alive,leased]
 cases h1:wantOk ⟨s,n,h,n1,n2,n3,n4⟩<;>simp[h1]
 cases h2:inR m1 1 6<;>simp[h2]
 cases h3:inR m2 0 100<;>simp[h3]
 by_cases h4:m1=2<;>simp[h4]
 ·by_cases h5:m2=0<;>simp[h5]
  cases h6:inR m3 0 1000<;>simp[h6]
  cases h7:inR m4 0 1000016<;>simp[h7]
  cases h8:sEq h ⟨#[]⟩<;>simp[h8,aliveS]
  by_cases h9:m4=0<;>simp[h9]
 ·cases h6:inR m3 0 1000<;>simp[h6]
  cases h7:inR m4 0 1000016<;>simp[h7]
  cases h8:sEq h ⟨#[]⟩<;>simp[h8]
  ·cases h9:aliveS m1<;>simp[h9,h4]
  ·by_cases h9:m4=0<;>simp[h9]
   cases h10:aliveS m1<;>simp[h10,h4]
def ascR(pre:List Run)(r:Run):Bool :=
 match pre.getLast? with
 | none=>true
 | some p=>sLt p.want.copy r.want.copy
def runsGo(clock:Int)(pre:List Run):List Run->Bool
 | []=>true
 | r::rs=>runOk r clock && (ascR pre r && runsGo clock (pre++[r]) rs)
def runsOk(rs:List Run)(clock:Int):Bool:=decide (rs.length<=20) && runsGo clock [] rs
def head12(rs:List Run)(c:Int)(i:Nat):St:=hd [(0,.sl .bor 11 (rs.map Run.c)),(1,.int .i64 c),(5,.int .i64 i)] [] 0
theorem law12(rs:List Run)(c:Int)(hl:rs.length<big):F 12 [.sl .bor 11 (rs.map Run.c),.int .i64 c] []=some (.bool (runsOk rs c),[]):=by
 refine Zae fn12 rfl ?_
 have hm:rs.length<=9223372036854775807:=by unfold big at hl;omega
 simp[c12,runsOk]
 by_cases h20:rs.length<=20
 ·have h20':¬ (20<(rs.length:Int)):=by omega
  simp[h20,h20']
  refine (Zaa rs (fun i (_:Unit)=>head12 rs c i) (fun _ _=>True) (fun i r _=>(.bool (runsGo c (rs.take i) r),[])) (fun acc Y _=>?_) (fun i a r acc Y ha hi hr _ hY=>?_) () ?_ trivial ?_).trans rfl
  ·simp[head12,c12b0,runsGo]
  ·have hw:IntKind.i64.wrap ((i:Int)+1)=(i:Int)+1:=i64w (by omega) (by omega)
   obtain⟨_,hg⟩:=Xa.1 ha
   have hs:=Zas ha
   have hY':∀ s',s'.norm [0,1,5]=head12 rs c (i+1)->fin [CRes.tmp 4] 0 (Y s')=some (.bool (runsGo c (rs.take i++[a]) r),[]):=fun s' h=>by rw[<- hs];exact hY () s' trivial h
   by_cases hz:i=0
   ·have hp:¬ 0<i:=by omega
    have ht:rs.take i=[]:=by rw[hz];rfl
    simp[head12,c12b0,runsGo,hg,hi,ascR,hp,ht]
    cases hq:runOk a c<;>simp[hq]
    rw[hY' _ (by simp[head12,hw])]
    simp[ht]
   ·obtain⟨j,hp,hw1,hj,hlast⟩:=prev hi hm hz
    simp[head12,c12b0,runsGo,hg,hi,ascR,hp,hw1,hj,hlast]
    cases hq:runOk a c<;>cases hr3:sLt rs[j].want.copy a.want.copy<;>simp[hq,hr3]
    rw[hY' _ (by simp[head12,hw])]
  ·simp[head12]
  ·exact hl
 ·have h20':20<(rs.length:Int):=by omega
  simp[h20,h20']
def head11(rs:List Run)(c:Int)(i:Nat):St:=hd [(0,.sl .bor 11 (rs.map Run.c)),(1,.int .i64 c),(10,.sl .bor 11 (rs.map Run.c)),(11,.int .i64 rs.length),(12,.int .i64 i)] [] 0
theorem law11(rs:List Run)(c:Int)(hl:rs.length<big):F 11 [.sl .bor 11 (rs.map Run.c),.int .i64 c] []=some (.bool (runsOk rs c),[]):=by
 refine Zae fn11 rfl ?_
 have hm:rs.length<=9223372036854775807:=by unfold big at hl;omega
 simp[c11,runsOk]
 by_cases h20:rs.length<=20
 ·have h20':¬ (20<(rs.length:Int)):=by omega
  simp[h20,h20']
  refine (Zaa rs (fun i (_:Unit)=>head11 rs c i) (fun _ _=>True) (fun i r _=>(.bool (runsGo c (rs.take i) r),[])) (fun acc Y _=>?_) (fun i a r acc Y ha hi hr _ hY=>?_) () ?_ trivial ?_).trans rfl
  ·simp[head11,c11b0,runsGo]
  ·have hw:IntKind.i64.wrap ((i:Int)+1)=(i:Int)+1:=i64w (by omega) (by omega)
   obtain⟨_,hg⟩:=Xa.1 ha
   have hs:=Zas ha
   have hY':∀ s',s'.norm [0,1,10,11,12]=head11 rs c (i+1)->fin [CRes.tmp 4] 0 (Y s')=some (.bool (runsGo c (rs.take i++[a]) r),[]):=fun s' h=>by rw[<- hs];exact hY () s' trivial h
   by_cases hz:i=0
   ·have hp:¬ 0<i:=by omega
    have ht:rs.take i=[]:=by rw[hz];rfl
    simp[head11,c11b0,runsGo,hg,hi,ascR,hp,ht,runOk,alive,leased,leasedB]
    cases q1:wantOk a.want<;>simp[q1]
    cases q2:inR a.state 1 6<;>simp[q2]
    cases q3:inR a.left 0 100<;>simp[q3]
    cases q5:inR a.falls 0 1000
    ·by_cases h4:a.state=2<;>by_cases h5:a.left=0<;>simp[h4,h5]
    cases q6:inR a.til 0 1000016
    ·by_cases h4:a.state=2<;>by_cases h5:a.left=0<;>simp[h4,h5]
    cases q7:sEq a.want.hold ⟨#[]⟩<;>simp
    ·by_cases h8:IntKind.i64.wrap (c+4)<=a.til
     ·have h9:¬ (a.til<IntKind.i64.wrap (c+4)):=by omega
      simp[h8,h9]
      by_cases h4:a.state=2<;>by_cases h5:a.left=0<;>simp[h4,h5]
      all_goals
       rw[hY' _ (by simp[head11,hw])]
       simp[ht,h4,h5]
     ·have h9:a.til<IntKind.i64.wrap (c+4):=by omega
      simp[h8,h9]
      by_cases h4:a.state=2<;>by_cases h5:a.left=0<;>simp[h4,h5]
      ·rw[hY' _ (by simp[head11,hw])]
       simp[ht,h4,h5]
      all_goals
       cases q10:aliveS a.state<;>simp[q10]
       rw[hY' _ (by simp[head11,hw])]
       simp[ht,h4,h5,q10]
    ·by_cases h8:a.til=0<;>simp[h8]
     ·by_cases h4:a.state=2<;>by_cases h5:a.left=0<;>simp[h4,h5]
      all_goals
       rw[hY' _ (by simp[head11,hw])]
       simp[ht,h4,h5]
   ·obtain⟨j,hp,hw1,hj,hlast⟩:=prev hi hm hz
    simp[head11,c11b0,runsGo,hg,hi,ascR,hp,hw1,hj,hlast,runOk,alive,leased,leasedB]
    cases q1:wantOk a.want<;>simp[q1]
    cases hr3:sLt rs[j].want.copy a.want.copy<;>simp[hr3]
    cases q2:inR a.state 1 6<;>simp[q2]
    cases q3:inR a.left 0 100<;>simp[q3]
    cases q5:inR a.falls 0 1000
    ·by_cases h4:a.state=2<;>by_cases h5:a.left=0<;>simp[h4,h5]
    cases q6:inR a.til 0 1000016
    ·by_cases h4:a.state=2<;>by_cases h5:a.left=0<;>simp[h4,h5]
    cases q7:sEq a.want.hold ⟨#[]⟩<;>simp
    ·by_cases h8:IntKind.i64.wrap (c+4)<=a.til
     ·have h9:¬ (a.til<IntKind.i64.wrap (c+4)):=by omega
      simp[h8,h9]
      by_cases h4:a.state=2<;>by_cases h5:a.left=0<;>simp[h4,h5]
      all_goals
       rw[hY' _ (by simp[head11,hw])]
       try simp[h4,h5]
     ·have h9:a.til<IntKind.i64.wrap (c+4):=by omega
      simp[h8,h9]
      by_cases h4:a.state=2<;>by_cases h5:a.left=0<;>simp[h4,h5]
      ·rw[hY' _ (by simp[head11,hw])]
       try simp[h4,h5]
      all_goals
       cases q10:aliveS a.state<;>simp[q10]
       rw[hY' _ (by simp[head11,hw])]
       try simp[h4,h5,q10]
    ·by_cases h8:a.til=0<;>simp[h8]
     ·by_cases h4:a.state=2<;>by_cases h5:a.left=0<;>simp[h4,h5]
      all_goals
       rw[hY' _ (by simp[head11,hw])]
       try simp[h4,h5]
  ·simp[head11]
  ·exact hl
 ·have h20':20<(rs.length:Int):=by omega
  simp[h20,h20']
def askAtGo(h:T):List Ask->Nat->Int
 | [],_=>-1
 | a::r,i=>if sEq a.hold h then i else askAtGo h r (i+1)
def askAt(l:List Ask)(h:T):Int:=askAtGo h l 0
def head113(l:List Ask)(h:T)(i:Nat):St:=hd [(1,.str h),(7,.sl .bor 4 (l.map Ask.c)),(8,.int .i64 l.length),(9,.int .i64 i)] [] 0
theorem law113(l:List Ask)(h:T)(hl:l.length<=1048576):F 113 [.sl .bor 4 (l.map Ask.c),.str h] []=some (.int .i64 (askAt l h),[]):=by
 refine Zae fn113 rfl ?_
 simp[c113,askAt]
 refine (Zaa l (fun i (_:Unit)=>head113 l h i) (fun _ _=>True) (fun i r _=>(.int .i64 (askAtGo h r i),[])) (fun acc Y _=>?_) (fun i a r acc Y ha hi hr _ hY=>?_) () ?_ trivial ?_).trans rfl
 ·simp[head113,c113b0,askAtGo]
 ·have hw:IntKind.i64.wrap ((i:Int)+1)=(i:Int)+1:=i64w (by omega) (by omega)
  obtain⟨_,hg⟩:=Xa.1 ha
  simp[head113,c113b0,askAtGo,hi,hg]
  cases q:sEq a.hold h<;>simp
  rw[hY () _ trivial (by simp[head113,hw])]
 ·simp[head113]
 ·unfold big;omega
def head110(l:List Ask)(h:T)(i:Nat):St:=hd [(0,.sl .bor 4 (l.map Ask.c)),(1,.str h),(5,.int .i64 i)] [] 0
theorem law110(l:List Ask)(h:T)(hl:l.length<=1048576):F 110 [.sl .bor 4 (l.map Ask.c),.str h] []=some (.int .i64 (askAt l h),[]):=by
 refine Zae fn110 rfl ?_
 simp[c110,askAt]
 refine (Zaa l (fun i (_:Unit)=>head110 l h i) (fun _ _=>True) (fun i r _=>(.int .i64 (askAtGo h r i),[])) (fun acc Y _=>?_) (fun i a r acc Y ha hi hr _ hY=>?_) () ?_ trivial ?_).trans rfl
 ·simp[head110,c110b0,askAtGo]
 ·have hw:IntKind.i64.wrap ((i:Int)+1)=(i:Int)+1:=i64w (by omega) (by omega)
  obtain⟨_,hg⟩:=Xa.1 ha
  simp[head110,c110b0,askAtGo,hi,hg]
  cases q:sEq a.hold h<;>simp
  rw[hY () _ trivial (by simp[head110,hw])]
 ·simp[head110]
 ·unfold big;omega
def askOk(c:Int)(a:Ask):Bool:=isHold a.hold && (isName a.copy && (decide (0<=a.first) && (decide (a.first<=a.at_) && decide (a.at_<=c))))
def ascA(pre:List Ask)(a:Ask):Bool :=
 match pre.getLast? with
 | none=>true
 | some p=>sLt p.hold a.hold
def asksGo(c:Int)(pre:List Ask):List Ask->Bool
 | []=>true
 | a::r=>askOk c a && (ascA pre a && asksGo c (pre++[a]) r)
def asksOk(l:List Ask)(c:Int):Bool:=decide (l.length<=40) && asksGo c [] l
def head114(l:List Ask)(c:Int)(i:Nat):St:=hd [(0,.sl .bor 4 (l.map Ask.c)),(1,.int .i64 c),(7,.sl .bor 4 (l.map Ask.c)),(8,.int .i64 l.length),(9,.int .i64 i)] [] 0
theorem law114(l:List Ask)(c:Int)(hl:l.length<=1048576):F 114 [.sl .bor 4 (l.map Ask.c),.int .i64 c] []=some (.bool (asksOk l c),[]):=by
 refine Zae fn114 rfl ?_
 have hm:l.length<=9223372036854775807:=by omega
 simp[c114,asksOk]
 refine (Zaa l (fun i (_:Unit)=>head114 l c i) (fun _ _=>True) (fun i r _=>(.bool (decide (l.length<=40) && asksGo c (l.take i) r),[])) (fun acc Y _=>?_) (fun i a r acc Y ha hi hr _ hY=>?_) () ?_ trivial ?_).trans rfl
 ·simp[head114,c114b0,asksGo]
  omega
 ·have hw:IntKind.i64.wrap ((i:Int)+1)=(i:Int)+1:=i64w (by omega) (by omega)
  obtain⟨_,hg⟩:=Xa.1 ha
  have hs:=Zas ha
  have hY':∀ s',s'.norm [0,1,7,8,9]=head114 l c (i+1)->fin [CRes.tmp 4] 0 (Y s')=some (.bool (decide (l.length<=40) && asksGo c (l.take i++[a]) r),[]):=fun s' h=>by rw[<- hs];exact hY () s' trivial h
  by_cases hz:i=0
  ·have hp:¬ 0<i:=by omega
   have ht:l.take i=[]:=by rw[hz];rfl
   simp[head114,c114b0,asksGo,hg,hi,ascA,hp,ht,askOk]
   cases q1:isHold a.hold<;>simp
   cases q2:isName a.copy<;>simp
   rcases Xcu a.first 0 with h|h
   ·have h':¬ (0<=a.first):=by omega
    simp[h,h']
   have h':¬ (a.first<0):=by omega
   simp[h,h']
   rcases Xcu a.at_ a.first with h2|h2
   ·have h2':¬ (a.first<=a.at_):=by omega
    simp[h2,h2']
   have h2':¬ (a.at_<a.first):=by omega
   simp[h2,h2']
   rcases Xcu c a.at_ with h3|h3
   ·have h3':¬ (a.at_<=c):=by omega
    simp[h3,h3']
   have h3':¬ (c<a.at_):=by omega
   simp[h3,h3']
   rw[hY' _ (by simp[head114,hw])]
   simp[ht]
  ·obtain⟨j,hp,hw1,hj,hlast⟩:=prev hi hm hz
   simp[head114,c114b0,asksGo,hg,hi,ascA,hp,hw1,hj,hlast,askOk]
   cases q1:isHold a.hold<;>simp
   cases q2:isName a.copy<;>simp
   cases q3:sLt l[j].hold a.hold<;>simp
   rcases Xcu a.first 0 with h|h
   ·have h':¬ (0<=a.first):=by omega
    simp[h,h']
   have h':¬ (a.first<0):=by omega
   simp[h,h']
   rcases Xcu a.at_ a.first with h2|h2
   ·have h2':¬ (a.first<=a.at_):=by omega
    simp[h2,h2']
   have h2':¬ (a.at_<a.first):=by omega
   simp[h2,h2']
   rcases Xcu c a.at_ with h3|h3
   ·have h3':¬ (a.at_<=c):=by omega
    simp[h3,h3']
   have h3':¬ (c<a.at_):=by omega
   simp[h3,h3']
   rw[hY' _ (by simp[head114,hw])]
 ·simp[head114]
 ·unfold big;omega
def head111(l:List Ask)(c:Int)(i:Nat):St:=hd [(0,.sl .bor 4 (l.map Ask.c)),(1,.int .i64 c),(5,.int .i64 i)] [] 0
theorem law111(l:List Ask)(c:Int)(hl:l.length<=1048576):F 111 [.sl .bor 4 (l.map Ask.c),.int .i64 c] []=some (.bool (asksOk l c),[]):=by
 refine Zae fn111 rfl ?_
 have hm:l.length<=9223372036854775807:=by omega
 simp[c111,asksOk]
 by_cases h40:l.length<=40
 ·have h40':¬ (40<(l.length:Int)):=by omega
  simp[h40,h40']
  refine (Zaa l (fun i (_:Unit)=>head111 l c i) (fun _ _=>True) (fun i r _=>(.bool (asksGo c (l.take i) r),[])) (fun acc Y _=>?_) (fun i a r acc Y ha hi hr _ hY=>?_) () ?_ trivial ?_).trans rfl
  ·simp[head111,c111b0,asksGo]
  ·have hw:IntKind.i64.wrap ((i:Int)+1)=(i:Int)+1:=i64w (by omega) (by omega)
   obtain⟨_,hg⟩:=Xa.1 ha
   have hs:=Zas ha
   have hY':∀ s',s'.norm [0,1,5]=head111 l c (i+1)->fin [CRes.tmp 4] 0 (Y s')=some (.bool (asksGo c (l.take i++[a]) r),[]):=fun s' h=>by rw[<- hs];exact hY () s' trivial h
   have q4:∀ b:Bool,(askOk c a && b)=(isHold a.hold && (isName a.copy && (inR a.at_ 0 c && (inR a.first 0 a.at_ && b)))):=fun b=>by
    unfold askOk inR
    cases isHold a.hold<;>cases isName a.copy<;>simp
    by_cases h1:0<=a.first<;>by_cases h2:a.first<=a.at_<;>by_cases h3:a.at_<=c<;>simp[h1,h2,h3]
    omega
   by_cases hz:i=0
   ·have hp:¬ 0<i:=by omega
    have ht:l.take i=[]:=by rw[hz];rfl
    simp[head111,c111b0,asksGo,hg,hi,ascA,hp,ht,q4]
    cases q1:isHold a.hold<;>simp
    cases q2:isName a.copy<;>simp
    cases q5:inR a.at_ 0 c<;>simp
    cases q6:inR a.first 0 a.at_<;>simp
    rw[hY' _ (by simp[head111,hw])]
    simp[ht]
   ·obtain⟨j,hp,hw1,hj,hlast⟩:=prev hi hm hz
    simp[head111,c111b0,asksGo,hg,hi,ascA,hp,hw1,hj,hlast,q4]
    cases q1:isHold a.hold<;>simp
    cases q2:isName a.copy<;>simp
    cases q5:inR a.at_ 0 c<;>simp
    cases q6:inR a.first 0 a.at_<;>simp
    cases q3:sLt l[j].hold a.hold<;>simp
    rw[hY' _ (by simp[head111,hw])]
  ·simp[head111]
  ·unfold big;omega
 ·have h40':40<(l.length:Int):=by omega
  simp[h40,h40']
structure Mate.small(m:Mate):Prop where
 wants:m.wants.length<=1048576
 runs:m.runs.length<=1048576
 asks:m.asks.length<=1048576
 gives:m.gives.length<=1048576
def mateParts(m:Mate):Bool :=
 isName m.name && (inR m.clock 0 1000000 && (inR m.seen 0 1000000 && (wantsOk m.wants && ((m.known || m.wants.isEmpty) && (runsOk m.runs m.clock && (asksOk m.asks m.clock && asksOk m.gives m.clock))))))
def apartGo(gives:List Ask)(l:List Ask):Bool:=l.all fun a=>decide (askAt gives a.hold<0)
def downRuns(l:List Run):Bool:=l.all fun r=>alive r || !sEq r.want.hold ⟨#[]⟩
def mateDown(m:Mate):Bool:=!m.known && ((m.asks.isEmpty && m.gives.isEmpty) && (m.seen == 0 && downRuns m.runs))
def mateValid(m:Mate):Bool:=mateParts m && (apartGo m.gives m.asks && (m.up || mateDown m))
def head28a(m:Mate)(i:Nat):St:=hd [(1,.ptr 0 0 0),(65,.sl .bor 4 (m.asks.map Ask.c)),(66,.int .i64 m.asks.length),(67,.int .i64 i)] [.box (m.c .bor)] 0
def head28b(m:Mate)(i:Nat):St:=hd [(99,.sl .bor 11 (m.runs.map Run.c)),(100,.int .i64 m.runs.length),(101,.int .i64 i)] [] 0
theorem law28(m:Mate)(hm:m.small):F 28 [.agg (m.c .bor)] []=some (.bool (mateValid m),[]):=by
 refine Zae fn28 rfl ?_
 have hr:=hm.runs
 have ha:=hm.asks
 have l6:=law6 m.wants (by unfold big;have:=hm.wants;omega)
 have l11:=law11 m.runs m.clock (by unfold big;omega)
 have l114a:=law114 m.asks m.clock hm.asks
 have l114g:=law114 m.gives m.clock hm.gives
 simp[c28,mateValid,mateParts,l6,l11,l114a,l114g]
 cases q1:isName m.name<;>simp
 cases q2:inR m.clock 0 1000000<;>simp
 cases q3:inR m.seen 0 1000000<;>simp
 cases q4:wantsOk m.wants<;>simp
 have q5:(m.known=false/\m.wants≠[])\/(m.known=false/\m.wants=[])\/(m.known=true/\(m.wants=[]\/m.wants≠[])):=by
  cases m.known<;>by_cases q6:m.wants=[]<;>simp[q6]
 rcases q5 with ⟨q5,q6⟩|⟨q5,q6⟩|⟨q5,q6⟩
 ·simp[q5,q6]
 all_goals
  simp[q5,q6]
  cases q7:runsOk m.runs m.clock<;>simp
  cases q8:asksOk m.asks m.clock<;>simp
  cases q9:asksOk m.gives m.clock<;>simp
  refine (Zaa m.asks (fun i (_:Unit)=>head28a m i) (fun _ _=>True) (fun _ r _=>(.bool (apartGo m.gives r && (m.up || mateDown m)),[])) (fun acc Y _=>?_) (fun i a r acc Y ha hi hr _ hY=>?_) () ?_ trivial ?_).trans ?_
  ·simp[head28a,c28b0,apartGo,q5]
   cases q10:m.up<;>simp[mateDown,q5]
   try
    have hsum:IntKind.i64.wrap ((m.asks.length:Int)+m.gives.length)=(m.asks.length:Int)+m.gives.length:=i64w (by omega) (by have:=hm.gives;omega)
    rw[hsum]
    by_cases e1:m.asks=[]/\m.gives=[]
    ·obtain⟨e1,e2⟩:=e1
     simp[e1,e2]
     by_cases e3:m.seen=0<;>simp[e3]
     refine (Zaa m.runs (fun i (_:Unit)=>head28b m i) (fun _ _=>True) (fun _ r _=>(.bool (downRuns r),[])) (fun acc Y _=>?_) (fun i a r acc Y ha hi hr _ hY=>?_) () ?_ trivial ?_).trans ?_
     ·simp[head28b,c28b1,downRuns]
     ·have hw:IntKind.i64.wrap ((i:Int)+1)=(i:Int)+1:=i64w (by omega) (by omega)
      obtain⟨_,hg⟩:=Xa.1 ha
      simp[head28b,c28b1,downRuns,hi,hg,alive]
      cases q11:aliveS a.state<;>cases q12:sEq a.want.hold ⟨#[]⟩<;>simp
      all_goals
       rw[hY () _ trivial (by simp[head28b,hw])]
       simp[downRuns,alive]
     ·simp[head28b]
     ·unfold big;omega
     ·simp
    ·have e2:¬ ((m.asks.length:Int)+m.gives.length<=0):=by
      intro h
      apply e1
      constructor
      ·exact List.length_eq_zero_iff.1 (by omega)
      ·exact List.length_eq_zero_iff.1 (by omega)
     simp[e2]
     intro h1 h2
     exact absurd ⟨h1,h2⟩ e1
  ·have hw:IntKind.i64.wrap ((i:Int)+1)=(i:Int)+1:=i64w (by omega) (by omega)
   obtain⟨_,hg⟩:=Xa.1 ha
   have l113:=law113 m.gives a.hold hm.gives
   simp[head28a,c28b0,apartGo,hi,hg,l113]
   rcases Xcu (askAt m.gives a.hold) 0 with h|h
   ·have h':¬ (0<=askAt m.gives a.hold):=by omega
    simp[h,h']
    rw[hY () _ trivial (by simp[head28a,hw])]
    simp[apartGo]
   ·have h':¬ (askAt m.gives a.hold<0):=by omega
    simp[h,h']
  ·simp[head28a,q5,q6]
  ·unfold big;omega
  ·simp[apartGo,q5]
def head29a(m:Mate)(i:Nat):St:=hd [(1,.ptr 0 0 0),(3,.int .i64 i)] [.box (m.c .bor)] 0
def head29b(m:Mate)(i:Nat):St:=hd [(1,.ptr 0 0 0),(4,.int .i64 i)] [.box (m.c .bor)] 0
theorem law29(m:Mate)(hm:m.small):F 29 [.agg (m.c .bor)] []=some (.bool (mateValid m),[]):=by
 refine Zae fn29 rfl ?_
 have hr:=hm.runs
 have ha:=hm.asks
 have l6:=law7 m.wants (by unfold big;have:=hm.wants;omega)
 have l11:=law12 m.runs m.clock (by unfold big;omega)
 have l114a:=law111 m.asks m.clock hm.asks
 have l114g:=law111 m.gives m.clock hm.gives
 simp[c29,mateValid,mateParts,l6,l11,l114a,l114g]
 cases q1:isName m.name<;>simp
 cases q2:inR m.clock 0 1000000<;>simp
 cases q3:inR m.seen 0 1000000<;>simp
 cases q4:wantsOk m.wants<;>simp
 have q5':(m.known=false/\m.wants≠[])\/(m.known=false/\m.wants=[])\/(m.known=true/\m.wants=[])\/(m.known=true/\m.wants≠[]):=by
  cases m.known<;>by_cases q6:m.wants=[]<;>simp[q6]
 rcases q5' with ⟨q5,q6⟩|⟨q5,q6⟩|⟨q5,q6⟩|⟨q5,q6⟩
 ·simp[q5,q6,Xcn]
 all_goals
  simp[q5,q6,Xcn]
  cases q7:runsOk m.runs m.clock<;>simp
  cases q8:asksOk m.asks m.clock<;>simp
  cases q9:asksOk m.gives m.clock<;>simp
  refine (Zaa m.asks (fun i (_:Unit)=>head29a m i) (fun _ _=>True) (fun _ r _=>(.bool (apartGo m.gives r && (m.up || mateDown m)),[])) (fun acc Y _=>?_) (fun i a r acc Y ha hi hr _ hY=>?_) () ?_ trivial ?_).trans ?_
  ·simp[head29a,c29b0,apartGo]
   cases q10:m.up<;>simp
   refine (Zaa m.runs (fun i (_:Unit)=>head29b m i) (fun _ _=>True) (fun _ r _=>(.bool (!m.known && ((m.asks.isEmpty && m.gives.isEmpty) && (m.seen == 0 && downRuns r))),[])) (fun acc Y _=>?_) (fun i a r acc Y ha hi hr _ hY=>?_) () ?_ trivial ?_).trans ?_
   ·have hsum:IntKind.i64.wrap ((m.asks.length:Int)+m.gives.length)=(m.asks.length:Int)+m.gives.length:=i64w (by omega) (by have:=hm.gives;omega)
    have hemp:(((m.asks.length:Int)+m.gives.length) == 0)=(m.asks.isEmpty && m.gives.isEmpty):=by
     cases h1:m.asks<;>cases h2:m.gives<;>simp
     all_goals omega
    simp[head29b,c29b1,downRuns,q5,hsum,hemp]
    try
     by_cases e3:m.seen=0<;>simp[e3]
   ·have hw:IntKind.i64.wrap ((i:Int)+1)=(i:Int)+1:=i64w (by omega) (by omega)
    obtain⟨_,hg⟩:=Xa.1 ha
    simp[head29b,c29b1,downRuns,hi,hg,alive]
    cases q11:aliveS a.state<;>cases q12:sEq a.want.hold ⟨#[]⟩<;>simp
    all_goals
     rw[hY () _ trivial (by simp[head29b,hw])]
     simp[downRuns,alive]
   ·simp[head29b,q5,q6,q10]
   ·unfold big;omega
   ·simp[mateDown]
  ·have hw:IntKind.i64.wrap ((i:Int)+1)=(i:Int)+1:=i64w (by omega) (by omega)
   obtain⟨_,hg⟩:=Xa.1 ha
   have l113:=law110 m.gives a.hold hm.gives
   simp[head29a,c29b0,apartGo,hi,hg,l113]
   rcases Xcu (askAt m.gives a.hold) 0 with h|h
   ·have h':¬ (0<=askAt m.gives a.hold):=by omega
    simp[h,h']
    rw[hY () _ trivial (by simp[head29a,hw])]
    simp[apartGo]
   ·have h':¬ (askAt m.gives a.hold<0):=by omega
    simp[h,h']
  ·simp[head29a,q5,q6]
  ·unfold big;omega
  ·simp[apartGo,q5]
def grantOk(t:Int)(g:Grant):Bool:=isHold g.hold && (isName g.berth && (isName g.copy && (inR g.at_ 0 1000000 && inR g.til 0 (IntKind.i64.wrap (t+32)))))
def ascG(pre:List Grant)(g:Grant):Bool :=
 match pre.getLast? with
 | none=>true
 | some p=>sLt p.hold g.hold
def grantsGo(t:Int)(pre:List Grant):List Grant->Bool
 | []=>true
 | g::r=>grantOk t g && (ascG pre g && grantsGo t (pre++[g]) r)
def ascP(pre:List Place)(p:Place):Bool :=
 match pre.getLast? with
 | none=>true
 | some q=>sLt q.berth p.berth
def heldIn(pre:List Place)(k:T):Bool:=heldB (pre.flatMap Place.wants) k
def freshP(pre:List Place)(p:Place):Bool:=p.wants.all fun w=>sEq w.hold ⟨#[]⟩ || !heldIn pre w.hold
def placeOk(p:Place):Bool:=isName p.berth && (inR p.seen 1 1000000 && wantsOk p.wants)
def placesGo(pre:List Place):List Place->Bool
 | []=>true
 | p::r=>placeOk p && (ascP pre p && (freshP pre p && placesGo (pre++[p]) r))
def landOk(l:Land):Bool :=
 inR l.time 0 2000000 && (decide (l.time.tmod 2=0) && (decide (l.grants.length<=40) && (decide (l.places.length<=4) && (grantsGo l.time [] l.grants && placesGo [] l.places))))
structure Place.small(p:Place):Prop where
 wants:p.wants.length<=1048576
structure Land.small(l:Land):Prop where
 grants:l.grants.length<=1048576
 places:l.places.length<=1048576
 each:∀ p∈l.places,p.small
theorem Zey:∀ (r pre:List Want),wantsGo pre r=true->∀ j w,r[j]?=some w->freshW (pre++r.take j) w=true
 | [],_,_,j,w,h=>by simp at h
 | a::r,pre,hg,j,w,h=>by
  simp only[wantsGo,Xc]at hg
  cases j with
  | zero=>simp at h;subst h;simpa using hg.2.2.1
  | succ j =>
   have:=Zey r (pre++[a]) hg.2.2.2 j w (by simpa using h)
   simpa using this
theorem Zj3{ws:List Want}(h:wantsOk ws=true){j:Nat}{w:Want}(hw:ws[j]?=some w)(hne:sEq w.hold ⟨#[]⟩=false):heldB (ws.take j) w.hold=false:=by
 unfold wantsOk at h
 rw[Xc]at h
 have:=Zey ws [] h.2 j w hw
 simp only[Xa8,freshW,hne,Xbk,Xv]at this
 exact this
theorem Zkl(a b:List Want)(k:T):heldB (a++b) k=(heldB a k || heldB b k):=by simp[heldB]
def head23g(l:Land)(m:Md)(i:Nat):St:=hd [(1,.ptr 0 0 0),(33,.sl .bor 5 (l.grants.map Grant.c)),(34,.int .i64 l.grants.length),(35,.int .i64 i)] [.box (l.c .bor m)] 0
def head23p(l:Land)(m:Md)(i:Nat):St:=hd [(1,.ptr 0 0 0),(5,.mapr 1),(90,.sl .bor 3 (l.places.map (Place.c m))),(91,.int .i64 l.places.length),(92,.int .i64 i)]
 [.box (l.c .bor m),.map false (heldMap ((l.places.take i).flatMap Place.wants))] 0
def head23w(l:Land)(m:Md)(i:Nat)(ws:List Want)(j:Nat):St:=hd [(1,.ptr 0 0 0),(5,.mapr 1),(90,.sl .bor 3 (l.places.map (Place.c m))),(91,.int .i64 l.places.length),(92,.int .i64 i),(130,.sl .bor 7 (ws.map Want.c)),(131,.int .i64 ws.length),(132,.int .i64 j)]
 [.box (l.c .bor m),.map false (heldMap ((l.places.take i).flatMap Place.wants++ws.take j))] 0
theorem law23(l:Land)(m:Md)(hl:l.small):F 23 [.agg (l.c .bor m)] []=some (.bool (landOk l),[]):=by
 refine Zae fn23 rfl ?_
 obtain⟨s1,s2,s3⟩:=hl
 simp[c23,landOk]
 cases q1:inR l.time 0 2000000<;>simp
 by_cases q2:l.time.tmod 2=0
 case neg=>simp[q2]
 simp[q2]
 by_cases q3:l.grants.length<=40
 case neg =>
  have q3':¬ ((l.grants.length:Int)<=40):=by omega
  have q32:40<(l.grants.length:Int):=by omega
  simp[q3,q3',q32]
 have q3':(l.grants.length:Int)<=40:=by omega
 have q32:¬ (40<(l.grants.length:Int)):=by omega
 simp[q3,q3',q32]
 by_cases q4:l.places.length<=4
 case neg =>
  have q4':¬ ((l.places.length:Int)<=4):=by omega
  have q42:4<(l.places.length:Int):=by omega
  simp[q4,q4',q42]
 have q4':(l.places.length:Int)<=4:=by omega
 have q42:¬ (4<(l.places.length:Int)):=by omega
 simp[q4,q4',q42]
 refine (Zaa l.grants (fun i (_:Unit)=>head23g l m i) (fun _ _=>True) (fun i r _=>(.bool (grantsGo l.time (l.grants.take i) r && placesGo [] l.places),[])) (fun acc Y _=>?_) (fun i a r acc Y ha hi hr _ hY=>?_) () ?_ trivial ?_).trans ?_
 ·simp[head23g,c23b0,grantsGo]
  refine (Zaa l.places (fun i (_:Unit)=>head23p l m i) (fun _ _=>True) (fun i r _=>(.bool (placesGo (l.places.take i) r),[])) (fun acc Y _=>?_) (fun i a r acc Y ha hi hr _ hY=>?_) () ?_ trivial ?_).trans ?_
  ·simp[head23p,c23b2,placesGo]
  ·have hw:IntKind.i64.wrap ((i:Int)+1)=(i:Int)+1:=i64w (by omega) (by omega)
   obtain⟨_,hg⟩:=Xa.1 ha
   have hs:=Zas ha
   have hws:=(s3 a (Xe ha)).wants
   have w6:=law6 a.wants (by unfold big;omega)
   have hY':∀ s',s'.norm [1,5,90,91,92]=head23p l m (i+1)->fin [CRes.tmp 2] 0 (Y s')=some (.bool (placesGo (l.places.take i++[a]) r),[]):=fun s' h=>by rw[<- hs];exact hY () s' trivial h
   have hh:heldMap ((l.places.take (i+1)).flatMap Place.wants)=heldMap ((l.places.take i).flatMap Place.wants++a.wants):=by rw[hs];simp
   have inner:wantsOk a.wants=true->∀ (fs:List Fr) (st:St),st.norm [1,5,90,91,92,130,131,132]=head23w l m i a.wants 0 ->
     fin [CRes.tmp 2] 0 (X F (.code (.loop [1,5,90,91,92,130,131,132] c23b1)::.blk 4::.blk 3::.code (.region [xu 149 92 1,xd 92 149] [1,5,90,91,92])::.back Y::fs) (.normal,st))=some (.bool (freshP (l.places.take i) a && placesGo (l.places.take i++[a]) r),[]):=by
    intro hok fs st hst
    refine (Zaa a.wants (fun j (_:Unit)=>head23w l m i a.wants j) (fun _ _=>True) (fun _ t _=>(.bool ((t.all fun w=>sEq w.hold ⟨#[]⟩ || !heldIn (l.places.take i) w.hold) && placesGo (l.places.take i++[a]) r),[])) (fun acc Z _=>?_) (fun j b t acc Z hb hj ht _ hZ=>?_) () hst trivial ?_).trans rfl
    ·simp[head23w,c23b1]
     exact hY' _ (by simp[head23p,hw,hh])
    ·have hwj:IntKind.i64.wrap ((j:Int)+1)=(j:Int)+1:=i64w (by omega) (by omega)
     obtain⟨_,hgb⟩:=Xa.1 hb
     have hh2:heldMap ((l.places.take i).flatMap Place.wants++a.wants.take (j+1))=mapPut b.hold (.bool true) (heldMap ((l.places.take i).flatMap Place.wants++a.wants.take j)):=by
      rw[Zas hb,<- Xa7,Zf1]
     have hZ':∀ s',s'.norm [1,5,90,91,92,130,131,132]=head23w l m i a.wants (j+1)->fin [CRes.tmp 2] 0 (Z s')=some (.bool ((t.all fun w=>sEq w.hold ⟨#[]⟩ || !heldIn (l.places.take i) w.hold) && placesGo (l.places.take i++[a]) r),[]):=fun s' h=>hZ () s' trivial h
     simp only[List.all_cons]
     simp[head23w,c23b1,hj,hgb]
     cases q5:sEq b.hold ⟨#[]⟩<;>simp
     ·have hf:=Zj3 hok hb q5
      have e1:heldB ((l.places.take i).flatMap Place.wants++a.wants.take j) b.hold=heldIn (l.places.take i) b.hold:=by rw[Zkl,hf,Bool.or_false];rfl
      rw[e1]
      cases q6:heldIn (l.places.take i) b.hold<;>simp
      exact (hZ' _ (by simp[head23w,hwj,hh2])).trans (by simp)
     ·exact (hZ' _ (by simp[head23w,hwj,hh2])).trans (by simp)
    ·unfold big;omega
   by_cases hz:i=0
   ·have hp:¬ 0<i:=by omega
    have ht:l.places.take i=[]:=by rw[hz];rfl
    simp[head23p,c23b2,placesGo,hg,hi,ascP,hp,ht,placeOk,w6]
    cases q7:isName a.berth<;>simp
    cases q8:inR a.seen 1 1000000<;>simp
    cases q9:wantsOk a.wants<;>simp
    exact (inner q9 _ _ (by simp[head23w,ht])).trans (by simp[ht])
   ·obtain⟨j,hp,hw1,hj,hlast⟩:=prev hi (by omega) hz
    simp[head23p,c23b2,placesGo,hg,hi,ascP,hp,hw1,hj,hlast,placeOk,w6]
    cases q7:isName a.berth<;>simp
    cases q10:sLt l.places[j].berth a.berth<;>simp
    cases q8:inR a.seen 1 1000000<;>simp
    cases q9:wantsOk a.wants<;>simp
    exact (inner q9 _ _ (by simp[head23w])).trans (by simp)
  ·simp[head23p,heldMap]
  ·unfold big;omega
  ·simp
 ·have hw:IntKind.i64.wrap ((i:Int)+1)=(i:Int)+1:=i64w (by omega) (by omega)
  obtain⟨_,hg⟩:=Xa.1 ha
  have hs:=Zas ha
  have hY':∀ s',s'.norm [1,33,34,35]=head23g l m (i+1)->fin [CRes.tmp 2] 0 (Y s')=some (.bool (grantsGo l.time (l.grants.take i++[a]) r && placesGo [] l.places),[]):=fun s' h=>by rw[<- hs];exact hY () s' trivial h
  by_cases hz:i=0
  ·have hp:¬ 0<i:=by omega
   have ht:l.grants.take i=[]:=by rw[hz];rfl
   simp[head23g,c23b0,grantsGo,hg,hi,ascG,hp,ht,grantOk]
   cases r1:isHold a.hold<;>simp
   cases r2:isName a.berth<;>simp
   cases r3:isName a.copy<;>simp
   cases r4:inR a.at_ 0 1000000<;>simp
   cases r5:inR a.til 0 (IntKind.i64.wrap (l.time+32))<;>simp
   exact (hY' _ (by simp[head23g,hw])).trans (by simp[ht])
  ·obtain⟨j,hp,hw1,hj,hlast⟩:=prev hi (by omega) hz
   simp[head23g,c23b0,grantsGo,hg,hi,ascG,hp,hw1,hj,hlast,grantOk]
   cases r1:isHold a.hold<;>simp
   cases r2:isName a.berth<;>simp
   cases r3:isName a.copy<;>simp
   cases r6:sLt l.grants[j].hold a.hold<;>simp
   cases r4:inR a.at_ 0 1000000<;>simp
   cases r5:inR a.til 0 (IntKind.i64.wrap (l.time+32))<;>simp
   exact (hY' _ (by simp[head23g,hw])).trans (by simp)
 ·simp[head23g]
 ·unfold big;omega
 ·simp
def cw(w x:Want):Bool:=!sEq w.hold ⟨#[]⟩ && sEq w.hold x.hold
theorem Zis(pre:List Place)(p:Place):(!(pre.any fun q=>p.wants.any fun w=>q.wants.any (cw w)))=freshP pre p:=by
 rw[Bool.eq_iff_iff,Xv,Xbo]
 unfold freshP
 rw[Xao]
 constructor
 ·intro h w hw
  cases h1:sEq w.hold ⟨#[]⟩
  ·simp only[Xbk,Xv,heldIn,heldB,Xbo,Xbn]
   rintro x ⟨q,hq,hx⟩ h2
   apply h q hq
   rw[Xcp]
   refine⟨w,hw,?_⟩
   rw[Xcp]
   exact⟨x,hx,by simp[cw,h1];rw[Zeu];exact h2⟩
  ·rfl
 ·intro h q hq h2
  obtain⟨w,hw,h3⟩:=Xcp.1 h2
  obtain⟨x,hx,h4⟩:=Xcp.1 h3
  simp only[cw,Xc,Xv]at h4
  have h5:=h w hw
  rw[h4.1]at h5
  simp only[Xbk,Xv,heldIn,heldB,Xbo,Xbn]at h5
  exact h5 x ⟨q,hq,hx⟩ (by rw[Zeu];exact h4.2)
def head99(ps:List Place)(m:Md)(i:Nat):St:=hd [(0,.sl .bor 3 (ps.map (Place.c m))),(3,.int .i64 i)] [] 0
def head99k(ps:List Place)(m:Md)(i:Nat)(p:Place)(k:Nat):St:=hd [(0,.sl .bor 3 (ps.map (Place.c m))),(3,.int .i64 i),(4,.ptr 0 0 0),(5,.int .i64 k)] [.box (p.c .bor)] 0
def head99j(ps:List Place)(m:Md)(i:Nat)(p:Place)(k j:Nat):St:=hd [(0,.sl .bor 3 (ps.map (Place.c m))),(3,.int .i64 i),(4,.ptr 0 0 0),(5,.int .i64 k),(6,.int .i64 j)] [.box (p.c .bor)] 0
def head99n(ps:List Place)(m:Md)(i:Nat)(p:Place)(k j n:Nat):St:=hd [(0,.sl .bor 3 (ps.map (Place.c m))),(3,.int .i64 i),(4,.ptr 0 0 0),(5,.int .i64 k),(6,.int .i64 j),(7,.int .i64 n)] [.box (p.c .bor)] 0
theorem law99(ps:List Place)(m:Md)(hl:ps.length<=1048576)(he:∀ p∈ps,p.small):F 99 [.sl .bor 3 (ps.map (Place.c m))] []=some (.bool (decide (ps.length<=4) && placesGo [] ps),[]):=by
 refine Zae fn99 rfl ?_
 simp[c99]
 by_cases h4:ps.length<=4
 case neg =>
  have h4':4<(ps.length:Int):=by omega
  simp[h4,h4']
 have h4':¬ (4<(ps.length:Int)):=by omega
 simp[h4,h4']
 refine (Zaa ps (fun i (_:Unit)=>head99 ps m i) (fun _ _=>True) (fun i r _=>(.bool (placesGo (ps.take i) r),[])) (fun acc Y _=>?_) (fun i a r acc Y ha hi hr _ hY=>?_) () ?_ trivial ?_).trans rfl
 ·simp[head99,c99b3,placesGo]
 ·have hw:IntKind.i64.wrap ((i:Int)+1)=(i:Int)+1:=i64w (by omega) (by omega)
  obtain⟨_,hg⟩:=Xa.1 ha
  have hs:=Zas ha
  have hws:=(he a (Xe ha)).wants
  have w7:=law7 a.wants (by unfold big;omega)
  have hY':∀ s',s'.norm [0,3]=head99 ps m (i+1)->fin [CRes.tmp 2] 0 (Y s')=some (.bool (placesGo (ps.take i++[a]) r),[]):=fun s' h=>by rw[<- hs];exact hY () s' trivial h
  have hcase:(¬ 0<i/\(ps.take i).getLast?=none)\/∃ j:Nat,0<i/\IntKind.i64.wrap ((i:Int)-1)=(j:Int)/\∃ h:j<ps.length,(ps.take i).getLast?=some (ps[j]'h):=by
   by_cases hz:i=0
   ·left;exact⟨by omega,by rw[hz];rfl⟩
   ·right;exact prev hi (by omega) hz
  rcases hcase with ⟨hp,hlast⟩|⟨j,hp,hw1,hj,hlast⟩
  ·simp[head99,c99b3,placesGo,hg,hi,ascP,hp,hlast,placeOk,w7]
   cases q7:isName a.berth<;>simp
   cases q8:inR a.seen 1 1000000<;>simp
   cases q9:wantsOk a.wants<;>simp
   rw[<- Zis]
   refine (Zaa (ps.take i) (fun k (_:Unit)=>head99k ps m i a k) (fun _ _=>True) (fun _ t _=>(.bool (!(t.any fun q=>a.wants.any fun w=>q.wants.any (cw w)) && placesGo (ps.take i++[a]) r),[])) (fun acc Z _=>?_) (fun k b t acc Z hb hk ht _ hZ=>?_) () ?_ trivial ?_).trans rfl
   ·have hlen:(ps.take i).length=i:=by simp;omega
    rw[hlen]
    simp[head99k,c99b2]
    exact hY' _ (by simp[head99,hw])
   ·have hk2:k<i:=by simp at hk;omega
    have hwk:IntKind.i64.wrap ((k:Int)+1)=(k:Int)+1:=i64w (by omega) (by omega)
    have hb2:ps[k]?=some b:=by rw[Xal,Xr hk2]at hb;exact hb
    obtain⟨hkl,hgb⟩:=Xa.1 hb2
    have hbw:=(he b (Xe hb2)).wants
    have hZ':∀ s',s'.norm [0,3,4,5]=head99k ps m i a (k+1)->fin [CRes.tmp 2] 0 (Z s')=some (.bool (!(t.any fun q=>a.wants.any fun w=>q.wants.any (cw w)) && placesGo (ps.take i++[a]) r),[]):=fun s' h=>hZ () s' trivial h
    simp only[Xbc,Bool.not_or]
    simp[head99k,c99b2,hk2]
    refine (Zaa a.wants (fun j (_:Unit)=>head99j ps m i a k j) (fun _ _=>True) (fun _ u _=>(.bool (!(u.any fun w=>b.wants.any (cw w)) && (!(t.any fun q=>a.wants.any fun w=>q.wants.any (cw w)) && placesGo (ps.take i++[a]) r)),[])) (fun acc V _=>?_) (fun jj w u acc V hv hjj hu _ hV=>?_) () ?_ trivial ?_).trans (by simp[Bool.and_assoc])
    ·simp[head99j,c99b1]
     exact (hZ' _ (by simp[head99k,hwk])).trans (by simp)
    ·have hwj:IntKind.i64.wrap ((jj:Int)+1)=(jj:Int)+1:=i64w (by omega) (by omega)
     obtain⟨_,hgw⟩:=Xa.1 hv
     have hV':∀ s',s'.norm [0,3,4,5,6]=head99j ps m i a k (jj+1)->fin [CRes.tmp 2] 0 (V s')=some (.bool (!(u.any fun w=>b.wants.any (cw w)) && (!(t.any fun q=>a.wants.any fun w=>q.wants.any (cw w)) && placesGo (ps.take i++[a]) r)),[]):=fun s' h=>hV () s' trivial h
     simp only[Xbc,Bool.not_or]
     simp[head99j,c99b1,hjj]
     refine (Zaa b.wants (fun n (_:Unit)=>head99n ps m i a k jj n) (fun _ _=>True) (fun _ x _=>(.bool (!(x.any (cw w)) && (!(u.any fun w=>b.wants.any (cw w)) && (!(t.any fun q=>a.wants.any fun w=>q.wants.any (cw w)) && placesGo (ps.take i++[a]) r))),[])) (fun acc U _=>?_) (fun n y x acc U hy hn hx _ hU=>?_) () ?_ trivial ?_).trans (by simp[Bool.and_assoc])
     ·simp[head99n,c99b0,hkl,hgb]
      exact (hV' _ (by simp[head99j,hwj])).trans (by simp)
     ·have hwn:IntKind.i64.wrap ((n:Int)+1)=(n:Int)+1:=i64w (by omega) (by omega)
      obtain⟨_,hgy⟩:=Xa.1 hy
      simp only[Xbc,Bool.not_or]
      simp[head99n,c99b0,hkl,hgb,hn,hgy,hjj,hgw,cw]
      cases e1:sEq w.hold ⟨#[]⟩<;>cases e2:sEq w.hold y.hold<;>simp
      all_goals exact (hU () _ trivial (by simp[head99n,hwn])).trans (by simp[cw,e1])
     ·simp[head99n]
     ·unfold big;omega
    ·simp[head99j]
    ·unfold big;omega
   ·simp[head99k]
   ·simp;unfold big;omega
  ·simp[head99,c99b3,placesGo,hg,hi,ascP,hp,hw1,hj,hlast,placeOk,w7]
   cases q7:isName a.berth<;>simp
   cases q8:inR a.seen 1 1000000<;>simp
   cases q9:wantsOk a.wants<;>simp
   cases q10:sLt ps[j].berth a.berth<;>simp
   rw[<- Zis]
   refine (Zaa (ps.take i) (fun k (_:Unit)=>head99k ps m i a k) (fun _ _=>True) (fun _ t _=>(.bool (!(t.any fun q=>a.wants.any fun w=>q.wants.any (cw w)) && placesGo (ps.take i++[a]) r),[])) (fun acc Z _=>?_) (fun k b t acc Z hb hk ht _ hZ=>?_) () ?_ trivial ?_).trans rfl
   ·have hlen:(ps.take i).length=i:=by simp;omega
    rw[hlen]
    simp[head99k,c99b2]
    exact hY' _ (by simp[head99,hw])
   ·have hk2:k<i:=by simp at hk;omega
    have hwk:IntKind.i64.wrap ((k:Int)+1)=(k:Int)+1:=i64w (by omega) (by omega)
    have hb2:ps[k]?=some b:=by rw[Xal,Xr hk2]at hb;exact hb
    obtain⟨hkl,hgb⟩:=Xa.1 hb2
    have hbw:=(he b (Xe hb2)).wants
    have hZ':∀ s',s'.norm [0,3,4,5]=head99k ps m i a (k+1)->fin [CRes.tmp 2] 0 (Z s')=some (.bool (!(t.any fun q=>a.wants.any fun w=>q.wants.any (cw w)) && placesGo (ps.take i++[a]) r),[]):=fun s' h=>hZ () s' trivial h
    simp only[Xbc,Bool.not_or]
    simp[head99k,c99b2,hk2]
    refine (Zaa a.wants (fun j (_:Unit)=>head99j ps m i a k j) (fun _ _=>True) (fun _ u _=>(.bool (!(u.any fun w=>b.wants.any (cw w)) && (!(t.any fun q=>a.wants.any fun w=>q.wants.any (cw w)) && placesGo (ps.take i++[a]) r)),[])) (fun acc V _=>?_) (fun jj w u acc V hv hjj hu _ hV=>?_) () ?_ trivial ?_).trans (by simp[Bool.and_assoc])
    ·simp[head99j,c99b1]
     exact (hZ' _ (by simp[head99k,hwk])).trans (by simp)
    ·have hwj:IntKind.i64.wrap ((jj:Int)+1)=(jj:Int)+1:=i64w (by omega) (by omega)
     obtain⟨_,hgw⟩:=Xa.1 hv
     have hV':∀ s',s'.norm [0,3,4,5,6]=head99j ps m i a k (jj+1)->fin [CRes.tmp 2] 0 (V s')=some (.bool (!(u.any fun w=>b.wants.any (cw w)) && (!(t.any fun q=>a.wants.any fun w=>q.wants.any (cw w)) && placesGo (ps.take i++[a]) r)),[]):=fun s' h=>hV () s' trivial h
     simp only[Xbc,Bool.not_or]
     simp[head99j,c99b1,hjj]
     refine (Zaa b.wants (fun n (_:Unit)=>head99n ps m i a k jj n) (fun _ _=>True) (fun _ x _=>(.bool (!(x.any (cw w)) && (!(u.any fun w=>b.wants.any (cw w)) && (!(t.any fun q=>a.wants.any fun w=>q.wants.any (cw w)) && placesGo (ps.take i++[a]) r))),[])) (fun acc U _=>?_) (fun n y x acc U hy hn hx _ hU=>?_) () ?_ trivial ?_).trans (by simp[Bool.and_assoc])
     ·simp[head99n,c99b0,hkl,hgb]
      exact (hV' _ (by simp[head99j,hwj])).trans (by simp)
     ·have hwn:IntKind.i64.wrap ((n:Int)+1)=(n:Int)+1:=i64w (by omega) (by omega)
      obtain⟨_,hgy⟩:=Xa.1 hy
      simp only[Xbc,Bool.not_or]
      simp[head99n,c99b0,hkl,hgb,hn,hgy,hjj,hgw,cw]
      cases e1:sEq w.hold ⟨#[]⟩<;>cases e2:sEq w.hold y.hold<;>simp
      all_goals exact (hU () _ trivial (by simp[head99n,hwn])).trans (by simp[cw,e1])
     ·simp[head99n]
     ·unfold big;omega
    ·simp[head99j]
    ·unfold big;omega
   ·simp[head99k]
   ·simp;unfold big;omega
 ·simp[head99]
 ·unfold big;omega
def head24(l:Land)(m:Md)(i:Nat):St:=hd [(1,.ptr 0 0 0),(3,.int .i64 i)] [.box (l.c .bor m)] 0
theorem Zpw{α:Type}{xs:List α}{i:Nat}(hi:i<xs.length)(hm:xs.length<=9223372036854775807):(¬ 0<i/\(xs.take i).getLast?=none)\/∃ j:Nat,0<i/\IntKind.i64.wrap ((i:Int)-1)=(j:Int)/\∃ h:j<xs.length,(xs.take i).getLast?=some (xs[j]'h):=by
 by_cases hz:i=0
 ·left;exact⟨by omega,by rw[hz];rfl⟩
 ·right;exact prev hi hm hz
theorem law24(l:Land)(m:Md)(hl:l.small):F 24 [.agg (l.c .bor m)] []=some (.bool (landOk l),[]):=by
 refine Zae fn24 rfl ?_
 obtain⟨s1,s2,s3⟩:=hl
 have w99:=law99 l.places m s2 s3
 simp[c24,landOk]
 cases q1:inR l.time 0 2000000<;>simp
 by_cases q2:l.time.tmod 2=0
 case neg=>simp[q2]
 simp[q2]
 by_cases q3:l.grants.length<=40
 case neg =>
  have q3':¬ ((l.grants.length:Int)<=40):=by omega
  have q32:40<(l.grants.length:Int):=by omega
  simp[q3,q3',q32]
 have q3':(l.grants.length:Int)<=40:=by omega
 have q32:¬ (40<(l.grants.length:Int)):=by omega
 simp[q3,q3',q32]
 refine (Zaa l.grants (fun i (_:Unit)=>head24 l m i) (fun _ _=>True) (fun i r _=>(.bool (grantsGo l.time (l.grants.take i) r && (decide (l.places.length<=4) && placesGo [] l.places)),[])) (fun acc Y _=>?_) (fun i a r acc Y ha hi hr _ hY=>?_) () ?_ trivial ?_).trans ?_
 ·simp[head24,c24b0,grantsGo,w99]
 ·have hw:IntKind.i64.wrap ((i:Int)+1)=(i:Int)+1:=i64w (by omega) (by omega)
  obtain⟨_,hg⟩:=Xa.1 ha
  have hs:=Zas ha
  have hY':∀ s',s'.norm [1,3]=head24 l m (i+1)->fin [CRes.tmp 2] 0 (Y s')=some (.bool (grantsGo l.time (l.grants.take i++[a]) r && (decide (l.places.length<=4) && placesGo [] l.places)),[]):=fun s' h=>by rw[<- hs];exact hY () s' trivial h
  rcases Zpw hi (by omega) with ⟨hp,hlast⟩|⟨j,hp,hw1,hj,hlast⟩
  ·simp[head24,c24b0,grantsGo,hg,hi,ascG,hp,hlast,grantOk]
   cases r1:isHold a.hold<;>simp
   cases r2:isName a.berth<;>simp
   cases r3:isName a.copy<;>simp
   cases r4:inR a.at_ 0 1000000<;>simp
   cases r5:inR a.til 0 (IntKind.i64.wrap (l.time+32))<;>simp
   exact (hY' _ (by simp[head24,hw])).trans (by simp)
  ·simp[head24,c24b0,grantsGo,hg,hi,ascG,hp,hw1,hj,hlast,grantOk]
   cases r1:isHold a.hold<;>simp
   cases r2:isName a.berth<;>simp
   cases r3:isName a.copy<;>simp
   cases r4:inR a.at_ 0 1000000<;>simp
   cases r5:inR a.til 0 (IntKind.i64.wrap (l.time+32))<;>simp
   cases r6:sLt l.grants[j].hold a.hold<;>simp
   exact (hY' _ (by simp[head24,hw])).trans (by simp)
 ·simp[head24]
 ·unfold big;omega
 ·simp
  cases grantsGo l.time [] l.grants<;>simp
def ascM(pre:List Mate)(m:Mate):Bool :=
 match pre.getLast? with
 | none=>true
 | some p=>sLt p.name m.name
def matesGo(pre:List Mate):List Mate->Bool
 | []=>true
 | m::r=>mateValid m && (ascM pre m && matesGo (pre++[m]) r)
def worldOk(w:Wld):Bool:=landOk w.land && (decide (1<=w.mates.length) && (decide (w.mates.length<=4) && (decide (w.flight.length<=300) && matesGo [] w.mates)))
structure Wld.small(w:Wld):Prop where
 land:w.land.small
 mates:w.mates.length<=1048576
 each:∀ m∈w.mates,m.small
 flight:w.flight.length<=1048576
@[simp] def Wld.cc(m ml mt:Md)(w:Wld):List AV:=[.int .i64 w.land.time,.sl m 5 (w.land.grants.map Grant.c),.sl m 3 (w.land.places.map (Place.c ml)),.sl m 9 (w.mates.map (Mate.c mt)),.sl m 1 (w.flight.map fun s=>[.str s])]
def head57(w:Wld)(ml mm:Md)(i:Nat):St:=hd [(1,.ptr 0 0 0),(28,.sl .bor 9 (w.mates.map (Mate.c mm))),(29,.int .i64 w.mates.length),(30,.int .i64 i)] [.box (w.cc .bor ml mm)] 0
theorem law57c(w:Wld)(ml mm:Md)(hw:w.small):F 57 [.agg (w.cc .bor ml mm)] []=some (.bool (worldOk w),[]):=by
 refine Zae fn57 rfl ?_
 have w1:=law23 w.land ml hw.land
 simp only[Land.c]at w1
 have hl:=hw.mates
 have hf:=hw.flight
 simp[c57,worldOk,w1]
 cases q1:landOk w.land<;>simp
 by_cases q2:1<=w.mates.length
 case neg =>
  have q2':¬ (1<=(w.mates.length:Int)):=by omega
  have q2a:(w.mates.length:Int)<1:=by omega
  simp[q2,q2',q2a]
 have q2':1<=(w.mates.length:Int):=by omega
 have q2a:¬ ((w.mates.length:Int)<1):=by omega
 simp[q2,q2',q2a]
 by_cases q3:w.mates.length<=4
 case neg =>
  have q3':¬ ((w.mates.length:Int)<=4):=by omega
  have q3a:4<(w.mates.length:Int):=by omega
  simp[q3,q3',q3a]
 have q3':(w.mates.length:Int)<=4:=by omega
 have q3a:¬ (4<(w.mates.length:Int)):=by omega
 simp[q3,q3',q3a]
 by_cases q4:w.flight.length<=300
 case neg =>
  have q4':¬ ((w.flight.length:Int)<=300):=by omega
  have q4a:300<(w.flight.length:Int):=by omega
  simp[q4,q4',q4a]
 have q4':(w.flight.length:Int)<=300:=by omega
 have q4a:¬ (300<(w.flight.length:Int)):=by omega
 simp[q4,q4',q4a]
 refine (Zaa w.mates (fun i (_:Unit)=>head57 w ml mm i) (fun _ _=>True) (fun i r _=>(.bool (matesGo (w.mates.take i) r),[])) (fun acc Y _=>?_) (fun i a r acc Y ha hi hr _ hY=>?_) () ?_ trivial ?_).trans rfl
 ·simp[head57,c57b0,matesGo]
 ·have hw1:IntKind.i64.wrap ((i:Int)+1)=(i:Int)+1:=i64w (by omega) (by omega)
  obtain⟨_,hg⟩:=Xa.1 ha
  have hs:=Zas ha
  have w28:=law28 a (hw.each a (Xe ha))
  simp only[Mate.c]at w28
  have hY':∀ s',s'.norm [1,28,29,30]=head57 w ml mm (i+1)->fin [CRes.tmp 2] 0 (Y s')=some (.bool (matesGo (w.mates.take i++[a]) r),[]):=fun s' h=>by rw[<- hs];exact hY () s' trivial h
  rcases Zpw hi (by omega) with ⟨hp,hlast⟩|⟨j,hp,hw2,hj,hlast⟩
  ·simp[head57,c57b0,matesGo,hg,hi,ascM,hp,hlast,w28]
   cases r1:mateValid a<;>simp
   exact (hY' _ (by simp[head57,hw1])).trans (by simp)
  ·simp[head57,c57b0,matesGo,hg,hi,ascM,hp,hw2,hj,hlast,w28]
   cases r1:mateValid a<;>simp
   cases r2:sLt w.mates[j].name a.name<;>simp
   exact (hY' _ (by simp[head57,hw1])).trans (by simp)
 ·simp[head57]
 ·unfold big;omega
def head58(w:Wld)(ml mm:Md)(i:Nat):St:=hd [(1,.ptr 0 0 0),(3,.int .i64 i)] [.box (w.cc .bor ml mm)] 0
theorem law58c(w:Wld)(ml mm:Md)(hw:w.small):F 58 [.agg (w.cc .bor ml mm)] []=some (.bool (worldOk w),[]):=by
 refine Zae fn58 rfl ?_
 have w1:=law24 w.land ml hw.land
 simp only[Land.c]at w1
 have hl:=hw.mates
 have hf:=hw.flight
 simp[c58,worldOk,w1,inR]
 cases q1:landOk w.land<;>simp
 by_cases q2:1<=w.mates.length
 case neg =>
  have q2':¬ (1<=(w.mates.length:Int)):=by omega
  have q2a:(w.mates.length:Int)<1:=by omega
  simp[q2,q2',q2a]
 have q2':1<=(w.mates.length:Int):=by omega
 have q2a:¬ ((w.mates.length:Int)<1):=by omega
 simp[q2,q2',q2a]
 by_cases q3:w.mates.length<=4
 case neg =>
  have q3':¬ ((w.mates.length:Int)<=4):=by omega
  have q3a:4<(w.mates.length:Int):=by omega
  simp[q3,q3',q3a]
 have q3':(w.mates.length:Int)<=4:=by omega
 have q3a:¬ (4<(w.mates.length:Int)):=by omega
 simp[q3,q3',q3a]
 by_cases q4:w.flight.length<=300
 case neg =>
  have q4':¬ ((w.flight.length:Int)<=300):=by omega
  have q4a:300<(w.flight.length:Int):=by omega
  simp[q4,q4',q4a]
 have q4':(w.flight.length:Int)<=300:=by omega
 have q4a:¬ (300<(w.flight.length:Int)):=by omega
 simp[q4,q4',q4a]
 refine (Zaa w.mates (fun i (_:Unit)=>head58 w ml mm i) (fun _ _=>True) (fun i r _=>(.bool (matesGo (w.mates.take i) r),[])) (fun acc Y _=>?_) (fun i a r acc Y ha hi hr _ hY=>?_) () ?_ trivial ?_).trans rfl
 ·simp[head58,c58b0,matesGo]
 ·have hw1:IntKind.i64.wrap ((i:Int)+1)=(i:Int)+1:=i64w (by omega) (by omega)
  obtain⟨_,hg⟩:=Xa.1 ha
  have hs:=Zas ha
  have w28:=law29 a (hw.each a (Xe ha))
  simp only[Mate.c]at w28
  have hY':∀ s',s'.norm [1,3]=head58 w ml mm (i+1)->fin [CRes.tmp 2] 0 (Y s')=some (.bool (matesGo (w.mates.take i++[a]) r),[]):=fun s' h=>by rw[<- hs];exact hY () s' trivial h
  rcases Zpw hi (by omega) with ⟨hp,hlast⟩|⟨j,hp,hw2,hj,hlast⟩
  ·simp[head58,c58b0,matesGo,hg,hi,ascM,hp,hlast,w28]
   cases r1:mateValid a<;>simp
   exact (hY' _ (by simp[head58,hw1])).trans (by simp)
  ·simp[head58,c58b0,matesGo,hg,hi,ascM,hp,hw2,hj,hlast,w28]
   cases r1:mateValid a<;>simp
   cases r2:sLt w.mates[j].name a.name<;>simp
   exact (hY' _ (by simp[head58,hw1])).trans (by simp)
 ·simp[head58]
 ·unfold big;omega
theorem law58(w:Wld)(mm:Md)(hw:w.small):F 58 [.agg (w.c .bor mm)] []=some (.bool (worldOk w),[]):=law58c w mm mm hw
def wd(c:Int)(r:Run):Run:=if alive r && !leased r c then { r with state:=2,left:=0 } else r
def ownV(sz:Nat)(xs:List (List AV)):AV:=match xs with
 | []=>.sl .own sz []
 | _=>.ref 0
def ownH(sz:Nat)(xs:List (List AV)):List AO:=match xs with
 | []=>[]
 | xs=>[.arr sz xs]
@[simp] theorem ownV_nil(sz:Nat):ownV sz []=.sl .own sz []:=rfl
@[simp] theorem ownH_nil(sz:Nat):ownH sz []=[]:=rfl
@[simp] theorem ownV_cons(sz:Nat)(x:List AV)(xs:List (List AV)):ownV sz (x::xs)=.ref 0:=rfl
@[simp] theorem ownH_cons(sz:Nat)(x:List AV)(xs:List (List AV)):ownH sz (x::xs)=[.arr sz (x::xs)]:=rfl
@[simp] theorem ownV_snoc(sz:Nat)(x:List AV)(xs:List (List AV)):ownV sz (xs++[x])=.ref 0:=by cases xs<;>rfl
@[simp] theorem ownH_snoc(sz:Nat)(x:List AV)(xs:List (List AV)):ownH sz (xs++[x])=[.arr sz (xs++[x])]:=by cases xs<;>rfl
def head18(rs:List Run)(c:Int)(i:Nat)(acc:List Run):St:=hd [(1,.int .i64 c),(5,ownV 11 (acc.map Run.c)),(8,.sl .bor 11 (rs.map Run.c)),(9,.int .i64 rs.length),(10,.int .i64 i)] (ownH 11 (acc.map Run.c)) 0
theorem law18(rs:List Run)(c:Int)(hl:rs.length<=1048576):F 18 [.sl .bor 11 (rs.map Run.c),.int .i64 c] []=some (.sl .own 11 ((rs.map (wd c)).map Run.c),[]):=by
 refine Zae fn18 rfl ?_
 simp[c18]
 refine (Zaa rs (fun i (acc:List Run)=>head18 rs c i acc) (fun i acc=>acc.length=i) (fun _ r acc=>(.sl .own 11 ((acc++r.map (wd c)).map Run.c),[])) (fun acc Y hacc=>?_) (fun i a r acc Y ha hi hr hacc hY=>?_) [] ?_ rfl ?_).trans ?_
 ·rcases acc with _|⟨b,acc⟩
  ·simp[head18,c18b0]
  ·simp[head18,c18b0]
 ·have hw:IntKind.i64.wrap ((i:Int)+1)=(i:Int)+1:=i64w (by omega) (by omega)
  obtain⟨_,hg⟩:=Xa.1 ha
  have hb1:((acc.length:Int)+1)*104<=140737488355328:=by omega
  have hb2:(acc.length:Int)+1<=140737488355328:=by omega
  have hb3:(acc.length+1)*104<=140737488355328:=by omega
  have hb4:acc.length+1<=140737488355328:=by omega
  have hfin:∀ x:Run,wd c a=x->∀ s':St,s'.norm [1,5,8,9,10]=head18 rs c (i+1) (acc++[x])->fin [CRes.tmp 4] 0 (Y s')=some (.sl .own 11 ((acc++(wd c a::r.map (wd c))).map Run.c),[]):=fun x hx s' h=>by
   rw[hY _ s' (by simp[hacc]) h,<- hx];simp
  rcases acc with _|⟨b,acc⟩
  ·simp[head18,c18b0,hi,hg,rowsPlain,takeRows]
   cases q1:aliveS a.state<;>simp
   ·exact (hfin a (by simp[wd,alive,q1]) _ (by simp[head18,hw])).trans (by simp)
   cases q2:sEq a.want.hold ⟨#[]⟩<;>simp
   ·by_cases q3:a.til<IntKind.i64.wrap (c+4)
    ·have q4:¬ (IntKind.i64.wrap (c+4)<=a.til):=by omega
     simp[q3]
     exact (hfin { a with state:=2,left:=0 } (by simp[wd,alive,leased,leasedB,q1,q2,q4]) _ (by simp[head18,hw])).trans (by simp)
    ·have q4:IntKind.i64.wrap (c+4)<=a.til:=by omega
     simp[q3]
     exact (hfin a (by simp[wd,alive,leased,leasedB,q1,q2,q4]) _ (by simp[head18,hw])).trans (by simp)
   ·exact (hfin a (by simp[wd,alive,leased,leasedB,q1,q2]) _ (by simp[head18,hw])).trans (by simp)
  ·simp only[Xaa]at hb3 hb4
   simp[head18,c18b0,hi,hg,rowsPlain,takeRows,hb3,hb4]
   cases q1:aliveS a.state<;>simp
   ·exact (hfin a (by simp[wd,alive,q1]) _ (by simp[head18,hw])).trans (by simp)
   cases q2:sEq a.want.hold ⟨#[]⟩<;>simp
   ·by_cases q3:a.til<IntKind.i64.wrap (c+4)
    ·have q4:¬ (IntKind.i64.wrap (c+4)<=a.til):=by omega
     simp[q3]
     exact (hfin { a with state:=2,left:=0 } (by simp[wd,alive,leased,leasedB,q1,q2,q4]) _ (by simp[head18,hw])).trans (by simp)
    ·have q4:IntKind.i64.wrap (c+4)<=a.til:=by omega
     simp[q3]
     exact (hfin a (by simp[wd,alive,leased,leasedB,q1,q2,q4]) _ (by simp[head18,hw])).trans (by simp)
   ·exact (hfin a (by simp[wd,alive,leased,leasedB,q1,q2]) _ (by simp[head18,hw])).trans (by simp)
 ·simp[head18]
 ·unfold big;omega
 ·simp
def head20(rs:List Run)(c:Int)(i:Nat)(acc:List Run):St:=hd [(0,.sl .bor 11 (rs.map Run.c)),(1,.int .i64 c),(5,.ref 0),(6,.int .i64 i)] [.arr 11 (acc.map Run.c)] 0
theorem law20(rs:List Run)(c:Int)(hl:rs.length<=1048576):F 20 [.sl .bor 11 (rs.map Run.c),.int .i64 c] []=some (.sl .own 11 ((rs.map (wd c)).map Run.c),[]):=by
 refine Zae fn20 rfl ?_
 simp[c20]
 refine (Zaa rs (fun i (acc:List Run)=>head20 rs c i acc) (fun i acc=>acc.length=i) (fun _ r acc=>(.sl .own 11 ((acc++r.map (wd c)).map Run.c),[])) (fun acc Y hacc=>?_) (fun i a r acc Y ha hi hr hacc hY=>?_) [] ?_ rfl ?_).trans ?_
 ·simp[head20,c20b0]
 ·have hw:IntKind.i64.wrap ((i:Int)+1)=(i:Int)+1:=i64w (by omega) (by omega)
  obtain⟨_,hg⟩:=Xa.1 ha
  have hb3:(acc.length+1)*104<=140737488355328:=by omega
  have hb4:acc.length+1<=140737488355328:=by omega
  have hfin:∀ x:Run,wd c a=x->∀ s':St,s'.norm [0,1,5,6]=head20 rs c (i+1) (acc++[x])->fin [CRes.tmp 4] 0 (Y s')=some (.sl .own 11 ((acc++(wd c a::r.map (wd c))).map Run.c),[]):=fun x hx s' h=>by
   rw[hY _ s' (by simp[hacc]) h,<- hx];simp
  simp[head20,c20b0,hi,hg,rowsPlain,takeRows,hb3,hb4]
  cases q1:aliveS a.state<;>simp
  ·exact (hfin a (by simp[wd,alive,q1]) _ (by simp[head20,hw])).trans (by simp)
  cases q2:leasedB a.want.hold a.til c<;>simp
  ·exact (hfin { a with state:=2,left:=0 } (by simp[wd,alive,leased,q1,q2]) _ (by simp[head20,hw])).trans (by simp)
  ·exact (hfin a (by simp[wd,alive,leased,q1,q2]) _ (by simp[head20,hw])).trans (by simp)
 ·simp[head20]
 ·unfold big;omega
 ·simp
@[simp] theorem plain_want(ws:List Want):rowsPlain (ws.map Want.c)=true:=by simp[rowsPlain]
@[simp] theorem plain_run(ws:List Run):rowsPlain (ws.map Run.c)=true:=by simp[rowsPlain]
@[simp] theorem plain_ask(ws:List Ask):rowsPlain (ws.map Ask.c)=true:=by simp[rowsPlain]
@[simp] theorem plain_grant(ws:List Grant):rowsPlain (ws.map Grant.c)=true:=by simp[rowsPlain]
@[simp] theorem plain_text(ws:List T):rowsPlain (ws.map fun s=>[.str s])=true:=by simp[rowsPlain]
theorem law117(m:Mate)(hm:m.small):F 117 [.agg (m.c .bor)] []=some (.agg (m.c .own),[]):=by
 refine Zae fn117 rfl ?_
 obtain⟨h1,h2,h3,h4⟩:=hm
 have e1:m.wants.length*72<=140737488355328:=by omega
 have e2:m.runs.length*104<=140737488355328:=by omega
 have e3:m.asks.length*48<=140737488355328:=by omega
 have e4:m.gives.length*48<=140737488355328:=by omega
 have f1:m.wants.length<=140737488355328:=by omega
 have f2:m.runs.length<=140737488355328:=by omega
 have f3:m.asks.length<=140737488355328:=by omega
 have f4:m.gives.length<=140737488355328:=by omega
 simp[c117,takeRows,e1,e2,e3,e4,f1,f2,f3,f4]
theorem law120(m:Mate)(hm:m.small):F 120 [.agg (m.c .bor)] []=some (.agg (m.c .own),[]):=by
 refine Zae fn120 rfl ?_
 obtain⟨h1,h2,h3,h4⟩:=hm
 have e1:m.wants.length*72<=140737488355328:=by omega
 have e2:m.runs.length*104<=140737488355328:=by omega
 have e3:m.asks.length*48<=140737488355328:=by omega
 have e4:m.gives.length*48<=140737488355328:=by omega
 have f1:m.wants.length<=140737488355328:=by omega
 have f2:m.runs.length<=140737488355328:=by omega
 have f3:m.asks.length<=140737488355328:=by omega
 have f4:m.gives.length<=140737488355328:=by omega
 simp[c120,takeRows,e1,e2,e3,e4,f1,f2,f3,f4]
def Mate.zero:Mate:=⟨⟨#[]⟩,false,0,false,0,[],[],[],[]⟩
def mateRise(m:Mate):Mate:=if mateValid m then { m with up:=m.up || decide (m.clock<1000000) } else .zero
theorem Zmo{m:Mate}(h:mateValid m=true):0<=m.clock/\m.clock<=1000000:=by
 unfold mateValid mateParts at h
 simp only[Xc]at h
 have:=h.1.2.1
 simpa [inR] using this
theorem law35(m:Mate)(hm:m.small):F 35 [.agg (m.c .bor)] []=some (.agg ((mateRise m).c .own),[]):=by
 refine Zae fn35 rfl ?_
 have w1:=law28 m hm
 have w2:=law117 m hm
 simp only[Mate.c]at w1 w2
 simp[c35,w1,mateRise]
 cases hv:mateValid m
 ·simp[Mate.zero]
 ·have hc:=Zmo hv
  simp[w2]
  by_cases h:m.clock=1000000
  ·simp[h]
  ·have h2:m.clock<1000000:=by omega
   simp[h,h2]
theorem law34(m:Mate)(hm:m.small):F 34 [.agg (m.c .bor)] []=some (.agg ((mateRise m).c .own),[]):=by
 refine Zae fn34 rfl ?_
 have w1:=law29 m hm
 have w2:=law120 m hm
 simp only[Mate.c]at w1 w2
 simp[c34,w1,mateRise]
 cases hv:mateValid m
 ·simp[Mate.zero]
 ·simp[w2]
  by_cases h:m.clock<1000000
  ·simp[h]
  ·simp[h]
def fallRun(machine:Bool)(r:Run):Option Run :=
 if alive r then (if machine then (if sEq r.want.hold ⟨#[]⟩ then none else some { r with state:=2,left:=0 }) else some r) else none
def mateFall(m:Mate)(machine:Bool):Mate:=if mateValid m then { Mate.zero with name:=m.name,clock:=m.clock,runs:=m.runs.filterMap (fallRun machine) } else .zero
def ownVi(id sz:Nat)(xs:List (List AV)):AV:=match xs with
 | []=>.sl .own sz []
 | _=>.ref id
@[simp] theorem ownVi_nil(id sz:Nat):ownVi id sz []=.sl .own sz []:=rfl
@[simp] theorem ownVi_cons(id sz:Nat)(x:List AV)(xs:List (List AV)):ownVi id sz (x::xs)=.ref id:=rfl
@[simp] theorem ownVi_snoc(id sz:Nat)(x:List AV)(xs:List (List AV)):ownVi id sz (xs++[x])=.ref id:=by cases xs<;>rfl
def zeroCells:List AV:=[.str ⟨#[]⟩,.bool false,.int .i64 0,.bool false,.int .i64 0,.sl .own 7 [],.sl .own 11 [],.sl .own 4 [],.sl .own 4 []]
def fallCells(m:Mate)(acc:List Run):List AV:=[.str m.name,.bool false,.int .i64 m.clock,.bool false,.int .i64 0,.sl .own 7 [],ownVi 2 11 (acc.map Run.c),.sl .own 4 [],.sl .own 4 []]
def head36(m:Mate)(b:Bool)(i:Nat)(acc:List Run):St:=hd [(1,.bool b),(4,.ptr 0 0 0),(5,.ptr 1 0 0),(18,.sl .bor 11 (m.runs.map Run.c)),(19,.int .i64 m.runs.length),(20,.int .i64 i)] (.box zeroCells::.box (fallCells m acc)::ownH 11 (acc.map Run.c)) 0
theorem law36(m:Mate)(b:Bool)(hm:m.small):F 36 [.agg (m.c .bor),.bool b] []=some (.agg ((mateFall m b).c .own),[]):=by
 refine Zae fn36 rfl ?_
 have hr:=hm.runs
 have w1:=law28 m hm
 simp only[Mate.c]at w1
 simp[c36,w1,mateFall]
 cases hv:mateValid m<;>simp
 ·simp[Mate.zero]
 refine (Zaa m.runs (fun i (acc:List Run)=>head36 m b i acc) (fun i acc=>acc.length<=i) (fun _ r acc=>(.agg (({ Mate.zero with name:=m.name,clock:=m.clock,runs:=acc++r.filterMap (fallRun b) }:Mate).c .own),[])) (fun acc Y hacc=>?_) (fun i a r acc Y ha hi hr hacc hY=>?_) [] ?_ (Xo _) ?_).trans ?_
 ·rcases acc with _|⟨x,acc⟩
  ·simp[head36,c36b0,zeroCells,fallCells,Mate.zero]
  ·simp[head36,c36b0,zeroCells,fallCells,Mate.zero]
 ·have hw:IntKind.i64.wrap ((i:Int)+1)=(i:Int)+1:=i64w (by omega) (by omega)
  obtain⟨_,hg⟩:=Xa.1 ha
  have hb3:(acc.length+1)*104<=140737488355328:=by omega
  have hb4:acc.length+1<=140737488355328:=by omega
  have hno:fallRun b a=none->∀ s':St,s'.norm [1,4,5,18,19,20]=head36 m b (i+1) acc->fin [CRes.cell 4 9 true] 0 (Y s')=some (.agg (({ Mate.zero with name:=m.name,clock:=m.clock,runs:=acc++(a::r).filterMap (fallRun b) }:Mate).c .own),[]):=fun hx s' h=>by
   rw[hY acc s' (by omega) h];simp[hx]
  have hyes:∀ x,fallRun b a=some x->∀ s':St,s'.norm [1,4,5,18,19,20]=head36 m b (i+1) (acc++[x])->fin [CRes.cell 4 9 true] 0 (Y s')=some (.agg (({ Mate.zero with name:=m.name,clock:=m.clock,runs:=acc++(a::r).filterMap (fallRun b) }:Mate).c .own),[]):=fun x hx s' h=>by
   rw[hY (acc++[x]) s' (by simp;omega) h];simp[hx]
  rcases acc with _|⟨x,acc⟩
  ·simp[head36,c36b0,zeroCells,fallCells,hi,hg,takeRows,rowsPlain]
   cases q1:aliveS a.state<;>simp
   ·exact (hno (by simp[fallRun,alive,q1]) _ (by simp[head36,hw,zeroCells,fallCells])).trans (by simp)
   cases q2:b<;>simp
   ·exact (hyes a (by simp[fallRun,alive,q1,q2]) _ (by simp[head36,hw,zeroCells,fallCells,q2])).trans (by simp[q2])
   cases q3:sEq a.want.hold ⟨#[]⟩<;>simp
   ·exact (hyes { a with state:=2,left:=0 } (by simp[fallRun,alive,q1,q2,q3]) _ (by simp[head36,hw,zeroCells,fallCells,q2])).trans (by simp[q2])
   ·exact (hno (by simp[fallRun,alive,q1,q2,q3]) _ (by simp[head36,hw,zeroCells,fallCells,q2])).trans (by simp[q2])
  ·simp only[Xaa]at hb3 hb4
   simp[head36,c36b0,zeroCells,fallCells,hi,hg,takeRows,rowsPlain,hb3,hb4]
   cases q1:aliveS a.state<;>simp
   ·exact (hno (by simp[fallRun,alive,q1]) _ (by simp[head36,hw,zeroCells,fallCells])).trans (by simp)
   cases q2:b<;>simp
   ·exact (hyes a (by simp[fallRun,alive,q1,q2]) _ (by simp[head36,hw,zeroCells,fallCells,q2])).trans (by simp[q2])
   cases q3:sEq a.want.hold ⟨#[]⟩<;>simp
   ·exact (hyes { a with state:=2,left:=0 } (by simp[fallRun,alive,q1,q2,q3]) _ (by simp[head36,hw,zeroCells,fallCells,q2])).trans (by simp[q2])
   ·exact (hno (by simp[fallRun,alive,q1,q2,q3]) _ (by simp[head36,hw,zeroCells,fallCells,q2])).trans (by simp[q2])
 ·simp[head36,zeroCells,fallCells]
 ·unfold big;omega
 ·simp[Mate.zero]
def fallCells3(m:Mate)(acc:List Run):List AV:=[.str m.name,.bool false,.int .i64 m.clock,.bool false,.int .i64 0,.sl .own 7 [],ownVi 3 11 (acc.map Run.c),.sl .own 4 [],.sl .own 4 []]
def head32(m:Mate)(b:Bool)(i:Nat)(acc:List Run):St:=hd [(1,.bool b),(2,.ptr 0 0 0),(4,.ptr 1 0 0),(5,.ptr 2 0 0),(6,.int .i64 i)] (.box (m.c .bor)::.box zeroCells::.box (fallCells3 m acc)::ownH 11 (acc.map Run.c)) 0
theorem law32(m:Mate)(b:Bool)(hm:m.small):F 32 [.agg (m.c .bor),.bool b] []=some (.agg ((mateFall m b).c .own),[]):=by
 refine Zae fn32 rfl ?_
 have hr:=hm.runs
 have w1:=law29 m hm
 simp only[Mate.c]at w1
 simp[c32,w1,mateFall]
 cases hv:mateValid m<;>simp
 ·simp[Mate.zero]
 refine (Zaa m.runs (fun i (acc:List Run)=>head32 m b i acc) (fun i acc=>acc.length<=i) (fun _ r acc=>(.agg (({ Mate.zero with name:=m.name,clock:=m.clock,runs:=acc++r.filterMap (fallRun b) }:Mate).c .own),[])) (fun acc Y hacc=>?_) (fun i a r acc Y ha hi hr _ hY=>?_) [] ?_ (Xo _) ?_).trans ?_
 ·have w2:=law120 { Mate.zero with name:=m.name,clock:=m.clock,runs:=acc } ⟨by simp[Mate.zero],by simp only;omega,by simp[Mate.zero],by simp[Mate.zero]⟩
  simp only[Mate.c,Mate.zero,Xt]at w2
  rcases acc with _|⟨x,acc⟩
  ·simp only[Xt]at w2
   simp[head32,c32b0,zeroCells,fallCells3,Mate.zero,w2]
  ·simp only[Xx,Run.c]at w2
   simp[head32,c32b0,zeroCells,fallCells3,Mate.zero,w2]
 ·rename_i hacc
  have hw:IntKind.i64.wrap ((i:Int)+1)=(i:Int)+1:=i64w (by omega) (by omega)
  obtain⟨_,hg⟩:=Xa.1 ha
  have hb3:(acc.length+1)*104<=140737488355328:=by omega
  have hb4:acc.length+1<=140737488355328:=by omega
  have hno:fallRun b a=none->∀ s':St,s'.norm [1,2,4,5,6]=head32 m b (i+1) acc->fin [CRes.cell 4 9 true] 0 (Y s')=some (.agg (({ Mate.zero with name:=m.name,clock:=m.clock,runs:=acc++(a::r).filterMap (fallRun b) }:Mate).c .own),[]):=fun hx s' h=>by
   rw[hY acc s' (by omega) h];simp[hx]
  have hyes:∀ x,fallRun b a=some x->∀ s':St,s'.norm [1,2,4,5,6]=head32 m b (i+1) (acc++[x])->fin [CRes.cell 4 9 true] 0 (Y s')=some (.agg (({ Mate.zero with name:=m.name,clock:=m.clock,runs:=acc++(a::r).filterMap (fallRun b) }:Mate).c .own),[]):=fun x hx s' h=>by
   rw[hY (acc++[x]) s' (by simp;omega) h];simp[hx]
  rcases acc with _|⟨x,acc⟩
  all_goals
   try simp only[Xaa]at hb3 hb4
   simp[head32,c32b0,zeroCells,fallCells3,hi,hg,takeRows,rowsPlain,hb3,hb4]
   cases q2:b<;>simp
   ·cases q1:aliveS a.state<;>simp
    ·exact (hno (by simp[fallRun,alive,q1]) _ (by simp[head32,hw,zeroCells,fallCells3,q2])).trans (by simp[q2])
    ·exact (hyes a (by simp[fallRun,alive,q1,q2]) _ (by simp[head32,hw,zeroCells,fallCells3,q2])).trans (by simp[q2])
   ·cases q1:aliveS a.state<;>simp
    ·exact (hno (by simp[fallRun,alive,q1]) _ (by simp[head32,hw,zeroCells,fallCells3,q2])).trans (by simp[q2])
    cases q3:sEq a.want.hold ⟨#[]⟩<;>simp
    ·exact (hyes { a with state:=2,left:=0 } (by simp[fallRun,alive,q1,q2,q3]) _ (by simp[head32,hw,zeroCells,fallCells3,q2])).trans (by simp[q2])
    ·exact (hno (by simp[fallRun,alive,q1,q2,q3]) _ (by simp[head32,hw,zeroCells,fallCells3,q2])).trans (by simp[q2])
 ·simp[head32,zeroCells,fallCells3]
 ·unfold big;omega
 ·simp[Mate.zero]
def eqWant(a b:Want):Bool:=sEq a.copy b.copy && (a.version == b.version && (sEq a.hold b.hold && (a.pull == b.pull && (a.start == b.start && (a.dies == b.dies && a.grace == b.grace)))))
theorem Zfd(a b:Want):eqWant a b=true↔a=b:=by
 cases a;cases b
 simp[eqWant,Zac]
@[simp] theorem eqCells_want(s1:T)(n1:Int)(h1:T)(p1 q1 d1 g1:Int)(s2:T)(n2:Int)(h2:T)(p2 q2 d2 g2:Int) :
  eqCells [.s,.i,.s,.i,.i,.i,.i] [.str s1,.int .i64 n1,.str h1,.int .i64 p1,.int .i64 q1,.int .i64 d1,.int .i64 g1] [.str s2,.int .i64 n2,.str h2,.int .i64 p2,.int .i64 q2,.int .i64 d2,.int .i64 g2] =
   some (eqWant ⟨s1,n1,h1,p1,q1,d1,g1⟩ ⟨s2,n2,h2,p2,q2,d2,g2⟩):=by
 simp only[eqCells,eqCell,eqWant,Xag,Xaa,Xb7,Xcy]
 cases sEq s1 s2<;>simp only[Bool.false_and,Xcd]
 cases n1 == n2<;>simp only[Bool.false_and,Xcd]
 cases sEq h1 h2<;>simp only[Bool.false_and,Xcd]
 cases p1 == p2<;>simp only[Bool.false_and,Xcd]
 cases q1 == q2<;>simp only[Bool.false_and,Xcd]
 cases d1 == d2<;>simp only[Bool.false_and,Xcd]
 cases g1 == g2<;>rfl
def sameGo:List Want->List Want->Bool
 | a::as,b::bs=>eqWant a b && sameGo as bs
 | _,_=>true
def sameWants(a b:List Want):Bool:=decide (a.length=b.length) && sameGo a b
def head138(a b:List Want)(i:Nat):St:=hd [(0,.sl .bor 7 (a.map Want.c)),(1,.sl .bor 7 (b.map Want.c)),(5,.int .i64 i)] [] 0
theorem law138(a b:List Want)(ha:a.length<=1048576)(_:b.length<=1048576):F 138 [.sl .bor 7 (a.map Want.c),.sl .bor 7 (b.map Want.c)] []=some (.bool (sameWants a b),[]):=by
 refine Zae fn138 rfl ?_
 simp[c138,sameWants]
 by_cases hl:a.length=b.length
 case neg =>
  have hl':¬ ((a.length:Int)=b.length):=by omega
  simp[hl,hl']
 simp[hl]
 refine (Zaa a (fun i (_:Unit)=>head138 a b i) (fun _ _=>True) (fun i r _=>(.bool (sameGo r (b.drop i)),[])) (fun acc Y _=>?_) (fun i x r acc Y hx hi hr _ hY=>?_) () ?_ trivial ?_).trans (by simp)
 ·simp[head138,c138b0,sameGo]
 ·have hw:IntKind.i64.wrap ((i:Int)+1)=(i:Int)+1:=i64w (by omega) (by omega)
  obtain⟨_,hg⟩:=Xa.1 hx
  have hi2:i<b.length:=by omega
  have hd:b.drop i=b[i]::b.drop (i+1):=Xah hi2
  rw[hd]
  simp[head138,c138b0,sameGo,hg,hi,hi2]
  cases q:eqWant x b[i]<;>simp
  exact hY () _ trivial (by simp[head138,hw])
 ·simp[head138]
 ·unfold big;omega
def wantsFor(name:T)(acc:List Want):List Place->List Want
 | []=>acc
 | p::r=>wantsFor name (if sEq p.berth name then p.wants else acc) r
def runsAre:List Run->List Want->Bool
 | r::rs,w::ws=>eqWant r.want w && (r.state == 4 && runsAre rs ws)
 | _,_=>true
def settledRuns(up:Bool)(rs:List Run)(ws:List Want):Bool:=up && (decide (rs.length=ws.length) && runsAre rs ws)
def settledMate(ps:List Place)(m:Mate):Bool:=settledRuns m.up m.runs (wantsFor m.name [] ps)
def settled(w:Wld):Bool:=worldOk w && w.mates.all (settledMate w.land.places)
def wantV(acc:Option (List Want)):AV:=match acc with
 | none=>.sl .own 7 []
 | some ws=>.sl .bor 7 (ws.map Want.c)
def head68m(w:Wld)(ml mm:Md)(i:Nat):St:=hd [(1,.ptr 0 0 0),(14,.sl .bor 9 (w.mates.map (Mate.c mm))),(15,.int .i64 w.mates.length),(16,.int .i64 i)] [.box (w.cc .bor ml mm)] 0
def head68p(w:Wld)(ml mm:Md)(i:Nat)(m:Mate)(j:Nat)(acc:Option (List Want)):St:=hd [(1,.ptr 0 0 0),(4,.ptr 1 0 0),(5,wantV acc),(14,.sl .bor 9 (w.mates.map (Mate.c mm))),(15,.int .i64 w.mates.length),(16,.int .i64 i),(22,.sl .bor 3 (w.land.places.map (Place.c ml))),(23,.int .i64 w.land.places.length),(24,.int .i64 j)] [.box (w.cc .bor ml mm),.box (m.c .bor)] 0
def head68r(w:Wld)(ml mm:Md)(i:Nat)(m:Mate)(ws:List Want)(j:Nat):St:=hd [(1,.ptr 0 0 0),(5,.sl .bor 7 (ws.map Want.c)),(14,.sl .bor 9 (w.mates.map (Mate.c mm))),(15,.int .i64 w.mates.length),(16,.int .i64 i),(48,.sl .bor 11 (m.runs.map Run.c)),(49,.int .i64 m.runs.length),(50,.int .i64 j)] [.box (w.cc .bor ml mm)] 0
def head68e(w:Wld)(ml mm:Md)(i:Nat):St:=hd [(1,.ptr 0 0 0),(5,.sl .own 7 []),(14,.sl .bor 9 (w.mates.map (Mate.c mm))),(15,.int .i64 w.mates.length),(16,.int .i64 i),(48,.sl .bor 11 []),(49,.int .i64 0),(50,.int .i64 0)] [.box (w.cc .bor ml mm)] 0
theorem law68c(w:Wld)(ml mm:Md)(hw:w.small):F 68 [.agg (w.cc .bor ml mm)] []=some (.bool (settled w),[]):=by
 refine Zae fn68 rfl ?_
 have w1:=law57c w ml mm hw
 simp only[Wld.cc,Wld.c]at w1
 have hl:=hw.mates
 have hlp:=hw.land.places
 simp only[settled]
 simp[c68,w1]
 cases q1:worldOk w<;>simp
 refine (Zaa w.mates (fun i (_:Unit)=>head68m w ml mm i) (fun _ _=>True) (fun _ r _=>(.bool (r.all (settledMate w.land.places)),[])) (fun acc Y _=>?_) (fun i a r acc Y ha hi hr _ hY=>?_) () ?_ trivial ?_).trans (by simp)
 ·simp[head68m,c68b2]
 ·have hw1:IntKind.i64.wrap ((i:Int)+1)=(i:Int)+1:=i64w (by omega) (by omega)
  obtain⟨_,hg⟩:=Xa.1 ha
  have hrs:=(hw.each a (Xe ha)).runs
  simp only[List.all_cons]
  simp[head68m,c68b2,hg,hi]
  refine (Zaa w.land.places (fun j (acc:Option (List Want))=>head68p w ml mm i a j acc) (fun _ acc=>∀ ws,acc=some ws->ws.length<=1048576) (fun _ t acc=>(.bool (settledRuns a.up a.runs (wantsFor a.name (acc.getD []) t) && r.all (settledMate w.land.places)),[])) (fun acc Z hacc=>?_) (fun j p t acc Z hp hj ht hacc hZ=>?_) none ?_ (fun ws h=>by cases h) ?_).trans (by simp[settledMate])
  ·simp only[wantsFor,settledRuns]
   cases q2:a.up
   ·rcases acc with _|ws<;>simp[head68p,c68b0,q2]
   rcases acc with _|ws
   ·by_cases q3:a.runs=[]
    ·simp[head68p,c68b0,wantV,q2,q3]
     refine (Zaa ([]:List Run) (fun _ (_:Unit)=>head68e w ml mm i) (fun _ _=>True) (fun _ _ _=>(.bool (r.all (settledMate w.land.places)),[])) (fun acc V _=>?_) (fun jj b u acc V hb _ _ _ _=>by simp at hb) () ?_ trivial ?_).trans (by simp[runsAre])
     ·simp[head68e,c68b1]
      exact (hY () _ trivial (by simp[head68m,hw1])).trans (by simp)
     ·simp[head68e]
     ·unfold big;simp
    ·have q4:¬ (a.runs.length=0):=fun h=>q3 (List.length_eq_zero_iff.1 h)
     simp[head68p,c68b0,wantV,q2,q3,q4]
   ·have hws:=hacc ws rfl
    by_cases q3:a.runs.length=ws.length
    case neg =>
     have q4:¬ ((a.runs.length:Int)=ws.length):=by omega
     simp[head68p,c68b0,wantV,q2,q3,q4]
    simp[head68p,c68b0,wantV,q2,q3]
    refine (Zaa a.runs (fun j (_:Unit)=>head68r w ml mm i a ws j) (fun _ _=>True) (fun j t _=>(.bool (runsAre t (ws.drop j) && r.all (settledMate w.land.places)),[])) (fun acc V _=>?_) (fun jj b u acc V hb hjj hu _ hV=>?_) () ?_ trivial ?_).trans (by simp)
    ·simp[head68r,c68b1,runsAre]
     exact (hY () _ trivial (by simp[head68m,hw1])).trans (by simp)
    ·have hwj:IntKind.i64.wrap ((jj:Int)+1)=(jj:Int)+1:=i64w (by omega) (by omega)
     obtain⟨_,hgb⟩:=Xa.1 hb
     have hj2:jj<ws.length:=by omega
     have hd:ws.drop jj=ws[jj]::ws.drop (jj+1):=Xah hj2
     rw[hd]
     simp only[runsAre]
     simp[head68r,c68b1,hjj,hgb,hj2]
     cases q5:eqWant b.want ws[jj]<;>simp
     by_cases q6:b.state=4<;>simp[q6]
     exact (hV () _ trivial (by simp[head68r,hwj])).trans (by simp)
    ·simp[head68r,q3]
    ·unfold big;omega
  ·have hwj:IntKind.i64.wrap ((j:Int)+1)=(j:Int)+1:=i64w (by omega) (by omega)
   obtain⟨_,hgp⟩:=Xa.1 hp
   have hpw:=(hw.land.each p (Xe hp)).wants
   simp only[wantsFor]
   rcases acc with _|ws
   all_goals
    simp[head68p,c68b0,wantV,hj,hgp]
    cases q2:sEq p.berth a.name<;>simp
    ·refine (hZ _ _ hacc (by simp[head68p,hwj,wantV])).trans (by simp)
    ·refine (hZ (some p.wants) _ (fun ws h=>by cases h;exact hpw) (by simp[head68p,hwj,wantV])).trans (by simp)
  ·simp[head68p,wantV]
  ·unfold big;omega
 ·simp[head68m]
 ·unfold big;omega
theorem Zgc:∀ (rs:List Run) (ws:List Want),rs.length=ws.length->(rs.all (fun r=>r.state == 4) && sameGo (rs.map Run.want) ws)=runsAre rs ws
 | [],[],_=>rfl
 | r::rs,w::ws,h=>by
  have ih:=Zgc rs ws (by simpa using h)
  simp only[List.all_cons,Xx,sameGo,runsAre,<- ih]
  cases r.state == 4<;>cases eqWant r.want w<;>cases rs.all (fun r=>r.state == 4)<;>rfl
 | [],_::_,h=>by simp at h
 | _::_,[],h=>by simp at h
theorem Zk5(up:Bool)(rs:List Run)(ws:List Want):(rs.all (fun r=>r.state == 4) && (up && sameWants (rs.map Run.want) ws))=settledRuns up rs ws:=by
 unfold sameWants settledRuns
 rw[Xb1]
 by_cases h:rs.length=ws.length
 ·rw[<- Zgc rs ws h]
  cases up<;>simp[h]
 ·cases up<;>simp[h]
def head69m(w:Wld)(ml mm:Md)(i:Nat):St:=hd [(1,.ptr 0 0 0),(3,.int .i64 i)] [.box (w.cc .bor ml mm)] 0
def wantV2(acc:Option (List Want)):AV:=match acc with
 | none=>.ref 2
 | some ws=>.sl .bor 7 (ws.map Want.c)
def wantH2(acc:Option (List Want)):List AO:=match acc with
 | none=>[.arr 7 []]
 | some _=>[]
def haveV(acc:Option (List Want)):AV:=match acc with
 | none=>.ref 3
 | some _=>.ref 2
def head69p(w:Wld)(ml mm:Md)(i:Nat)(m:Mate)(j:Nat)(acc:Option (List Want)):St:=hd [(1,.ptr 0 0 0),(3,.int .i64 i),(4,.ptr 1 0 0),(5,wantV2 acc),(6,.int .i64 j)] (.box (w.cc .bor ml mm)::.box (m.c .bor)::wantH2 acc) 0
def head69r(w:Wld)(ml mm:Md)(i:Nat)(m:Mate)(j:Nat)(acc:Option (List Want))(hv:List Want):St:=hd [(1,.ptr 0 0 0),(3,.int .i64 i),(4,.ptr 1 0 0),(5,wantV2 acc),(7,haveV acc),(8,.int .i64 j)] (.box (w.cc .bor ml mm)::.box (m.c .bor)::(wantH2 acc++[.arr 7 (hv.map Want.c)])) 0
theorem law69c(w:Wld)(ml mm:Md)(hw:w.small):F 69 [.agg (w.cc .bor ml mm)] []=some (.bool (settled w),[]):=by
 refine Zae fn69 rfl ?_
 have w1:=law58c w ml mm hw
 simp only[Wld.cc,Wld.c]at w1
 have hl:=hw.mates
 have hlp:=hw.land.places
 simp only[settled]
 simp[c69,w1]
 cases q1:worldOk w<;>simp
 refine (Zaa w.mates (fun i (_:Unit)=>head69m w ml mm i) (fun _ _=>True) (fun _ r _=>(.bool (r.all (settledMate w.land.places)),[])) (fun acc Y _=>?_) (fun i a r acc Y ha hi hr _ hY=>?_) () ?_ trivial ?_).trans (by simp)
 ·simp[head69m,c69b2]
 ·have hw1:IntKind.i64.wrap ((i:Int)+1)=(i:Int)+1:=i64w (by omega) (by omega)
  obtain⟨_,hg⟩:=Xa.1 ha
  have hrs:=(hw.each a (Xe ha)).runs
  simp only[List.all_cons]
  simp[head69m,c69b2,hg,hi]
  refine (Zaa w.land.places (fun j (acc:Option (List Want))=>head69p w ml mm i a j acc) (fun _ acc=>∀ ws,acc=some ws->ws.length<=1048576) (fun _ t acc=>(.bool (settledRuns a.up a.runs (wantsFor a.name (acc.getD []) t) && r.all (settledMate w.land.places)),[])) (fun acc Z hacc=>?_) (fun j p t acc Z hp hj ht hacc hZ=>?_) none ?_ (fun ws h=>by cases h) ?_).trans (by simp[settledMate])
  ·simp only[wantsFor]
   rw[<- Zk5]
   have hws:(acc.getD []).length<=1048576:=by
    rcases acc with _|ws
    ·simp
    ·exact hacc ws rfl
   rcases acc with _|ws
   ·simp only[Option.getD_none]at hws ⊢
    simp[head69p,c69b0,wantV2,wantH2]
    refine (Zaa a.runs (fun j (hv:List Want)=>head69r w ml mm i a j none hv) (fun j hv=>hv.length=j) (fun _ t hv=>(.bool ((t.all (fun r=>r.state == 4) && (a.up && sameWants (hv++t.map Run.want) [])) && r.all (settledMate w.land.places)),[])) (fun hv V hhv=>?_) (fun jj b u hv V hb hjj hu hhv hV=>?_) [] ?_ rfl ?_).trans (by simp)
    ·have w138:=law138 hv [] (by omega) hws
     try simp only[Xt]at w138
     simp[head69r,c69b1,wantV2,wantH2,haveV,w138]
     cases q2:a.up<;>simp
     cases q3:sameWants hv []<;>simp
     exact (hY () _ trivial (by simp[head69m,hw1])).trans (by simp)
    ·have hwj:IntKind.i64.wrap ((jj:Int)+1)=(jj:Int)+1:=i64w (by omega) (by omega)
     obtain⟨_,hgb⟩:=Xa.1 hb
     have hb3:(hv.length+1)*72<=140737488355328:=by omega
     have hb4:hv.length+1<=140737488355328:=by omega
     simp only[List.all_cons]
     simp[head69r,c69b1,wantV2,wantH2,haveV,hjj,hgb,takeRows,rowsPlain,hb3,hb4]
     by_cases q6:b.state=4<;>simp[q6]
     exact (hV (hv++[b.want]) _ (by simp[hhv]) (by simp[head69r,hwj,wantV2,wantH2,haveV])).trans (by simp)
    ·simp[head69r,wantV2,wantH2,haveV]
    ·unfold big;omega
   ·simp only[Xbb]at hws ⊢
    simp[head69p,c69b0,wantV2,wantH2]
    refine (Zaa a.runs (fun j (hv:List Want)=>head69r w ml mm i a j (some ws) hv) (fun j hv=>hv.length=j) (fun _ t hv=>(.bool ((t.all (fun r=>r.state == 4) && (a.up && sameWants (hv++t.map Run.want) ws)) && r.all (settledMate w.land.places)),[])) (fun hv V hhv=>?_) (fun jj b u hv V hb hjj hu hhv hV=>?_) [] ?_ rfl ?_).trans (by simp)
    ·have w138:=law138 hv ws (by omega) hws
     try simp only[Xt]at w138
     simp[head69r,c69b1,wantV2,wantH2,haveV,w138]
     cases q2:a.up<;>simp
     cases q3:sameWants hv ws<;>simp
     exact (hY () _ trivial (by simp[head69m,hw1])).trans (by simp)
    ·have hwj:IntKind.i64.wrap ((jj:Int)+1)=(jj:Int)+1:=i64w (by omega) (by omega)
     obtain⟨_,hgb⟩:=Xa.1 hb
     have hb3:(hv.length+1)*72<=140737488355328:=by omega
     have hb4:hv.length+1<=140737488355328:=by omega
     simp only[List.all_cons]
     simp[head69r,c69b1,wantV2,wantH2,haveV,hjj,hgb,takeRows,rowsPlain,hb3,hb4]
     by_cases q6:b.state=4<;>simp[q6]
     exact (hV (hv++[b.want]) _ (by simp[hhv]) (by simp[head69r,hwj,wantV2,wantH2,haveV])).trans (by simp)
    ·simp[head69r,wantV2,wantH2,haveV]
    ·unfold big;omega
  ·have hwj:IntKind.i64.wrap ((j:Int)+1)=(j:Int)+1:=i64w (by omega) (by omega)
   obtain⟨_,hgp⟩:=Xa.1 hp
   have hpw:=(hw.land.each p (Xe hp)).wants
   simp only[wantsFor]
   rcases acc with _|ws
   all_goals
    simp[head69p,c69b0,wantV2,wantH2,hj,hgp]
    cases q2:sEq p.berth a.name<;>simp
    ·refine (hZ _ _ hacc (by simp[head69p,hwj,wantV2,wantH2])).trans (by simp)
    ·refine (hZ (some p.wants) _ (fun ws h=>by cases h;exact hpw) (by simp[head69p,hwj,wantV2,wantH2])).trans (by simp)
  ·simp[head69p,wantV2,wantH2]
  ·unfold big;omega
 ·simp[head69m]
 ·unfold big;omega
def Run.zero:Run:=⟨⟨⟨#[]⟩,0,⟨#[]⟩,0,0,0,0⟩,0,0,0,0⟩
def beginR(r:Run)(clock:Int):Run:=if leased r clock then { r with state:=3,left:=r.want.start } else { r with state:=2,left:=0 }
def fallsUp(n:Int):Int:=if n<1000 then n+1 else n
def leftOf(f:Int):Int:=if 4<=f then 16 else if f<=0 then 1 else if f=1 then 2 else if f=2 then 4 else 8
def dies(r:Run):Run:={ r with falls:=fallsUp r.falls,state:=5,left:=leftOf (fallsUp r.falls) }
def mateLive(r:Run)(w:Want)(wanted:Bool)(clock:Int):Option Run :=
 if (!wanted || !eqWant w r.want) && r.state != 6 then (if alive r then some { r with state:=6,left:=r.want.grace } else none)
 else if r.state≠2/\1<r.left then some { r with left:=r.left-1 }
 else if r.state=3 then some { r with state:=4,left:=r.want.dies }
 else if r.state=4 then (if r.left=1 then some (dies r) else some r)
 else if r.state=6 then none
 else if r.state=1\/r.state=2\/r.state=5 then some (beginR r clock)
 else some r
def liveRes(r:Run)(w:Want)(wanted:Bool)(clock:Int):AV:=.tup [.agg ((mateLive r w wanted clock).getD .zero).c,.bool (mateLive r w wanted clock).isSome]
theorem law92(r:Run)(clock:Int):F 92 [.agg r.c,.int .i64 clock] []=some (.agg (beginR r clock).c,[]):=by
 refine Zae fn92 rfl ?_
 simp[c92,beginR,leased,leasedB]
 cases q1:sEq r.want.hold ⟨#[]⟩<;>simp
 by_cases q2:IntKind.i64.wrap (clock+4)<=r.til
 ·simp[q2]
 ·simp[q2]
theorem law94(r:Run)(clock:Int):F 94 [.agg r.c,.int .i64 clock] []=some (.agg (beginR r clock).c,[]):=by
 refine Zae fn94 rfl ?_
 simp[c94,beginR,leased]
 by_cases q1:leasedB r.want.hold r.til clock=true<;>simp[q1]
def head93(r:Run)(f:Int)(i:Nat):St:=hd [(1,.ptr 0 0 0),(2,.ptr 1 0 0),(3,.int .i64 i)] [.box ({ r with state:=5,left:=2 ^ i,falls:=f }:Run).c,.box Run.zero.c] 0
theorem Zhc{f:Int}{i:Nat}(hi:i<=4)(h1:(i:Int)<=f\/i=0)(h2:¬ ((i:Int)<f)\/i=4):(2:Int) ^ i=leftOf f:=by
 unfold leftOf
 rcases i with _|_|_|_|_|i
 ·have:f<=0:=by omega
  rw[Xu (by omega),Xr this];rfl
 ·have:f=1:=by omega
  subst this;rfl
 ·have:f=2:=by omega
  subst this;rfl
 ·have:f=3:=by omega
  subst this;rfl
 ·rw[Xr (by omega)];rfl
 ·omega
theorem law93(r:Run)(hr:I64 r.falls):F 93 [.agg r.c] []=some (.agg (dies r).c,[]):=by
 refine Zae fn93 rfl ?_
 have hu:r.falls<1000->IntKind.i64.wrap (r.falls+1)=r.falls+1:=fun h=>i64w (by have:=hr.1;omega) (by omega)
 have key:∀ (f:Int) (s:St),s.norm [1,2,3]=head93 r f 0 ->
   fin [CRes.cell 2 11 true] 0 (X F [.code (.loop [1,2,3] c93b0),.blk 0,.code (jR [xf 28 1 11,xg 2 28 11] [2] .ret)] (.normal,s)) =
    some (.agg ({ r with state:=5,left:=leftOf f,falls:=f }:Run).c,[]):=by
  intro f s hs
  refine Zaz (K:=fin [CRes.cell 2 11 true] 0) (σ:=Nat) (fun i=>head93 r f i) (fun i=>i<=4/\((i:Int)<=f\/i=0)) (fun i=>4-i) (fun _=>(AV.agg ({ r with state:=5,left:=leftOf f,falls:=f }:Run).c,([]:List (Option AO)))) (fun i Y hinv hY=>?_) 0 hs ⟨by omega,.inr rfl⟩ (by unfold big;omega)
  obtain⟨h1,h2⟩:=hinv
  have hw:IntKind.i64.wrap ((i:Int)+1)=(i:Int)+1:=i64w (by omega) (by omega)
  have h2w:IntKind.i64.wrap (2*2 ^ i)=2 ^ (i+1):=by
   rcases i with _|_|_|_|_|i
   ·rfl
   ·rfl
   ·rfl
   ·rfl
   ·rfl
   ·omega
  have h16:((2:Int) ^ i<16)↔i<4:=by
   rcases i with _|_|_|_|_|i
   ·decide
   ·decide
   ·decide
   ·decide
   ·decide
   ·omega
  by_cases q1:(i:Int)<f
  ·by_cases q2:i<4
   ·simp[head93,c93b0,q1,q2,h16,Run.zero,h2w]
    refine hY (i+1) _ ⟨by omega,.inl (by push_cast;omega)⟩ (by omega) ?_
    simp[head93,hw,Run.zero]
   ·have hst:=Zhc h1 h2 (.inr (by omega))
    have h17:¬ (leftOf f<16):=by rw[<- hst,h16];exact q2
    simp[head93,c93b0,q1,q2,h17,Run.zero,hst]
  ·have hst:=Zhc h1 h2 (.inl q1)
   simp[head93,c93b0,q1,h16,Run.zero,hst]
 unfold dies fallsUp
 by_cases q:r.falls<1000
 ·simp[c93,q,hu q]
  refine (key (r.falls+1) _ ?_).trans ?_
  ·simp[head93,Run.zero]
  ·simp
 ·simp[c93,q]
  refine (key r.falls _ ?_).trans ?_
  ·simp[head93,Run.zero]
  ·simp
theorem Zsn{f:Int}(h:f<4):IntKind.i64.wrap (2 ^ min (if f<0 then (0:Int) else f).toNat IntKind.i64.bits)=leftOf f:=by
 unfold leftOf
 rw[Xu (show ¬ 4<=f by omega)]
 by_cases h0:f<=0
 ·rw[Xr (show f<=0 from h0)]
  have:(if f<0 then (0:Int) else f)=0:=by split<;>omega
  rw[this];rfl
 rw[Xu (show ¬ f<=0 from h0),Xu (show ¬ f<0 by omega)]
 by_cases h1:f=1
 ·subst h1;rfl
 by_cases h2:f=2
 ·subst h2;rfl
 have h3:f=3:=by omega
 subst h3;rfl
theorem law14(r:Run)(w:Want)(b:Bool)(clock:Int)(hf:I64 r.falls)(hl:I64 r.left):F 14 [.agg r.c,.agg w.c,.bool b,.int .i64 clock] []=some (liveRes r w b clock,[]):=by
 refine Zae fn14 rfl ?_
 have w92:=law92 r clock
 have hw:1<r.left->IntKind.i64.wrap (r.left-1)=r.left-1:=fun h=>i64w (by omega) (by have:=hl.2;omega)
 have hu:r.falls<1000->IntKind.i64.wrap (r.falls+1)=r.falls+1:=fun h=>i64w (by have:=hf.1;omega) (by omega)
 simp only[Run.c]at w92
 unfold liveRes mateLive
 by_cases hu1:b=true/\eqWant w r.want=true
 ·obtain⟨rfl,he⟩:=hu1
  by_cases sl:1<r.left
  ·have sl':¬ r.left<=1:=by omega
   have hw':=hw sl
   by_cases s1:r.state=1
   ·simp[c14,he,s1,sl,sl',hw']
   by_cases s2:r.state=2
   ·rw[s2]at w92
    simp[c14,he,s2,sl,sl',hw',w92]
   by_cases s3:r.state=3
   ·simp[c14,he,s3,sl,sl',hw']
   by_cases s4:r.state=4
   ·simp[c14,he,s4,sl,sl',hw']
   by_cases s5:r.state=5
   ·simp[c14,he,s5,sl,sl',hw']
   by_cases s6:r.state=6
   ·simp[c14,he,s6,sl,sl',hw']
   ·simp[c14,he,s1,s2,s3,s4,s5,s6,sl,sl',hw']
  ·have sl':r.left<=1:=by omega
   by_cases s1:r.state=1
   ·rw[s1]at w92
    simp[c14,he,s1,sl,sl',w92]
   by_cases s2:r.state=2
   ·rw[s2]at w92
    simp[c14,he,s2,sl,sl',w92]
   by_cases s3:r.state=3
   ·simp[c14,he,s3,sl,sl']
   by_cases s4:r.state=4
   ·by_cases sa:r.left=1
    ·have hf2:=hf.1
     have bk:sEq (bkey false) (bkey true)=false:=by
      rw[<- Xb2,Zac]
      intro e
      have:=Xct (fun x=>x.data.toList) e
      simp[bkey]at this
     by_cases q:r.falls<1000
     ·have hq:=hu q
      by_cases q4:r.falls+1<4
      ·have q4':¬ (4<=r.falls+1):=by omega
       have hsh:=Zsn q4
       have hnn:¬ ((if r.falls+1<0 then 0 else r.falls+1)<0):=by split<;>omega
       simp[c14,he,s4,sl,sl',sa,q,hq,q4,mapGet,mapPut,noKeys,dies,fallsUp,hnn,hsh]
      ·have q4':4<=r.falls+1:=by omega
       simp[c14,he,s4,sl,sl',sa,q,hq,q4,q4',mapGet,mapPut,noKeys,dies,fallsUp,leftOf]
     ·have hq:IntKind.i64.wrap r.falls=r.falls:=i64w hf.1 hf.2
      have q4:¬ r.falls<4:=by omega
      have q4':4<=r.falls:=by omega
      simp[c14,he,s4,sl,sl',sa,q,hq,q4,q4',mapGet,mapPut,noKeys,bk,dies,fallsUp,leftOf]
    ·simp[c14,he,s4,sl,sl',sa]
   by_cases s5:r.state=5
   ·rw[s5]at w92
    simp[c14,he,s5,sl,sl',w92]
   by_cases s6:r.state=6
   ·simp[c14,he,s6,sl,sl',Run.zero]
   ·simp[c14,he,s1,s2,s3,s4,s5,s6,sl,sl']
 ·have hun:(!b || !eqWant w r.want)=true:=by
   cases b<;>simp at hu1 ⊢
   exact hu1
  by_cases s6:r.state=6
  ·by_cases sl:1<r.left
   ·have sl':¬ r.left<=1:=by omega
    have hw':=hw sl
    cases b
    ·simp[c14,s6,sl,sl',hw']
    ·simp only[Xbz,Xbk,Xv]at hun
     simp[c14,s6,sl,sl',hw',hun]
   ·have sl':r.left<=1:=by omega
    cases b
    ·simp[c14,s6,sl,sl',Run.zero]
    ·simp only[Xbz,Xbk,Xv]at hun
     simp[c14,s6,sl,sl',hun,Run.zero]
  ·cases q:aliveS r.state
   ·cases b
    ·simp[c14,s6,alive,q,Run.zero]
    ·simp only[Xbz,Xbk,Xv]at hun
     simp[c14,s6,alive,q,hun,Run.zero]
   ·cases b
    ·simp[c14,s6,alive,q]
    ·simp only[Xbz,Xbk,Xv]at hun
     simp[c14,s6,alive,q,hun]
theorem law15(r:Run)(w:Want)(b:Bool)(clock:Int)(hf:I64 r.falls)(hl:I64 r.left):F 15 [.agg r.c,.agg w.c,.bool b,.int .i64 clock] []=some (liveRes r w b clock,[]):=by
 refine Zae fn15 rfl ?_
 have w94:=law94 r clock
 have w93:=law93 r hf
 have hw:1<r.left->IntKind.i64.wrap (r.left-1)=r.left-1:=fun h=>i64w (by omega) (by have:=hl.2;omega)
 simp only[Run.c]at w94 w93
 unfold liveRes mateLive
 by_cases hu1:b=true/\eqWant w r.want=true
 ·obtain⟨rfl,he⟩:=hu1
  by_cases s2:r.state=2
  ·rw[s2]at w94
   simp[c15,he,s2,w94]
  by_cases sl:1<r.left
  ·have hw':=hw sl
   simp[c15,he,s2,sl,hw']
  ·by_cases s1:r.state=1
   ·rw[s1]at w94
    simp[c15,he,s1,sl,w94]
   by_cases s3:r.state=3
   ·simp[c15,he,s3,sl]
   by_cases s4:r.state=4
   ·by_cases sa:r.left=1
    ·rw[s4,sa]at w93
     simp[c15,he,s4,sl,sa,w93]
    ·simp[c15,he,s4,sl,sa]
   by_cases s5:r.state=5
   ·rw[s5]at w94
    simp[c15,he,s5,sl,w94]
   by_cases s6:r.state=6
   ·simp[c15,he,s6,sl,Run.zero]
   ·simp[c15,he,s1,s2,s3,s4,s5,s6,sl]
 ·have hun:(!b || !eqWant w r.want)=true:=by
   cases b<;>simp at hu1 ⊢
   exact hu1
  by_cases s6:r.state=6
  ·by_cases sl:1<r.left
   ·have hw':=hw sl
    cases b
    ·simp[c15,s6,sl,hw']
    ·simp only[Xbz,Xbk,Xv]at hun
     simp[c15,s6,sl,hw',hun]
   ·cases b
    ·simp[c15,s6,sl,Run.zero]
    ·simp only[Xbz,Xbk,Xv]at hun
     simp[c15,s6,sl,hun,Run.zero]
  ·cases q:aliveS r.state
   ·cases b
    ·simp[c15,s6,alive,q,Run.zero]
    ·simp only[Xbz,Xbk,Xv]at hun
     simp[c15,s6,alive,q,hun,Run.zero]
   ·cases b
    ·simp[c15,s6,alive,q]
    ·simp only[Xbz,Xbk,Xv]at hun
     simp[c15,s6,alive,q,hun]
def selT(l:List T)(i:Int):T:=l.getD i.toNat ⟨#[]⟩
def selI(l:List Int)(i:Int):Int:=l.getD i.toNat 0
theorem Za1{i:Int}{n:Nat}(h0:0<=i)(h:i<n):∃ k:Nat,i=k/\k<n:=⟨i.toNat,by omega,by omega⟩
@[simp] theorem selT2(a b:T){i:Int}(h:i.toNat < [[AV.str a],[.str b]].length):[[AV.str a],[.str b]][i.toNat]'h=[.str (selT [a,b] i)]:=by
 unfold selT
 generalize i.toNat=k at h ⊢
 rcases k with _|_|k<;>first|rfl|(simp at h;omega)
@[simp] theorem selI2(a b:Int){i:Int}(h:i.toNat < [[AV.int .i64 a],[.int .i64 b]].length):[[AV.int .i64 a],[.int .i64 b]][i.toNat]'h=[.int .i64 (selI [a,b] i)]:=by
 unfold selI
 generalize i.toNat=k at h ⊢
 rcases k with _|_|k<;>first|rfl|(simp at h;omega)
@[simp] theorem selT3(a b c:T){i:Int}(h:i.toNat < [[AV.str a],[.str b],[.str c]].length):[[AV.str a],[.str b],[.str c]][i.toNat]'h=[.str (selT [a,b,c] i)]:=by
 unfold selT
 generalize i.toNat=k at h ⊢
 rcases k with _|_|_|k<;>first|rfl|(simp at h;omega)
@[simp] theorem selI3(a b c:Int){i:Int}(h:i.toNat < [[AV.int .i64 a],[.int .i64 b],[.int .i64 c]].length):[[AV.int .i64 a],[.int .i64 b],[.int .i64 c]][i.toNat]'h=[.int .i64 (selI [a,b,c] i)]:=by
 unfold selI
 generalize i.toNat=k at h ⊢
 rcases k with _|_|_|k<;>first|rfl|(simp at h;omega)
@[simp] theorem selT4(a b c d:T){i:Int}(h:i.toNat < [[AV.str a],[.str b],[.str c],[.str d]].length):[[AV.str a],[.str b],[.str c],[.str d]][i.toNat]'h=[.str (selT [a,b,c,d] i)]:=by
 unfold selT
 generalize i.toNat=k at h ⊢
 rcases k with _|_|_|_|k<;>first|rfl|(simp at h;omega)
@[simp] theorem selI4(a b c d:Int){i:Int}(h:i.toNat < [[AV.int .i64 a],[.int .i64 b],[.int .i64 c],[.int .i64 d]].length):[[AV.int .i64 a],[.int .i64 b],[.int .i64 c],[.int .i64 d]][i.toNat]'h=[.int .i64 (selI [a,b,c,d] i)]:=by
 unfold selI
 generalize i.toNat=k at h ⊢
 rcases k with _|_|_|_|k<;>first|rfl|(simp at h;omega)
@[simp] theorem selT5(a b c d e:T){i:Int}(h:i.toNat < [[AV.str a],[.str b],[.str c],[.str d],[.str e]].length):[[AV.str a],[.str b],[.str c],[.str d],[.str e]][i.toNat]'h=[.str (selT [a,b,c,d,e] i)]:=by
 unfold selT
 generalize i.toNat=k at h ⊢
 rcases k with _|_|_|_|_|k<;>first|rfl|(simp at h;omega)
@[simp] theorem selI5(a b c d e:Int){i:Int}(h:i.toNat < [[AV.int .i64 a],[.int .i64 b],[.int .i64 c],[.int .i64 d],[.int .i64 e]].length):[[AV.int .i64 a],[.int .i64 b],[.int .i64 c],[.int .i64 d],[.int .i64 e]][i.toNat]'h=[.int .i64 (selI [a,b,c,d,e] i)]:=by
 unfold selI
 generalize i.toNat=k at h ⊢
 rcases k with _|_|_|_|_|k<;>first|rfl|(simp at h;omega)
@[simp] theorem selT6(a b c d e f:T){i:Int}(h:i.toNat < [[AV.str a],[.str b],[.str c],[.str d],[.str e],[.str f]].length):[[AV.str a],[.str b],[.str c],[.str d],[.str e],[.str f]][i.toNat]'h=[.str (selT [a,b,c,d,e,f] i)]:=by
 unfold selT
 generalize i.toNat=k at h ⊢
 rcases k with _|_|_|_|_|_|k<;>first|rfl|(simp at h;omega)
@[simp] theorem selI6(a b c d e f:Int){i:Int}(h:i.toNat < [[AV.int .i64 a],[.int .i64 b],[.int .i64 c],[.int .i64 d],[.int .i64 e],[.int .i64 f]].length):[[AV.int .i64 a],[.int .i64 b],[.int .i64 c],[.int .i64 d],[.int .i64 e],[.int .i64 f]][i.toNat]'h=[.int .i64 (selI [a,b,c,d,e,f] i)]:=by
 unfold selI
 generalize i.toNat=k at h ⊢
 rcases k with _|_|_|_|_|_|k<;>first|rfl|(simp at h;omega)
@[simp] theorem selT7(a b c d e f g:T){i:Int}(h:i.toNat < [[AV.str a],[.str b],[.str c],[.str d],[.str e],[.str f],[.str g]].length):[[AV.str a],[.str b],[.str c],[.str d],[.str e],[.str f],[.str g]][i.toNat]'h=[.str (selT [a,b,c,d,e,f,g] i)]:=by
 unfold selT
 generalize i.toNat=k at h ⊢
 rcases k with _|_|_|_|_|_|_|k<;>first|rfl|(simp at h;omega)
@[simp] theorem selI7(a b c d e f g:Int){i:Int}(h:i.toNat < [[AV.int .i64 a],[.int .i64 b],[.int .i64 c],[.int .i64 d],[.int .i64 e],[.int .i64 f],[.int .i64 g]].length):[[AV.int .i64 a],[.int .i64 b],[.int .i64 c],[.int .i64 d],[.int .i64 e],[.int .i64 f],[.int .i64 g]][i.toNat]'h=[.int .i64 (selI [a,b,c,d,e,f,g] i)]:=by
 unfold selI
 generalize i.toNat=k at h ⊢
 rcases k with _|_|_|_|_|_|_|k<;>first|rfl|(simp at h;omega)
@[simp] theorem selT8(a b c d e f g u:T){i:Int}(h:i.toNat < [[AV.str a],[.str b],[.str c],[.str d],[.str e],[.str f],[.str g],[.str u]].length):[[AV.str a],[.str b],[.str c],[.str d],[.str e],[.str f],[.str g],[.str u]][i.toNat]'h=[.str (selT [a,b,c,d,e,f,g,u] i)]:=by
 unfold selT
 generalize i.toNat=k at h ⊢
 rcases k with _|_|_|_|_|_|_|_|k<;>first|rfl|(simp at h;omega)
@[simp] theorem selI8(a b c d e f g u:Int){i:Int}(h:i.toNat < [[AV.int .i64 a],[.int .i64 b],[.int .i64 c],[.int .i64 d],[.int .i64 e],[.int .i64 f],[.int .i64 g],[.int .i64 u]].length):[[AV.int .i64 a],[.int .i64 b],[.int .i64 c],[.int .i64 d],[.int .i64 e],[.int .i64 f],[.int .i64 g],[.int .i64 u]][i.toNat]'h=[.int .i64 (selI [a,b,c,d,e,f,g,u] i)]:=by
 unfold selI
 generalize i.toNat=k at h ⊢
 rcases k with _|_|_|_|_|_|_|_|k<;>first|rfl|(simp at h;omega)
noncomputable def drawWant(bs:List Int)(p:Int)(copy:T):Want :=
 ⟨copy,1+pickV bs p 3,selT [⟨#[]⟩,⟨#[118,111,108]⟩,⟨#[105,112]⟩,⟨#[118,111,108,50]⟩] (pickV bs (p+1) 4),pickV bs (p+2) 4,pickV bs (p+3) 3,selI [0,0,0,1,3,8] (pickV bs (p+4) 6),pickV bs (p+5) 4⟩
theorem law87(bs:List Int)(p:Int)(copy:T)(hb:Code bs)(h0:0<=p)(hp:p<=100000000000):F 87 [.ptr 0 0 0,.str copy] [rdBox bs p]=some (.agg (drawWant bs p copy).c,[some (rdBox bs (p+6))]):=by
 refine Zae fn87 rfl ?_
 obtain⟨a1,a2,a3⟩:=law89 bs p 3 hb h0 (by omega) (by omega)
 obtain⟨b1,b2,b3⟩:=law89 bs (p+1) 4 hb (by omega) (by omega) (by omega)
 obtain⟨c1,c2,c3⟩:=law89 bs (p+2) 4 hb (by omega) (by omega) (by omega)
 obtain⟨d1,d2,d3⟩:=law89 bs (p+3) 3 hb (by omega) (by omega) (by omega)
 obtain⟨e1,e2,e3⟩:=law89 bs (p+4) 6 hb (by omega) (by omega) (by omega)
 obtain⟨f1,f2,f3⟩:=law89 bs (p+5) 4 hb (by omega) (by omega) (by omega)
 rw[show p+1+1=p+2 by omega]at b1
 rw[show p+2+1=p+3 by omega]at c1
 rw[show p+3+1=p+4 by omega]at d1
 rw[show p+4+1=p+5 by omega]at e1
 rw[show p+5+1=p+6 by omega]at f1
 have hu:IntKind.i64.wrap (1+pickV bs p 3)=1+pickV bs p 3:=i64w (by omega) (by have:=a3 (by omega);omega)
 have b4:=b3 (by omega)
 have e4:=e3 (by omega)
 simp only[rdBox]at a1 b1 c1 d1 e1 f1 ⊢
 simp[c87,a1,b1,c1,d1,e1,f1,b2,b4,e2,e4,hu,drawWant]
/-! ### Drawn values are of moderate size -/
def tame(n:Int):Prop := -100000000<=n/\n<=100000000
def inS(h:T):Bool:=decide (h.size<=1000)
theorem Zd6{h:T}(hx:h∈[(⟨#[]⟩:T),⟨#[118,111,108]⟩,⟨#[105,112]⟩,⟨#[118,111,108,50]⟩,⟨#[122,122]⟩,⟨#[42]⟩,⟨#[120,32,121]⟩]):inS h=true:=by
 simp only[Xl,Xav,Xcb]at hx
 rcases hx with rfl|rfl|rfl|rfl|rfl|rfl|rfl<;>rfl
theorem Zgo{l:List T}(h:∀ x∈l,inS x=true)(i:Int):inS (selT l i)=true:=by
 unfold selT
 rw[List.getD_eq_getElem?_getD]
 cases e:l[i.toNat]? with
 | none=>exact Zd6 (by simp)
 | some x=>exact h x (Xe e)
structure Want.tame(w:Want):Prop where
 copy:w.copy.size<=1000
 version:YtgdfelbedghhnaaGreatDoor.tame w.version
 hold:inS w.hold=true
 pull:YtgdfelbedghhnaaGreatDoor.tame w.pull
 start:YtgdfelbedghhnaaGreatDoor.tame w.start
 dies:YtgdfelbedghhnaaGreatDoor.tame w.dies
 grace:YtgdfelbedghhnaaGreatDoor.tame w.grace
structure Run.tame(r:Run):Prop where
 want:r.want.tame
 state:YtgdfelbedghhnaaGreatDoor.tame r.state
 left:YtgdfelbedghhnaaGreatDoor.tame r.left
 falls:YtgdfelbedghhnaaGreatDoor.tame r.falls
 til:YtgdfelbedghhnaaGreatDoor.tame r.til
theorem Zmk{l:List T}{n:Nat}(h:∀ x∈l,x.size<=n)(i:Int):(selT l i).size<=n:=by
 unfold selT
 rw[List.getD_eq_getElem?_getD]
 cases e:l[i.toNat]? with
 | none=>exact Xp _
 | some x=>exact h x (Xe e)
theorem Za0{l:List Int}(h:∀ x∈l,tame x)(i:Int):tame (selI l i):=by
 unfold selI
 rw[List.getD_eq_getElem?_getD]
 cases e:l[i.toNat]? with
 | none=>exact⟨by simp,by simp⟩
 | some x=>exact h x (Xe e)
theorem Zcp{x n:Int}(h0:0<=x)(h:x<n)(hn:n<=100000000):tame x:=⟨by omega,by omega⟩
theorem Zjk{bs:List Int}{p:Int}{copy:T}(hb:Code bs)(h0:0<=p)(hp:p<=100000000000)(hc:copy.size<=1000):(drawWant bs p copy).tame:=by
 obtain⟨_,a2,a3⟩:=law89 bs p 3 hb h0 (by omega) (by omega)
 obtain⟨_,c2,c3⟩:=law89 bs (p+2) 4 hb (by omega) (by omega) (by omega)
 obtain⟨_,d2,d3⟩:=law89 bs (p+3) 3 hb (by omega) (by omega) (by omega)
 obtain⟨_,f2,f3⟩:=law89 bs (p+5) 4 hb (by omega) (by omega) (by omega)
 have a4:=a3 (by omega)
 have c4:=c3 (by omega)
 have d4:=d3 (by omega)
 have f4:=f3 (by omega)
 refine⟨hc,⟨by simp only[drawWant];omega,by simp only[drawWant];omega⟩,Zgo (fun x hx=>Zd6 (by simp at hx ⊢;rcases hx with rfl|rfl|rfl|rfl<;>simp)) _,Zcp c2 c4 (by omega),Zcp d2 d4 (by omega),Za0 (by simp[tame]) _,Zcp f2 f4 (by omega)⟩
/-! ### A text many times -/
def headMany(s:T)(n:Int)(out:T):St:=hd [(0,.str s),(1,.int .i64 n),(5,.str out)] [] 0
def manyGo(n:Nat)(s out:T):T:=if _h:n=0 then out else manyGo (n / 2) (s++s) (if n % 2=1 then out++s else out)
termination_by n
decreasing_by omega
theorem Zap(x y:T):(x++y).size=x.size+y.size:=ByteArray.size_append
theorem Zd9(n:Nat)(s out:T):(manyGo n s out).size=out.size+s.size*n:=by
 rw[manyGo]
 split
 ·subst_vars;simp
 ·rename_i h
  rw[Zd9 (n / 2)]
  have e:n=2*(n / 2)+n % 2:=by omega
  have h2:n % 2<2:=Nat.mod_lt _ (by omega)
  generalize n / 2=q at *
  generalize n % 2=r at *
  subst e
  rcases r with _|_|r
  ·simp[Zap]
   rw[<- Nat.mul_assoc,Nat.mul_two]
  ·simp[Zap]
   rw[Nat.mul_add,<- Nat.mul_assoc,Nat.mul_two]
   omega
  ·omega
termination_by n
decreasing_by omega
theorem law160(s:T)(n:Nat)(hs:s.size<=1000)(hn:n<=1000000):F 160 [.str s,.int .i64 n] []=some (.str (manyGo n s ⟨#[]⟩),[]):=by
 refine Zae fn160 rfl ?_
 simp[c160]
 refine (Zaz (σ:=T×Nat×T) (fun x=>headMany x.1 x.2.1 x.2.2) (fun x=>x.2.1<=1000000/\x.1.size*x.2.1+x.2.2.size<=1000000000) (fun x=>x.2.1) (fun x=>(.str (manyGo x.2.1 x.1 x.2.2),[])) (fun x Y hi hY=>?_) (s,n,⟨#[]⟩) ?_ ⟨hn,?_⟩ ?_).trans rfl
 ·obtain⟨s,n,out⟩:=x
  obtain⟨h1,h2⟩:=hi
  simp only at h1 h2 hY ⊢
  rcases Nat.eq_zero_or_pos n with rfl|hp
  ·have e:manyGo 0 s out=out:=by rw[manyGo];simp
   simp[headMany,c160b0,e]
  ·have e:manyGo n s out=manyGo (n / 2) (s++s) (if n % 2=1 then out++s else out):=by rw[manyGo,dif_neg (by omega)]
   have hq:IntKind.i64.wrap ((n:Int) / 2)=((n / 2:Nat):Int):=by rw[i64w (by omega) (by omega)];omega
   have hsn:s.size<=s.size*n:=Nat.le_mul_of_pos_right _ hp
   have g1:s.size+s.size<=9223372036854775807:=by omega
   have g2:out.size+s.size<=9223372036854775807:=by omega
   have hsz:=Zd9 n s out
   by_cases q:n % 2=1
   ·have qi:((n:Int).tmod 2=1):=by rw[Xba (by omega)];omega
    have qi2:((n:Int) % 2=1):=by omega
    simp[headMany,c160b0,hp,e,q,qi,qi2,g1,g2]
    refine hY (s++s,n / 2,out++s) _ ⟨by simp only;omega,?_⟩ (by simp only;omega) ?_
    ·simp only[Zap]
     have e2:n=2*(n / 2)+1:=by omega
     generalize n / 2=k at *
     subst e2
     have:s.size*(2*k+1)=(s.size+s.size)*k+s.size:=by rw[Nat.mul_add,<- Nat.mul_assoc,Nat.mul_two,Nat.mul_one]
     omega
    ·simp[headMany,hq]
   ·have qi:¬ ((n:Int).tmod 2=1):=by rw[Xba (by omega)];omega
    have qi2:¬ ((n:Int) % 2=1):=by omega
    simp[headMany,c160b0,hp,e,q,qi,qi2,g1]
    refine hY (s++s,n / 2,out) _ ⟨by simp only;omega,?_⟩ (by simp only;omega) ?_
    ·simp only[Zap]
     have e2:n=2*(n / 2):=by omega
     generalize n / 2=k at *
     subst e2
     have:s.size*(2*k)=(s.size+s.size)*k:=by rw[<- Nat.mul_assoc,Nat.mul_two]
     omega
    ·simp[headMany,hq]
 ·simp[headMany]
 ·have:s.size*n<=1000*1000000:=Nat.mul_le_mul hs hn
  show s.size*n+(⟨#[]⟩:T).size<=1000000000
  have h0:(⟨#[]⟩:T).size=0:=rfl
  omega
 ·unfold big;simp only;omega
theorem law144(bs:List Int)(p:Int)(w:Want)(hb:Code bs)(h0:0<=p)(hp:p<=100000000000)(hw:w.tame) :
  ∃ w' p',F 144 [.ptr 0 0 0,.agg w.c] [rdBox bs p]=some (.agg w'.c,[some (rdBox bs p')])/\p<=p'/\p'<=p+3/\Want.tame w':=by
 obtain⟨a1,a2,a3⟩:=law89 bs p 7 hb h0 (by omega) (by omega)
 obtain⟨b1,b2,b3⟩:=law89 bs (p+1) 3 hb (by omega) (by omega) (by omega)
 rw[show p+1+1=p+2 by omega]at b1
 have b4:=b3 (by omega)
 obtain⟨hw1,hw2,hw3,hw4,hw5,hw6,hw7⟩:=hw
 simp only[rdBox]at a1 b1 ⊢
 by_cases k0:pickV bs p 7=0
 ·obtain⟨c1,c2,c3⟩:=law89 bs (p+1) 2 hb (by omega) (by omega) (by omega)
  obtain⟨d1,d2,d3⟩:=law89 bs (p+2) 3 hb (by omega) (by omega) (by omega)
  rw[show p+1+1=p+2 by omega]at c1
  rw[show p+2+1=p+3 by omega]at d1
  have c4:=c3 (by omega)
  have d4:=d3 (by omega)
  obtain⟨n,hn,hn2⟩:=Za1 (i:=20+pickV bs (p+1) 2) (n:=100) (by omega) (by omega)
  have hu:IntKind.i64.wrap (20+pickV bs (p+1) 2)=n:=by rw[i64w (by omega) (by omega)];exact hn
  have e1:=law160 ⟨#[110]⟩ n (by decide) (by omega)
  have e2:=Zd9 n ⟨#[110]⟩ ⟨#[]⟩
  have e3:(manyGo n ⟨#[110]⟩ ⟨#[]⟩).size<=1000:=by
   rw[e2]
   show 0+1*n<=1000
   omega
  refine⟨{ w with copy:=selT [⟨#[]⟩,⟨#[120,32,121]⟩,manyGo n ⟨#[110]⟩ ⟨#[]⟩] (pickV bs (p+2) 3) },p+3,Zae fn144 rfl ?_,by omega,by omega,⟨Zmk ?_ _,hw2,hw3,hw4,hw5,hw6,hw7⟩⟩
  ·simp only[rdBox]at c1 d1
   simp[c144,a1,k0,c1,d1,d2,d4,hu,e1]
  ·intro x hx
   rcases Xl.1 hx with rfl|hx
   ·decide
   rcases Xl.1 hx with rfl|hx
   ·decide
   rw[Xn.1 hx]
   exact e3
 by_cases k1:pickV bs p 7=1
 ·refine⟨{ w with version:=selI [0,1000000,1000001] (pickV bs (p+1) 3) },p+2,Zae fn144 rfl ?_,by omega,by omega,⟨hw1,Za0 (by simp[tame]) _,hw3,hw4,hw5,hw6,hw7⟩⟩
  simp[c144,a1,k0,k1,b1,b2,b4]
 by_cases k2:pickV bs p 7=2
 ·refine⟨{ w with hold:=selT [⟨#[120,32,121]⟩,⟨#[42]⟩,⟨#[118,111,108]⟩] (pickV bs (p+1) 3) },p+2,Zae fn144 rfl ?_,by omega,by omega,⟨hw1,hw2,Zgo (fun x hx=>Zd6 (by simp at hx ⊢;rcases hx with rfl|rfl|rfl<;>simp)) _,hw4,hw5,hw6,hw7⟩⟩
  simp[c144,a1,k0,k1,k2,b1,b2,b4]
 by_cases k3:pickV bs p 7=3
 ·refine⟨{ w with pull:=selI [-1,100,101] (pickV bs (p+1) 3) },p+2,Zae fn144 rfl ?_,by omega,by omega,⟨hw1,hw2,hw3,Za0 (by simp[tame]) _,hw5,hw6,hw7⟩⟩
  simp[c144,a1,k0,k1,k2,k3,b1,b2,b4]
 by_cases k4:pickV bs p 7=4
 ·refine⟨{ w with start:=selI [-1,100,101] (pickV bs (p+1) 3) },p+2,Zae fn144 rfl ?_,by omega,by omega,⟨hw1,hw2,hw3,hw4,Za0 (by simp[tame]) _,hw6,hw7⟩⟩
  simp[c144,a1,k0,k1,k2,k3,k4,b1,b2,b4]
 by_cases k5:pickV bs p 7=5
 ·refine⟨{ w with dies:=selI [-1,100,101] (pickV bs (p+1) 3) },p+2,Zae fn144 rfl ?_,by omega,by omega,⟨hw1,hw2,hw3,hw4,hw5,Za0 (by simp[tame]) _,hw7⟩⟩
  simp[c144,a1,k0,k1,k2,k3,k4,k5,b1,b2,b4]
 ·refine⟨{ w with grace:=selI [-1,100,101] (pickV bs (p+1) 3) },p+2,Zae fn144 rfl ?_,by omega,by omega,⟨hw1,hw2,hw3,hw4,hw5,hw6,Za0 (by simp[tame]) _⟩⟩
  simp[c144,a1,k0,k1,k2,k3,k4,k5,b1,b2,b4]
theorem law88(bs:List Int)(p:Int)(r:Run)(hb:Code bs)(h0:0<=p)(hp:p<=10000000000)(hr:r.tame) :
  ∃ r' p',F 88 [.ptr 0 0 0,.agg r.c] [rdBox bs p]=some (.agg r'.c,[some (rdBox bs p')])/\p<=p'/\p'<=p+5/\Run.tame r':=by
 obtain⟨a1,a2,a3⟩:=law89 bs p 6 hb h0 (by omega) (by omega)
 obtain⟨b1,b2,b3⟩:=law89 bs (p+1) 3 hb (by omega) (by omega) (by omega)
 obtain⟨c1,c2,c3⟩:=law89 bs (p+1) 9 hb (by omega) (by omega) (by omega)
 obtain⟨d1,d2,d3⟩:=law89 bs (p+1) 5 hb (by omega) (by omega) (by omega)
 rw[show p+1+1=p+2 by omega]at b1 c1 d1
 have b4:=b3 (by omega)
 have c4:=c3 (by omega)
 have d4:=d3 (by omega)
 obtain⟨w',p',e1,e2,e3,e4⟩:=law144 bs (p+1) r.want hb (by omega) (by omega) hr.want
 obtain⟨hr1,hr2,hr3,hr4,hr5⟩:=hr
 simp only[rdBox,Want.c]at a1 b1 c1 d1 e1 ⊢
 by_cases k0:pickV bs p 6=0
 ·refine⟨{ r with want:=w' },p',Zae fn88 rfl ?_,by omega,by omega,⟨e4,hr2,hr3,hr4,hr5⟩⟩
  simp[c88,a1,k0,e1]
 by_cases k1:pickV bs p 6=1
 ·have hu:IntKind.i64.wrap (pickV bs (p+1) 9-1)=pickV bs (p+1) 9-1:=i64w (by omega) (by omega)
  refine⟨{ r with state:=pickV bs (p+1) 9-1 },p+2,Zae fn88 rfl ?_,by omega,by omega,⟨hr1,⟨by simp only;omega,by simp only;omega⟩,hr3,hr4,hr5⟩⟩
  simp[c88,a1,k0,k1,c1,hu]
 by_cases k2:pickV bs p 6=2
 ·refine⟨{ r with left:=selI [-1,100,101] (pickV bs (p+1) 3) },p+2,Zae fn88 rfl ?_,by omega,by omega,⟨hr1,hr2,Za0 (by simp[tame]) _,hr4,hr5⟩⟩
  simp[c88,a1,k0,k1,k2,b1,b2,b4]
 by_cases k3:pickV bs p 6=3
 ·refine⟨{ r with falls:=selI [-1,1000,1001] (pickV bs (p+1) 3) },p+2,Zae fn88 rfl ?_,by omega,by omega,⟨hr1,hr2,hr3,Za0 (by simp[tame]) _,hr5⟩⟩
  simp[c88,a1,k0,k1,k2,k3,b1,b2,b4]
 by_cases k4:pickV bs p 6=4
 ·refine⟨{ r with til:=selI [-1,0,1,1000016,1000017] (pickV bs (p+1) 5) },p+2,Zae fn88 rfl ?_,by omega,by omega,⟨hr1,hr2,hr3,hr4,Za0 (by simp[tame]) _⟩⟩
  simp[c88,a1,k0,k1,k2,k3,k4,d1,d2,d4]
 ·obtain⟨g1,g2,g3,g4,g5,g6,g7⟩:=hr1
  refine⟨{ r with want:={ r.want with hold:=⟨#[]⟩ } },p+1,Zae fn88 rfl ?_,by omega,by omega,⟨⟨g1,g2,Zd6 (by simp),g4,g5,g6,g7⟩,hr2,hr3,hr4,hr5⟩⟩
  simp[c88,a1,k0,k1,k2,k3,k4]
theorem Code.take{bs:List Int}(h:∀ b∈bs,0<=b/\b<=255):Code (bs.take 2000):=⟨by rw[Xbj];omega,fun b hb=>h b (Xbf hb)⟩
def Want.zero:Want:=⟨⟨#[]⟩,0,⟨#[]⟩,0,0,0,0⟩
end Go.Proofs.YtgdfelbedghhnaaGreatDoor
namespace Go.Proofs.YtgdfelbedghhnaaGreatDoor
open Go
def Ends{ρ:Type}(o:Option ρ)(Q:ρ->Prop):Prop:=∃ r,o=some r/\Q r
@[simp] theorem Ends_some{ρ:Type}(r:ρ)(Q:ρ->Prop):Ends (some r) Q↔Q r:=by
 unfold Ends
 constructor
 ·rintro⟨s,h,k⟩;cases h;exact k
 ·exact fun k=>⟨r,rfl,k⟩
theorem Ends.mono{ρ:Type}{o:Option ρ}{Q Q':ρ->Prop}(h:Ends o Q)(k:∀ r,Q r->Q' r):Ends o Q':=by
 obtain⟨r,h1,h2⟩:=h
 exact⟨r,h1,k r h2⟩
theorem Zce{k:Nat}{c:CFn}{args:List AV}{objs:List AO}{Q:AV×List (Option AO)->Prop}(hc:P.fn k=some c)(hl:Nat.ble args.length c.nt=true)
  (h:Ends (fin c.res objs.length (X F [.code c.body] (.normal,⟨startSlots args 0,startHeap objs 0,0,objs.length,objs.length⟩))) Q):Ends (F k args objs) Q:=by
 obtain⟨r,h1,h2⟩:=h
 exact⟨r,Zae hc hl h1,h2⟩
open Classical in
theorem Za8{cl:Callee}{ρ σ:Type}{K:Option (AExit×St)->Option ρ}{keep:List Nat}{b:CCode}{fs:List Fr}{Q:ρ->Prop}(H:σ->St)(Inv:σ->Prop)(μ:σ->Nat)
  (step:∀ x Y,Inv x->(∀ y s',Inv y->μ y<μ x->s'.norm keep=H y->Ends (K (Y s')) Q)->Ends (K (X cl (.code b::.back Y::fs) (.normal,H x))) Q)
  (x:σ) {s:St} (hs:s.norm keep=H x) (hi:Inv x) (hm:μ x<big):Ends (K (X cl (.code (.loop keep b)::fs) (.normal,s))) Q:=by
 have h:=Zaz (cl:=cl) (K:=fun o=>if Ends (K o) Q then some () else none) (keep:=keep) (b:=b) (fs:=fs) H Inv μ (fun _=>()) (fun x Y hx hY=>by
  have:=step x Y hx (fun y s' h1 h2 h3=>by
   have h4:=hY y s' h1 h2 h3
   split at h4
   ·assumption
   ·cases h4)
  exact Xr this) x hs hi hm
 split at h
 ·assumption
 ·cases h
end Go.Proofs.YtgdfelbedghhnaaGreatDoor
namespace Go.Proofs.YtgdfelbedghhnaaGreatDoor
open Go
set_option linter.unusedSimpArgs false
set_option maxRecDepth 100000
def digit(d:Nat):T:=⟨#[48+UInt8.ofNat d]⟩
def dec(n:Nat):T:=if _h:n<10 then digit n else dec (n / 10)++digit (n % 10)
termination_by n
decreasing_by omega
theorem u8w{d:Nat}(h:d<10):IntKind.u8.wrap (IntKind.i64.wrap (48+(d:Int)))=48+(d:Int):=by
 rw[i64w (by omega) (by omega)]
 simp[IntKind.wrap,IntKind.signed,IntKind.bits]
 omega
theorem Zgl:∀ (j n:Nat),n<10 ^ (j+1)->(dec n).size<=j+1
 | 0,n,h=>by
  rw[dec,dif_pos (by omega)]
  exact Xo _
 | j+1,n,h=>by
  rw[dec]
  split
  ·show 1<=_;omega
  ·rw[Zap]
   have:=Zgl j (n / 10) (Nat.div_lt_of_lt_mul (by rw[Nat.pow_succ]at h;omega))
   have e:(digit (n % 10)).size=1:=rfl
   omega
theorem law140(n:Nat)(hn:n<1000000000000000000):F 140 [.int .i64 n] []=some (.str (dec n),[]):=by
 induction n using Nat.strongRecOn with
 | ind n ih =>
  refine Zae fn140 rfl ?_
  rw[dec]
  by_cases h:n<10
  ·have hI:(n:Int)<10:=by omega
   have hu:=u8w h
   have ht:(48+(n:Int)).toNat=48+n:=by omega
   simp[c140,h,hI,toBytes,hu,digit,ht]
  ·have hI:¬ (n:Int)<10:=by omega
   have w:=ih (n / 10) (by omega) (by omega)
   have hs:=Zgl 18 (n / 10) (by omega)
   have hd:=Nat.mod_lt n (show 0<10 by omega)
   obtain⟨q,hq⟩:∃ q,q=n / 10:=⟨_,rfl⟩
   obtain⟨d,hdd⟩:∃ d,d=n % 10:=⟨_,rfl⟩
   have hm:Int.tmod (n:Int) 10=(d:Int):=by rw[Xba (by omega)];omega
   have hm2:(n:Int) % 10=(d:Int):=by omega
   have hq2:(n:Int) / 10=(q:Int):=by omega
   have hq3:IntKind.i64.wrap (q:Int)=(q:Int):=i64w (by omega) (by omega)
   rw[<- hq]at w hs ⊢
   rw[<- hdd]at hd ⊢
   have hu:=u8w hd
   have ht:(48+(d:Int)).toNat=48+d:=by omega
   have hs2:(dec q).size+(⟨#[48+UInt8.ofNat d]⟩:T).size<=9223372036854775807:=by
    have:(⟨#[48+UInt8.ofNat d]⟩:T).size=1:=rfl
    omega
   simp[c140,h,hI,toBytes,hm,hm2,hq2,hq3,hu,digit,ht,w,hs2]
theorem Zni{i:Nat}(h:i<1000):((⟨#[99]⟩:T)++dec i).size<=1000:=by
 rw[Zap]
 have:=Zgl 3 i (by omega)
 have e:(⟨#[99]⟩:T).size=1:=rfl
 omega
/-! ### Lists of wants and of runs -/
def head145(bs:List Int)(p:Int)(ws:List Want)(i:Nat):St:=hd [(0,.ptr 0 0 0),(3,.ref 1),(4,.int .i64 i)] [rdBox bs p,.arr 7 (ws.map Want.c)] 1
def Drew(bs:List Int)(p n:Int)(v:AV->Prop)(r:AV×List (Option AO)):Prop:=∃ x p',r=(x,[some (rdBox bs p')])/\p<=p'/\p'<=p+n/\v x
theorem law145(bs:List Int)(p:Int)(hb:Code bs)(h0:0<=p)(hp:p<=1000000000) :
  Ends (F 145 [.ptr 0 0 0] [rdBox bs p]) (Drew bs p 28 fun x=>∃ ws:List Want,x=.sl .own 7 (ws.map Want.c)/\ws.length<=4/\∀ w∈ws,Want.tame w):=by
 refine Zce fn145 rfl ?_
 simp[c145]
 refine Za8 (σ:=Nat×Int×List Want) (fun z=>head145 bs z.2.1 z.2.2 z.1) (fun z=>z.1<=4/\p<=z.2.1/\z.2.1<=p+7*z.1/\z.2.2.length<=z.1/\∀ w∈z.2.2,Want.tame w) (fun z=>4-z.1) (fun z Y hinv hY=>?_) (0,p,[]) ?_ ⟨by omega,by simp,by simp,by simp,by simp⟩ (by unfold big;simp)
 ·obtain⟨i,q,ws⟩:=z
  obtain⟨h1,h2,h3,h4,h5⟩:=hinv
  simp only at h1 h2 h3 h4 h5 hY ⊢
  by_cases hi:i<4
  ·have hiI:(i:Int)<4:=by omega
   have hw:IntKind.i64.wrap ((i:Int)+1)=(i:Int)+1:=i64w (by omega) (by omega)
   obtain⟨a1,a2,a3⟩:=law89 bs q 2 hb (by omega) (by omega) (by omega)
   have d1:=law140 i (by omega)
   have d2:=Zni (i:=i) (by omega)
   have d3:(⟨#[99]⟩:T).size+(dec i).size<=9223372036854775807:=by rw[Zap]at d2;omega
   have b1:=law87 bs (q+1) (⟨#[99]⟩++dec i) hb (by omega) (by omega)
   rw[show q+1+6=q+7 by omega]at b1
   have b2:=Zjk (p:=q+1) (copy:=⟨#[99]⟩++dec i) hb (by omega) (by omega) d2
   generalize drawWant bs (q+1) (⟨#[99]⟩++dec i)=w at b1 b2
   have c1:=law7 (ws++[w]) (by unfold big;simp;omega)
   have e1:ws.length*72<=140737488355328:=by omega
   have e2:ws.length<=140737488355328:=by omega
   have e3:(ws.length+1)*72<=140737488355328:=by omega
   have e4:ws.length+1<=140737488355328:=by omega
   simp only[rdBox,Want.c]at a1 b1
   simp at c1
   by_cases k0:pickV bs q 2=0
   ·cases k1:wantsOk (ws++[w])
    ·rw[k1]at c1
     simp[head145,rdBox,c145b0,hiI,a1,k0,d1,d3,b1,takeRows,rowsPlain,e1,e2,e3,e4,c1]
     refine hY (i+1,q+7,ws) _ ⟨by omega,by simp only;omega,by simp only;omega,by simp only;omega,h5⟩ (by simp only;omega) ?_
     simp[head145,rdBox,hw]
    ·rw[k1]at c1
     simp[head145,rdBox,c145b0,hiI,a1,k0,d1,d3,b1,takeRows,rowsPlain,e1,e2,e3,e4,c1]
     refine hY (i+1,q+7,ws++[w]) _ ⟨by omega,by simp only;omega,by simp only;omega,by simp;omega,?_⟩ (by simp only;omega) ?_
     ·intro x hx
      rcases Xg.1 hx with hx|hx
      ·exact h5 x hx
      ·rw[Xn.1 hx];exact b2
     ·simp[head145,rdBox,hw]
   ·simp[head145,rdBox,c145b0,hiI,a1,k0]
    refine hY (i+1,q+1,ws) _ ⟨by omega,by simp only;omega,by simp only;omega,by simp only;omega,h5⟩ (by simp only;omega) ?_
    simp[head145,rdBox,hw]
  ·have hiI:¬ (i:Int)<4:=by omega
   simp[head145,rdBox,c145b0,hiI]
   exact⟨_,q,rfl,by omega,by omega,ws,rfl,by omega,h5⟩
 ·simp[head145,rdBox]
def findW(l:List Want)(n:T):Option Want:=l.find? fun w=>sEq w.copy n
def head161(ws:List Want)(n:T)(i:Nat):St:=hd [(0,.sl .bor 7 (ws.map Want.c)),(1,.str n),(4,.ptr 0 0 0),(6,.int .i64 i)] [.box Want.zero.c] 0
theorem law161(ws:List Want)(n:T)(hl:ws.length<big):F 161 [.sl .bor 7 (ws.map Want.c),.str n] []=some (.tup [.agg ((findW ws n).getD .zero).c,.bool (findW ws n).isSome],[]):=by
 refine Zae fn161 rfl ?_
 have hm:ws.length<=9223372036854775807:=by unfold big at hl;omega
 simp[c161]
 refine (Zaa ws (fun i (_:Unit)=>head161 ws n i) (fun _ _=>True) (fun _ r l=>(AV.tup [.agg ((findW r n).getD .zero).c,.bool (findW r n).isSome],([]:List (Option AO)))) (fun acc Y _=>?_) (fun i a r acc Y ha hi hr _ hY=>?_) () ?_ trivial ?_).trans rfl
 ·simp[head161,c161b0,findW,Want.zero]
 ·have hw:IntKind.i64.wrap ((i:Int)+1)=(i:Int)+1:=i64w (by omega) (by omega)
  obtain⟨_,hg⟩:=Xa.1 ha
  cases q:sEq a.copy n
  ·simp[head161,c161b0,hi,hg,findW,Want.zero,q]
   refine hY () _ trivial ?_
   simp[head161,hw,Want.zero]
  ·simp[head161,c161b0,hi,hg,findW,Want.zero,q]
 ·simp[head161,Want.zero]
 ·exact hl
structure Ask.tame(a:Ask):Prop where
 hold:inS a.hold=true
 copy:a.copy.size<=1000
 first:YtgdfelbedghhnaaGreatDoor.tame a.first
 at_:YtgdfelbedghhnaaGreatDoor.tame a.at_
structure Mate.tameN(k:Nat)(m:Mate):Prop where
 name:m.name.size<=1000
 clock:YtgdfelbedghhnaaGreatDoor.tame m.clock
 seen:YtgdfelbedghhnaaGreatDoor.tame m.seen
 nwants:m.wants.length<=k
 wants:∀ w∈m.wants,w.tame
 nruns:m.runs.length<=k
 runs:∀ r∈m.runs,r.tame
 nasks:m.asks.length<=k
 asks:∀ a∈m.asks,a.tame
 ngives:m.gives.length<=k
 gives:∀ a∈m.gives,a.tame
abbrev Mate.tame (m:Mate):Prop:=m.tameN 10
theorem Mate.tameN.up{k k':Nat}{m:Mate}(h:m.tameN k)(hk:k<=k'):m.tameN k' :=
 ⟨h.name,h.clock,h.seen,Xac h.nwants hk,h.wants,Xac h.nruns hk,h.runs,Xac h.nasks hk,h.asks,Xac h.ngives hk,h.gives⟩
theorem Mate.tameN.small{k:Nat}{m:Mate}(h:m.tameN k)(hk:k<=1000):m.small:=by
 obtain⟨_,_,_,h1,_,h2,_,h3,_,h4,_⟩:=h
 exact⟨by omega,by omega,by omega,by omega⟩
def wn(wk:Bool):Nat:=if wk then 1 else 0
def an(l:List Ask):Nat:=if l=[] then 0 else 1
def cellsB(n:Nat)(wk:Bool)(m:Mate):List AV :=
 [.str m.name,.bool m.up,.int .i64 m.clock,.bool m.known,.int .i64 m.seen,if wk then .ref n else .sl .own 7 [],.ref (n+wn wk),ownVi (n+wn wk+1) 4 (m.asks.map Ask.c),ownVi (n+wn wk+1+an m.asks) 4 (m.gives.map Ask.c)]
def arrsB(wk:Bool)(m:Mate):List AO:=(if wk then [.arr 7 (m.wants.map Want.c)] else [])++.arr 11 (m.runs.map Run.c)::(ownH 4 (m.asks.map Ask.c)++ownH 4 (m.gives.map Ask.c))
theorem Zju{α:Type}{l:List α}{P:α->Prop}(h:∀ x∈l,P x){y:α}(hy:P y):∀ x∈l++[y],P x:=by
 intro x hx
 rcases Xg.1 hx with hx|hx
 ·exact h x hx
 ·rw[Xn.1 hx];exact hy
structure Mid(bs:List Int)(q:Int)(wk:Bool)(m:Mate)(i:Nat)(a:Ask)(s:St):Prop where
 s0:s.slots 0=.ptr 0 0 0
 s2:s.slots 2=.ptr 1 0 0
 s3:s.slots 3=.ptr 2 0 0
 s7:s.slots 7=.int .i64 i
 s8:s.slots 8=.ptr 3 0 0
 h0:s.heap 0=some (rdBox bs q)
 h1:s.heap 1=some (.box zeroCells)
 h2:s.heap 2=some (.box (cellsB 4 wk m))
 h3:s.heap 3=some (.box a.c)
 hx:∀ k,k<5->s.heap (4+k)=(arrsB wk m)[k]?
 nx:100<=s.next
 base:s.base=1
end Go.Proofs.YtgdfelbedghhnaaGreatDoor
namespace Go.Proofs.YtgdfelbedghhnaaGreatDoor
open Go
set_option linter.unusedSimpArgs false
set_option maxRecDepth 100000
def off(l:Int)(n:Nat):Int:=if IntKind.i64.wrap (l-n)<0 then -1 else IntKind.i64.wrap (l-n)
def fillU{α:Type}(c:α->List AV)(z:List AV)(ws:List α)(i:Nat):List (List AV):=(ws.take i).map c++List.replicate (ws.length-i) z
section
variable {α:Type} (c:α->List AV) (z:List AV) {ws:List α} {i:Nat}
@[simp] theorem fillU_len:(fillU c z ws i).length=ws.length:=by simp[fillU];omega
theorem Zpe(h:i<ws.length):(fillU c z ws i)[i]?=some z:=by
 have:(List.map c (ws.take i)).length=i:=by simp;omega
 rw[fillU,Xar (by omega),this,Xcw,List.getElem?_replicate,Xr (by omega)]
@[simp] theorem fillU_at(h:i<(fillU c z ws i).length):(fillU c z ws i)[i]=z:=by
 have:=Zpe c z (ws:=ws) (i:=i) (by simpa using h)
 rw[Xd h]at this
 exact Xf this
end
end Go.Proofs.YtgdfelbedghhnaaGreatDoor
namespace Go.Proofs.YtgdfelbedghhnaaGreatDoor
open Go
set_option linter.unusedSimpArgs false
set_option maxRecDepth 100000
end Go.Proofs.YtgdfelbedghhnaaGreatDoor
namespace Go.Proofs.YtgdfelbedghhnaaGreatDoor
open Go
set_option linter.unusedSimpArgs false
set_option maxRecDepth 100000
def up(k:Int):Int:=IntKind.i64.wrap (k+1)
def it(f:Int->Int):Nat->Int->Int
 | 0,k=>k
 | n+1,k=>f (it f n k)
def mixU{α:Type}(c:α->List AV)(ws ms:List α)(i:Nat):List (List AV):=(ms.take i).map c++(ws.drop i).map c
section
variable {α:Type} (c:α->List AV) {ws ms:List α} {i:Nat}
theorem Zgm(h:ms.length=ws.length)(hi:i<=ws.length):(mixU c ws ms i).length=ws.length:=by simp[mixU];omega
theorem Zrf{a:α}(ha:ws[i]?=some a)(h:ms.length=ws.length):(mixU c ws ms i)[i]?=some (c a):=by
 obtain⟨hi,hg⟩:=Xa.1 ha
 have h1:(List.map c (ms.take i)).length=i:=by simp;omega
 rw[mixU,Xar (by omega),h1,Xcw,Xam,Xaq]
 simp[ha]
theorem Zjv{b:α}(hb:ms[i]?=some b)(h:ms.length=ws.length):(mixU c ws ms i).set i (c b)=mixU c ws ms (i+1):=by
 obtain⟨hi,hg⟩:=Xa.1 hb
 have h1:(List.map c (ms.take i)).length=i:=by simp;omega
 rw[mixU,mixU,List.set_append_right _ _ (by omega),h1,Xcw,Xah (show i<ws.length by omega),Xx,List.set_cons_zero,Zas hb]
 simp
theorem Zl9{a:α}(ha:ws[i]?=some a)(h:ms.length=ws.length)(hl:i<(mixU c ws ms i).length):(mixU c ws ms i)[i]=c a:=by
 have:=Zrf c ha h
 rw[Xd hl]at this
 exact Xf this
theorem Zkr{a:α}(ha:ws[i]?=some a)(hb:ms[i]?=some a)(h:ms.length=ws.length):mixU c ws ms i=mixU c ws ms (i+1):=by
 have hi:=(Xa.1 ha).1
 have hl:i<(mixU c ws ms i).length:=by rw[Zgm c h (by omega)];exact hi
 have:=List.set_getElem_self (as:=mixU c ws ms i) (i:=i) hl
 rw[Zl9 c ha h hl]at this
 rw[<- Zjv c hb h,this]
theorem Zks:mixU c ws ms 0=ws.map c:=by simp[mixU]
theorem Zm8(h:ms.length=ws.length):mixU c ws ms ws.length=ms.map c:=by simp[mixU,<- h]
end
end Go.Proofs.YtgdfelbedghhnaaGreatDoor
namespace Go.Proofs.YtgdfelbedghhnaaGreatDoor
open Go
set_option linter.unusedSimpArgs false
set_option maxRecDepth 100000
end Go.Proofs.YtgdfelbedghhnaaGreatDoor
