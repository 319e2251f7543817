/- Each operation of the model does what the abstract machine's does: struct values, their equality. · Each operation of the model does what the abstract machine's does: those that make memory. · Each operation of the model does what the abstract machine's does: append. · Each operation of the model does what the abstract machine's does: stores, literals of slices, make. · Each operation of the model does what the abstract machine's does: literals of slices, make. · Each operation of the model does what the abstract machine's does: maps with texts as keys. · Each operation of the model does what the abstract machine's does: bytes to a text. · What comes back from a call: closed values get numbers. -/
import Derived.Test.YtfemiipgkhekiaaGreatDoorB2
import Derived.Laws.StructEq
import Derived.Laws.OwnMore
import Derived.Laws.MakeOwn
import Derived.Test.YtfemiipgkhekiaaGreatDoorB1
import Derived.MapKept
import Derived.Laws.BytesArg
namespace Go.Proofs.YtfemiipgkhekiaaGreatDoor
open Go Go.RowKit
set_option linter.unusedSimpArgs false
section
variable {num:Nat->Option FuncId} {w:World} {R:Nat->Prop} {g:Gh} {h:Nat->Option AO} {ep:Nat}
def CellsRel(num:Nat->Option FuncId)(w:World)(R:Nat->Prop)(g:Gh)(h:Nat->Option AO)(ep:Nat)(us:Array Value)(cs:List AV):Prop :=
 us.size=cs.length/\∀ (i:Nat) (u:Value) (c:AV),us[i]?=some u->cs[i]?=some c->u.oneCell'=true/\SRel num w R g h ep u c
theorem Zd8{v:Value}{x:AV}{vs:List AV}(hr:SRel num w R g h ep v x)(hp:x.parts=some vs):CellsRel num w R g h ep v.cells vs:=by
 have one:x.parts=some [x]->(∀ us,v≠.agg us)->CellsRel num w R g h ep v.cells vs:=by
  intro hp' hna
  rw[hp']at hp
  obtain rfl:=Option.some.inj hp
  have hc:v.cells=#[v]:=by cases v<;>first|rfl|exact absurd rfl (hna _)
  rw[hc]
  refine⟨rfl,fun i u c hu hc=>?_⟩
  cases i with
  | zero =>
   simp at hu hc
   subst hu;subst hc
   exact⟨hr.one hp',hr⟩
  | succ i=>simp at hc
 cases hr with
 | any=>simp[AV.parts]at hp
 | tup=>simp[AV.parts]at hp
 | agg us cs hl h1 hc =>
  simp only[AV.parts,Option.some.injEq]at hp
  subst hp
  exact⟨hl,fun i u c hu hi=>⟨h1 i u hu,hc i u c hu hi⟩⟩
 | bool=>exact one rfl (by simp)
 | int=>exact one rfl (by simp)
 | str=>exact one rfl (by simp)
 | nil=>exact one rfl (by simp)
 | sl _ _ _ _ h1=>exact one rfl (by rintro us rfl;simp[Value.oneCell']at h1)
 | ref _ _ h1=>exact one rfl (by rintro us rfl;simp[Value.oneCell']at h1)
 | view _ _ _ _ h1=>exact one rfl (by rintro us rfl;simp[Value.oneCell']at h1)
 | ptr _ _ _ _ h1=>exact one rfl (by rintro us rfl;simp[Value.oneCell']at h1)
 | bptr _ _ _ _ h1=>exact one rfl (by rintro us rfl;simp[Value.oneCell']at h1)
 | mapr _ _ h1=>exact one rfl (by rintro us rfl;simp[Value.oneCell']at h1)
 | inn _ _ _ _ _ h1=>exact one rfl (by rintro us rfl;simp[Value.oneCell']at h1)
 | inp _ _ _ _ _ _ _ h1=>exact one rfl (by rintro us rfl;simp[Value.oneCell']at h1)
 | ifs _ _ _ h1=>exact one rfl (by rintro us rfl;simp[Value.oneCell']at h1)
 | clo _ _ _ h1=>exact one rfl (by rintro us rfl;simp[Value.oneCell']at h1)
 | cut _ _ _ h1=>exact one rfl (by rintro us rfl;simp[Value.oneCell']at h1)
 | fn=>exact one rfl (by simp)
theorem CellsRel.agg{us:Array Value}{cs:List AV}(hc:CellsRel num w R g h ep us cs):SRel num w R g h ep (.agg us) (.agg cs):=by
 refine .agg us cs hc.1 (fun i v hv=>?_) (fun i v c hv hi=>(hc.2 i v c hv hi).2)
 have hlt:=(Array.getElem?_eq_some_iff.1 hv).1
 exact (hc.2 i v _ hv (List.getElem?_eq_getElem (by rw[<- hc.1];exact hlt))).1
theorem Znc(vs:Array Value)(off:Nat)(us:Array Value):∀ i:Nat,(vs.zipIdx.foldl (fun cs (c,j)=>cs.setIfInBounds (off+j) c) us)[i]?=if off<=i/\i<off+vs.size/\i<us.size then vs[i-off]? else us[i]?:=by
 have key:∀ (l:List Value) (k:Nat) (us:Array Value) (i:Nat),((l.zipIdx k).foldl (fun cs (p:Value×Nat)=>cs.setIfInBounds (off+p.2) p.1) us)[i]?=if off+k<=i/\i<off+k+l.length/\i<us.size then l[i-(off+k)]? else us[i]?:=by
  intro l
  induction l with
  | nil=>intro k us i;simp;omega
  | cons v l ih =>
   intro k us i
   simp only[List.zipIdx_cons,List.foldl_cons]
   rw[ih]
   simp only[Array.size_setIfInBounds,List.length_cons,Array.getElem?_setIfInBounds]
   by_cases h1:i=off+k
   ·subst h1
    by_cases h2:off+k<us.size
    ·simp[h2]
     intro h3 _
     omega
    ·simp[h2]
   ·by_cases h2:off+(k+1)<=i/\i<off+(k+1)+l.length/\i<us.size
    ·rw[if_pos h2,if_pos ⟨by omega,by omega,h2.2.2⟩]
     rw[show i-(off+k)=(i-(off+(k+1)))+1 by omega]
     simp
    ·rw[if_neg h2,if_neg (by omega),if_neg (by omega)]
 intro i
 rw[<- Array.foldl_toList]
 have:=key vs.toList 0 us i
 simpa using this
theorem Zeg(vs:Array Value)(off:Nat)(us:Array Value):(vs.zipIdx.foldl (fun cs (c,j)=>cs.setIfInBounds (off+j) c) us).size=us.size:=by
 have key:∀ (l:List (Value×Nat)) (us:Array Value),(l.foldl (fun cs (p:Value×Nat)=>cs.setIfInBounds (off+p.2) p.1) us).size=us.size:=by
  intro l
  induction l with
  | nil=>intro us;rfl
  | cons v l ih=>intro us;simp only[List.foldl_cons];rw[ih];simp
 rw[<- Array.foldl_toList]
 exact key _ _
theorem Zlw(cs vs:List AV)(off i:Nat)(hle:off+vs.length<=cs.length):(lay cs off vs)[i]?=if off<=i/\i<off+vs.length then vs[i-off]? else cs[i]?:=by
 unfold lay
 rw[List.getElem?_append]
 have hl:(List.take off cs).length=off:=by simp;omega
 rw[hl]
 by_cases h1:i<off
 ·rw[if_pos h1,if_neg (by omega),List.getElem?_take,if_pos h1]
 ·rw[if_neg h1,List.getElem?_append]
  by_cases h2:i-off<vs.length
  ·rw[if_pos h2,if_pos (by omega)]
  ·rw[if_neg h2,if_neg (by omega),List.getElem?_drop]
   congr 1
   omega
theorem Zer(cs vs:List AV)(off:Nat)(hle:off+vs.length<=cs.length):(lay cs off vs).length=cs.length:=by
 unfold lay
 simp
 omega
theorem CellsRel.lay{us vs:Array Value}{cs ds:List AV}{off:Nat}(h1:CellsRel num w R g h ep us cs)(h2:CellsRel num w R g h ep vs ds)(hle:off+ds.length<=cs.length) :
  CellsRel num w R g h ep (vs.zipIdx.foldl (fun cs (c,j)=>cs.setIfInBounds (off+j) c) us) (lay cs off ds):=by
 refine⟨by rw[Zeg,Zer _ _ _ hle,h1.1],fun i u c hu hc=>?_⟩
 rw[Znc]at hu
 rw[Zlw _ _ _ _ hle]at hc
 have hs1:=h1.1
 have hs2:=h2.1
 by_cases hin:off<=i/\i<off+ds.length
 ·rw[if_pos (by omega)]at hu
  rw[if_pos hin]at hc
  exact h2.2 _ _ _ hu hc
 ·rw[if_neg (by omega)]at hu
  rw[if_neg hin]at hc
  exact h1.2 _ _ _ hu hc
end
section
variable {cx:Cx} {s:St} {g:Gh} {a:Act} {w:World} {o:Oper} {key:Nat} {out:Out} {cl:Callee}
inductive PartsRel (cx:Cx) (s:St) (g:Gh) (a:Act) (w:World) (place:Nat->Option (Nat×Nat)):List (Nat×Value)->List (Nat×Nat×Opd)->Prop
 | nil:PartsRel cx s g a w place [] []
 | cons (i off n:Nat) (v:Value) (y:Opd) (ps:List (Nat×Value)) (qs:List (Nat×Nat×Opd)) (hp:place i=some (off,n)) (hv:SRel cx.num w cx.R g s.heap s.ep v (y.ev s.slots)) (h:PartsRel cx s g a w place ps qs) :
   PartsRel cx s g a w place ((i,v)::ps) ((off,n,y)::qs)
theorem Zsl{place:Nat->Option (Nat×Nat)}{ps:List (Nat×Value)}{qs:List (Nat×Nat×Opd)}(hp:PartsRel cx s g a w place ps qs):∀ {us:Array Value} {cs ds:List AV},CellsRel cx.num w cx.R g s.heap s.ep us cs ->
  fillParts s.slots cs qs=some ds->∃ vs,Instr.fill place us ps=some vs/\CellsRel cx.num w cx.R g s.heap s.ep vs ds:=by
 induction hp with
 | nil=>intro us cs ds hc h;simp only[fillParts,Option.some.injEq]at h;subst h;exact⟨us,rfl,hc⟩
 | cons i off n v y ps qs hp hv _ ih =>
  intro us cs ds hc h
  simp only[fillParts]at h
  cases hq:(y.ev s.slots).parts with
  | none=>rw[hq]at h;cases h
  | some vs =>
   rw[hq]at h
   simp only at h
   split at h
   case isFalse=>cases h
   rename_i hle
   obtain⟨hn,hle⟩:=hle
   have hvr:=Zd8 hv hq
   have hsz1:=hvr.1
   have hsz2:=hc.1
   obtain⟨rs,h1,h2⟩:=ih (hc.lay hvr (off:=off) (by omega)) h
   refine⟨rs,?_,h2⟩
   simp only[Instr.fill,hp]
   rw[if_neg (by simp;omega)]
   exact h1
theorem Zhl{P:Program}{w:World}(l:List Field)(hl:∀ f∈l,∃ i0,P.info? f.type=some i0) :
  (l.mapM fun f=>do pure (f.offset,<- sizeOf f.type):Sem (List (Nat×Nat))).run P w=.ok (l.map fun f=>(f.offset,((P.info? f.type).map (·.size)).getD 0)) w:=by
 induction l with
 | nil=>rfl
 | cons f l ih =>
  obtain⟨i0,hi⟩:=hl f (List.mem_cons_self ..)
  have ih':=ih fun f hf=>hl f (List.mem_cons_of_mem _ hf)
  simp only[List.mapM_cons,Sem.run_bind,Zau hi,Result.andThen_ok,Sem.run_pure,ih',List.map_cons,hi,Option.map_some,Option.getD_some]
theorem Zod(m:Mem cx s.heap s.ep g w){ps:Array (Nat×Operand)}{t:TypeId}{fs:Array Field}{i0:TypeInfo}{z:Value}{zs:List AV}{qs:List (Nat×Nat×Opd)}(ho:o.op=.build t ps)(ht:cx.P.underlying t=some (.struct fs))
  (hi:cx.P.info? t=some i0) (hz:i0.zero=some z) (hzr:CellsRel cx.num w cx.R g s.heap s.ep z.cells zs) (hfs:∀ f∈fs.toList,∃ i1,cx.P.info? f.type=some i1)
  (hps:PartsRel cx s g a w (fun i=>(fs[i]?).map fun f=>(f.offset,((cx.P.info? f.type).map (·.size)).getD 0)) (ps.toList.map fun p=>(p.1,a.eval p.2)) qs)
  (h:sem cl (.build zs qs) key s.slots s.heap s.ep=some out):Done cx s g a w o key out:=by
 simp only[sem]at h
 cases hf:fillParts s.slots zs qs with
 | none=>rw[hf]at h;cases h
 | some cs =>
  rw[hf]at h
  obtain⟨vs,h1,h2⟩:=Zsl hps hzr hf
  refine Zag m (v:=.agg vs) ?_ h2.agg h
  have hm:=Zhl (P:=cx.P) (w:=w) fs.toList hfs
  have hm':(fs.mapM fun f=>do pure (f.offset,<- sizeOf f.type):Sem (Array (Nat×Nat))).run cx.P w=.ok (fs.map fun f=>(f.offset,((cx.P.info? f.type).map (·.size)).getD 0)) w:=by
   rw[Array.mapM_eq_mapM_toList,Sem.run_map,hm]
   simp only[Result.andThen_ok]
   congr 1
   apply Array.ext'
   simp
  have hpl:(fun i:Nat=>(fs.map fun f=>(f.offset,((cx.P.info? f.type).map (fun j=>j.size)).getD 0))[i]?)=fun i:Nat=>(fs[i]?).map fun f=>(f.offset,((cx.P.info? f.type).map (fun j=>j.size)).getD 0):=by
   funext i
   simp
  simp only[execOp,ho,Instr.build,Sem.run_bind,zeroValue,typeInfo,run_program,Result.andThen_ok,hi,hz,Sem.run_pure,run_underlying ht,hm']
  simp only[hpl,Array.toList_map,h1]
  rfl
/-! ### Equality of structs of plain fields -/
def szT(P:Program)(t:TypeId):Nat:=((P.info? t).map (·.size)).getD 0
def shapeFs(F:TypeId->Option (List CK))(P:Program):Nat->List Field->Option (List CK)
 | _,[]=>some []
 | off,f::fs => if f.name != "_" && f.offset == off && (P.info? f.type).isSome then match F f.type with
   | some a=>if a.length=szT P f.type/\a.length≠0 then match shapeFs F P (off+a.length) fs with
    | some b=>some (a++b)
    | none=>none
    else none
   | none=>none
  else none
def shapeTy(P:Program):Nat->TypeId->Option (List CK)
 | 0,_=>none
 | d+1,t=>match P.underlying t with
  | some (.int _)=>some [.i]
  | some .string=>some [.s]
  | some .bool=>some [.b]
  | some (.struct fs)=>if P.stoodInHeld t then none else shapeFs (shapeTy P d) P 0 fs.toList
  | _=>none
def ValRel(num:Nat->Option FuncId)(w:World)(R:Nat->Prop)(g:Gh)(h:Nat->Option AO)(ep:Nat)(agg:Bool)(v:Value)(cs:List AV):Prop :=
 if agg then ∃ us,v=.agg us/\CellsRel num w R g h ep us cs else ∃ c,cs=[c]/\SRel num w R g h ep v c
theorem Zdo:∀ {ks:List CK} {cs ds:List AV} {r:Bool},eqCells ks cs ds=some r->ks.length=cs.length/\ks.length=ds.length
 | [],[],[],_,_=>⟨rfl,rfl⟩
 | k::ks,c::cs,d::ds,r,h=>by
  simp only[eqCells]at h
  cases hc:eqCell k c d with
  | none=>rw[hc]at h;cases h
  | some b =>
   rw[hc]at h
   cases b with
   | true=>have:=Zdo h;simp[this.1,this.2];omega
   | false =>
    simp only at h
    split at h
    ·rename_i hl;simp only[List.length_cons];omega
    ·cases h
 | [],[],_::_,_,h=>by cases h
 | [],_::_,_,_,h=>by cases h
 | _::_,[],_,_,h=>by cases h
 | _::_,_::_,[],_,h=>by cases h
theorem Zdm:∀ {ks ls:List CK} {cs ds:List AV} {r:Bool},eqCells (ks++ls) cs ds=some r ->
  (∃ b,eqCells ks (cs.take ks.length) (ds.take ks.length)=some b/\(if b then eqCells ls (cs.drop ks.length) (ds.drop ks.length)=some r else r=false))
 | [],ls,cs,ds,r,h=>⟨true,by simp[eqCells],by simpa using h⟩
 | k::ks,ls,cs,ds,r,h=>by
  cases cs with
  | nil=>simp[eqCells]at h
  | cons c cs=>cases ds with
   | nil=>simp[eqCells]at h
   | cons d ds =>
    simp only[List.cons_append,eqCells,List.length_cons,List.take_succ_cons,List.drop_succ_cons]at h ⊢
    cases hc:eqCell k c d with
    | none=>rw[hc]at h;cases h
    | some b =>
     rw[hc]at h
     cases b with
     | true=>exact Zdm h
     | false =>
      simp only at h ⊢
      split at h
      ·rename_i hl
       simp only[List.length_append]at hl
       refine⟨false,?_,by simpa using h.symm⟩
       rw[if_pos]
       simp
       omega
      ·cases h
theorem Zms{P:Program}{w:World}{t:TypeId}{d:TypeDesc}{i0:TypeInfo}(ht:P.underlying t=some d)(hi:P.info? t=some i0)(us:Array Value)(off:Nat)(u:Value)(hu:aggB d=false->us[off]?=some u) :
  (part t us off).run P w=.ok (if aggB d then .agg (us.extract off (off+i0.size)) else u) w:=by
 cases hd:aggB d with
 | true=>simp[part,Zee ht,hd,Zau hi]
 | false=>simp[part,Zee ht,hd,hu hd]
theorem CellsRel.cut{num:Nat->Option FuncId}{w:World}{R:Nat->Prop}{g:Gh}{h:Nat->Option AO}{ep:Nat}{us:Array Value}{cs:List AV}(hc:CellsRel num w R g h ep us cs)(off n:Nat)(hle:off+n<=cs.length) :
  CellsRel num w R g h ep (us.extract off (off+n)) ((cs.drop off).take n):=by
 have hs:=hc.1
 refine⟨by simp;omega,fun i u c hu hi=>?_⟩
 rw[List.getElem?_take]at hi
 split at hi
 case isFalse=>cases hi
 rename_i hlt
 rw[List.getElem?_drop]at hi
 rw[Array.getElem?_extract]at hu
 split at hu
 ·exact hc.2 _ _ _ hu hi
 ·cases hu
section
variable {P:Program} {num:Nat->Option FuncId} {w:World} {R:Nat->Prop} {g:Gh} {h:Nat->Option AO} {ep:Nat}
theorem Ziv{d:Nat}{t:TypeId}{ks:List CK}(hs:shapeTy P d t=some ks):∃ td,P.underlying t=some td/\(aggB td=false->ks.length=1):=by
 cases d with
 | zero=>cases hs
 | succ d =>
  simp only[shapeTy]at hs
  cases ht:P.underlying t with
  | none=>rw[ht]at hs;cases hs
  | some td =>
   rw[ht]at hs
   refine⟨td,rfl,fun hf=>?_⟩
   cases td<;>simp only[reduceCtorEq,Option.some.injEq]at hs<;>first|(subst hs;rfl)|simp[aggB]at hf
theorem Zfd(d:Nat)(F:TypeId->Option (List CK)) (hF:∀ t ks,F t=some ks->(∃ td,P.underlying t=some td/\(aggB td=false->ks.length=1))/\∀ td,P.underlying t=some td->∀ (u v:Value) (cs ds:List AV) (b:Bool),
   ValRel num w R g h ep (aggB td) u cs->ValRel num w R g h ep (aggB td) v ds->eqCells ks cs ds=some b->(Op.equalIn d t u v).run P w=.ok b w)
  (xs ys:Array Value) (cs ds:List AV) (hx:CellsRel num w R g h ep xs cs) (hy:CellsRel num w R g h ep ys ds) :
  ∀ (fs:List Field) (off:Nat) (ks:List CK) (b:Bool),shapeFs F P off fs=some ks->eqCells ks (cs.drop off) (ds.drop off)=some b->(Op.eqFields d xs ys fs).run P w=.ok b w
 | [],off,ks,b,hs,he=>by
  simp only[shapeFs,Option.some.injEq]at hs
  subst hs
  cases hc:cs.drop off<;>cases hd:ds.drop off<;>rw[hc,hd]at he<;>simp[eqCells]at he
  subst he
  simp[Op.eqFields]
 | f::fs,off,ks,b,hs,he=>by
  simp only[shapeFs]at hs
  split at hs
  case isFalse=>cases hs
  rename_i hcond
  simp only[Bool.and_eq_true,bne_iff_ne,ne_eq,beq_iff_eq]at hcond
  obtain⟨⟨hname,hoff⟩,hinfo⟩:=hcond
  obtain⟨i0,hi⟩:=Option.isSome_iff_exists.1 hinfo
  cases hfk:F f.type with
  | none=>rw[hfk]at hs;cases hs
  | some ka =>
   rw[hfk]at hs
   simp only at hs
   split at hs
   case isFalse=>cases hs
   rename_i hka
   obtain⟨hka,hne⟩:=hka
   have hi0:i0.size=ka.length:=by rw[hka];simp[szT,hi]
   cases hrest:shapeFs F P (off+ka.length) fs with
   | none=>rw[hrest]at hs;cases hs
   | some kb =>
    rw[hrest]at hs
    simp only[Option.some.injEq]at hs
    subst hs
    obtain⟨⟨td,htd,hone⟩,hrun⟩:=hF f.type ka hfk
    have hlen:=Zdo he
    simp only[List.length_append,List.length_drop]at hlen
    obtain⟨b0,hb0,hbr⟩:=Zdm he
    have hpx:∀ u,(aggB td=false->xs[off]?=some u)->(part f.type xs f.offset).run P w=.ok (if aggB td then .agg (xs.extract off (off+i0.size)) else u) w:=fun u hu=>by rw[hoff];exact Zms htd hi xs off u hu
    have hpy:∀ u,(aggB td=false->ys[off]?=some u)->(part f.type ys f.offset).run P w=.ok (if aggB td then .agg (ys.extract off (off+i0.size)) else u) w:=fun u hu=>by rw[hoff];exact Zms htd hi ys off u hu
    have hsx:=hx.1
    have hsy:=hy.1
    have hpiece:∃ u v,(part f.type xs f.offset).run P w=.ok u w/\(part f.type ys f.offset).run P w=.ok v w/\ValRel num w R g h ep (aggB td) u ((cs.drop off).take ka.length)/\ValRel num w R g h ep (aggB td) v ((ds.drop off).take ka.length):=by
     cases hag:aggB td with
     | true =>
      have h1:=hpx undef (fun hf=>by rw[hag]at hf;cases hf)
      have h2:=hpy undef (fun hf=>by rw[hag]at hf;cases hf)
      rw[hag]at h1 h2
      rw[hi0]at h1 h2
      exact⟨_,_,h1,h2,⟨_,rfl,hx.cut off ka.length (by omega)⟩,⟨_,rfl,hy.cut off ka.length (by omega)⟩⟩
     | false =>
      have hl1:=hone hag
      have hxo:xs[off]?=some (xs[off]'(by omega)):=Array.getElem?_eq_getElem (by omega)
      have hyo:ys[off]?=some (ys[off]'(by omega)):=Array.getElem?_eq_getElem (by omega)
      have h1:=hpx _ (fun _=>hxo)
      have h2:=hpy _ (fun _=>hyo)
      rw[hag]at h1 h2
      have hco:cs[off]?=some (cs[off]'(by omega)):=List.getElem?_eq_getElem (by omega)
      have hdo:ds[off]?=some (ds[off]'(by omega)):=List.getElem?_eq_getElem (by omega)
      refine⟨_,_,h1,h2,⟨cs[off]'(by omega),?_,(hx.2 _ _ _ hxo hco).2⟩,⟨ds[off]'(by omega),?_,(hy.2 _ _ _ hyo hdo).2⟩⟩
      ·rw[hl1,List.drop_eq_getElem_cons (by omega)];rfl
      ·rw[hl1,List.drop_eq_getElem_cons (by omega)];rfl
    obtain⟨u,v,hu,hv,hur,hvr⟩:=hpiece
    have heq:=hrun td htd u v _ _ b0 hur hvr hb0
    simp only[Op.eqFields,hname,not_false_eq_true,ne_eq,if_true,Sem.run_bind,hu,hv,heq,Result.andThen_ok]
    cases b0 with
    | false=>simp only[Bool.false_eq_true,if_false]at hbr;subst hbr;simp
    | true =>
     simp only[if_true,List.drop_drop]at hbr
     simp only[Bool.not_true,Bool.false_eq_true,if_false]
     exact Zfd d F hF xs ys cs ds hx hy fs (off+ka.length) kb b hrest hbr
theorem Zkg:∀ (d k:Nat) (t:TypeId) (ks:List CK),shapeTy P d t=some ks->∀ td,P.underlying t=some td->∀ (u v:Value) (cs ds:List AV) (b:Bool),
   ValRel num w R g h ep (aggB td) u cs->ValRel num w R g h ep (aggB td) v ds->eqCells ks cs ds=some b->(Op.equalIn (d+k) t u v).run P w=.ok b w
 | 0,_,_,_,hs=>by cases hs
 | d+1,k,t,ks,hs=>by
  intro td htd u v cs ds b hu hv he
  rw[show d+1+k=(d+k)+1 by omega]
  simp only[shapeTy,htd]at hs
  have scalar:∀ kk:CK,some [kk]=some ks->aggB td=false->∃ c c',cs=[c]/\ds=[c']/\SRel num w R g h ep u c/\SRel num w R g h ep v c'/\eqCell kk c c'=some b:=by
   intro kk hkk hag
   obtain rfl:=Option.some.inj hkk
   rw[hag]at hu hv
   obtain⟨c,rfl,hc⟩:=hu
   obtain⟨c',rfl,hc'⟩:=hv
   refine⟨c,c',rfl,rfl,hc,hc',?_⟩
   simp only[eqCells]at he
   cases hx:eqCell kk c c' with
   | none=>rw[hx]at he;cases he
   | some b0=>rw[hx]at he;cases b0<;>simpa [eqCells] using he
  cases td<;>simp only[reduceCtorEq]at hs
  ·obtain⟨c,c',rfl,rfl,hc,hc',he'⟩:=scalar _ hs rfl
   cases c<;>cases c'<;>simp only[eqCell,reduceCtorEq]at he'
   cases hc;cases hc'
   simp only[Option.some.injEq]at he'
   rw[run_equalIn_bool' w _ t _ _ htd,he']
  ·obtain⟨c,c',rfl,rfl,hc,hc',he'⟩:=scalar _ hs rfl
   cases c<;>cases c'<;>simp only[eqCell,reduceCtorEq]at he'
   cases hc;cases hc'
   split at he'
   ·simp only[Option.some.injEq]at he'
    rename_i hkk
    subst hkk
    rw[run_equalIn_int w _ t _ _ _ _ htd,he']
   ·cases he'
  ·obtain⟨c,c',rfl,rfl,hc,hc',he'⟩:=scalar _ hs rfl
   cases c<;>cases c'<;>simp only[eqCell,reduceCtorEq]at he'
   cases hc;cases hc'
   simp only[Option.some.injEq,sEq]at he'
   rw[run_equalIn_string w _ t _ _ htd,he']
  ·rename_i fs
   split at hs
   ·cases hs
   rename_i hst
   obtain⟨xs,rfl,hx⟩:=hu
   obtain⟨ys,rfl,hy⟩:=hv
   have hfo:P.fieldsOf t=fs:=by simp[Program.fieldsOf,htd]
   rw[run_equalIn_agg w (d+k) t xs ys (by rw[hfo];exact htd) (by simpa using hst),hfo]
   refine Zfd (d+k) (shapeTy P d) ?_ xs ys cs ds hx hy fs.toList 0 ks b hs (by simpa using he)
   intro t' ks' hs'
   exact⟨Ziv hs',fun td' htd' u v cs ds b hu hv he=>Zkg d k t' ks' hs' td' htd' u v cs ds b hu hv he⟩
end
theorem Zsp(m:Mem cx s.heap s.ep g w){x1 x2:Operand}{t t':TypeId}{fs:Array Field}{op:BinOp}{neg:Bool}{ks:List CK}{y1 y2:Opd}(ho:o.op=.binOp op t x1 x2 t')(hop:op=if neg then .neq else .eql)
  (ht:cx.P.underlying t=some (.struct fs)) (hg:cx.P.eqGuardType cx.P.depth t=false) (hs:shapeTy cx.P 10 t=some ks) (h1:SRel cx.num w cx.R g s.heap s.ep (a.eval x1) (y1.ev s.slots)) (h2:SRel cx.num w cx.R g s.heap s.ep (a.eval x2) (y2.ev s.slots))
  (h:sem cl (.eqs neg ks y1 y2) key s.slots s.heap s.ep=some out):Done cx s g a w o key out:=by
 simp only[sem]at h
 generalize y1.ev s.slots=c1 at h h1
 generalize y2.ev s.slots=c2 at h h2
 generalize e1:a.eval x1=v1 at h1
 generalize e2:a.eval x2=v2 at h2
 cases c1<;>cases c2<;>simp only[reduceCtorEq]at h
 rename_i cs ds
 cases he:eqCells ks cs ds with
 | none=>rw[he]at h;cases h
 | some b =>
  rw[he]at h
  cases h1 with
  | agg xs _ hl1 ho1 hc1=>cases h2 with
   | agg ys _ hl2 ho2 hc2 =>
    have hrun:=Zkg (P:=cx.P) (num:=cx.num) (w:=w) (R:=cx.R) (g:=g) (h:=s.heap) (ep:=s.ep) 10 9990 t ks hs _ ht (.agg xs) (.agg ys) cs ds b
     ⟨xs,rfl,hl1,fun i u c hu hi=>⟨ho1 i u hu,hc1 i u c hu hi⟩⟩ ⟨ys,rfl,hl2,fun i u c hu hi=>⟨ho2 i u hu,hc2 i u c hu hi⟩⟩ he
    have hrun':(Op.equalIn 10000 t (.agg xs) (.agg ys)).run cx.P w=.ok b w:=hrun
    refine Zag m ?_ (.bool _) h
    subst hop
    cases neg
    ·simp[execOp,ho,e1,e2,run_eqGuard_agg w _ t x1 x2 xs ys hg,run_eql_struct,hrun']
    ·simp[execOp,ho,e1,e2,run_eqGuard_agg w _ t x1 x2 xs ys hg,run_neq_struct,hrun']
end
end Go.Proofs.YtfemiipgkhekiaaGreatDoor
namespace Go.Proofs.YtfemiipgkhekiaaGreatDoor
open Go Go.RowKit
set_option linter.unusedSimpArgs false
/-! ### The heap's writes, as a function -/
theorem Zeh(h:Nat->Option AO)(is:List Nat):∀ id,wsOn h (kill is) id=if id∈is then none else h id:=by
 induction is generalizing h with
 | nil=>intro id;simp[kill,wsOn]
 | cons i is ih =>
  intro id
  simp only[kill,List.map_cons,wsOn]at ih ⊢
  rw[ih]
  simp only[upd,List.mem_cons]
  by_cases h1:id∈is
  ·simp[h1]
  ·by_cases h2:id=i<;>simp[h1,h2]
structure Pushed(w w1:World)(ob:Obj):Prop where
 heap:w1.heap=w.heap.push ob
 os:w1.os=w.os
 tape:w1.tape=w.tape
 output:w1.output=w.output
theorem Pushed.new{w w1:World}{ob:Obj}(p:Pushed w w1 ob):w1.heap[w.heap.size]?=some ob:=by rw[p.heap];simp
theorem Pushed.old{w w1:World}{ob:Obj}(p:Pushed w w1 ob){b:Nat}(h:b<w.heap.size):w1.heap[b]?=w.heap[b]?:=by
 rw[p.heap,Array.getElem?_push,if_neg (by omega)]
theorem Pushed.size{w w1:World}{ob:Obj}(p:Pushed w w1 ob):w1.heap.size=w.heap.size+1:=by rw[p.heap];simp
theorem Pushed.drewAlloc(w:World)(ob:Obj):Pushed w (w.drew.alloc ob) ob:=⟨rfl,rfl,rfl,rfl⟩
theorem Pushed.alloc(w:World)(ob:Obj):Pushed w (w.alloc ob) ob:=⟨rfl,rfl,rfl,rfl⟩
def newGh(g:Gh)(w:World)(key:Nat)(v:Value)(F:Nat->Prop)(arr:Bool):Gh :=
 ⟨upd g.v key v,upd g.fp key F,g.I,fun b=>g.N b\/(arr=true/\b=w.heap.size),fun id=>g.used id\/id=key⟩
theorem Zgr{cx:Cx}{h:Nat->Option AO}{ep ep':Nat}{g:Gh}{w w1:World}(m:Mem cx h ep g w){key:Nat}(hk:¬ g.used key){is:List Nat}(his:∀ i∈is,∃ o,h i=some o){o:AO}{v:Value}{F:Nat->Prop}{ob:Obj}{arr:Bool}
  (p:Pushed w w1 ob) (hep:ep<=ep') (hF:∀ b,F b->b=w.heap.size\/∃ i oi,i∈is/\h i=some oi/\g.fp i b) :
  Touch cx (fun id=>id=key\/id∈is) h ep g w (fun id=>if id∈is then none else if id=key then some o else h id) ep' (newGh g w key v F arr) w1:=by
 have hkey:key ∉ is:=fun hm=>by obtain⟨o',ho'⟩:=his key hm;exact hk (m.used key o' ho')
 refine⟨p.os,p.tape,p.output,by rw[p.size];omega,hep,?_,?_,fun id h=>.inl h,?_,?_,?_,?_,fun _ h=>h,fun _ h=>.inl h,fun b hb=>.inl (m.I_N b hb),fun _ h=>.inl h,?_,?_⟩
 ·intro id hT
  have h1:id≠key:=fun e=>hT (.inl e)
  have h2:id ∉ is:=fun e=>hT (.inr e)
  simp[h1,h2,newGh,upd]
 ·intro b hb _
  exact p.old hb
 ·intro id o' hT ho
  by_cases h2:id∈is
  ·simp[h2]at ho
  ·exact .inr (hT.resolve_right h2)
 ·intro id o' hT hu ho
  by_cases h2:id∈is
  ·simp[h2]at ho
  ·exact absurd (hT.resolve_right h2 ▸ hu) hk
 ·intro id o' b hT ho hf
  by_cases h2:id∈is
  ·simp[h2]at ho
  ·have he:=hT.resolve_right h2
   subst he
   have hf':F b:=by simpa [newGh,upd] using hf
   rcases hF b hf' with h3|⟨i,oi,hi,hoi,hfi⟩
   ·exact⟨.inl (by omega),fun hI=>by have:=m.I_lt b hI;omega⟩
   ·exact⟨.inr ⟨i,oi,.inr hi,hoi,hfi⟩,(m.mine i oi b hoi hfi).2⟩
 ·intro id id' o' o'' b hT hT' ho ho' _ _
  have h2:id ∉ is:=fun e=>by simp[e]at ho
  have h3:id' ∉ is:=fun e=>by simp[e]at ho'
  exact (hT.resolve_right h2).trans (hT'.resolve_right h3).symm
 ·intro b hb
  rcases hb with hb|⟨_,hb⟩
  ·exact .inl hb
  ·exact .inr ⟨by omega,by rw[p.size];omega⟩
 ·intro _ b hb
  exact p.old (m.N_lt b hb)
section
variable {cx:Cx} {s:St} {g:Gh} {a:Act} {w:World} {o:Oper} {key:Nat} {out:Out} {cl:Callee}
theorem Zgg(m:Mem cx s.heap s.ep g w)(hk:¬ g.used key){us:Array Value}{cs:List AV}{e:TypeId}(hc:CellsRel cx.num w cx.R g s.heap s.ep us cs)
  (hrun:(execOp a.eval o).run cx.P w=.ok (.value (.pointer (some ⟨w.heap.size,0,none⟩))) (w.alloc (.cells us e))) (h:out=⟨.ptr key 0 0,[(key,some (.box cs))],false⟩):Done cx s g a w o key out:=by
 subst h
 have hh:wsOn s.heap [(key,some (.box cs))]=fun id=>if id∈([]:List Nat) then none else if id=key then some (.box cs) else s.heap id:=by
  funext id;simp[wsOn,upd]
 have t:=Zgr (ep':=s.ep) m hk (is:=[]) (by simp) (o:=.box cs) (v:=.pointer (some ⟨w.heap.size,0,none⟩)) (F:=fun b=>b=w.heap.size) (arr:=false) (Pushed.alloc w (.cells us e)) (Nat.le_refl _) (fun b hb=>.inl hb)
 have k:=t.keeps m
 refine⟨_,_,_,newGh g w key (.pointer (some ⟨w.heap.size,0,none⟩)) (fun b=>b=w.heap.size) false,hrun,.inl rfl,?_,?_,?_,?_⟩
 ·simp only[hh];exact k
 ·simp only[hh]
  refine t.mem m (fun id o' hT ho=>?_)
  have he:id=key:=by simpa using hT
  subst he
  simp at ho
  subst ho
  simp only[newGh,upd,if_true]
  refine⟨w.heap.size,us,e,rfl,(Pushed.alloc w _).new,hc.1,fun x=>Iff.rfl,?_,fun i u c hu hi=>⟨(hc.2 i u c hu hi).1,(hc.2 i u c hu hi).2.mono k⟩⟩
  rintro (hN|⟨h0,_⟩)
  ·have:=m.N_lt _ hN;omega
  ·cases h0
 ·simp only[hh]
  refine .ptr _ _ _ _ rfl (.inr rfl) (fun o' ho=>?_)
  simp at ho
  subst ho
  simp only[newGh,upd,if_true]
  exact⟨_,rfl,rfl⟩
 ·intro id hu
  rcases hu with hu|rfl
  ·exact .inl hu
  ·exact .inr ⟨Nat.le_refl _,by omega⟩
theorem Zn3(m:Mem cx s.heap s.ep g w)(hk:¬ g.used key){t:TypeId}{i0:TypeInfo}{z:Value}{zs:List AV}(ho:o.op=.alloc t)(hi:cx.P.info? t=some i0)(hz:i0.zero=some z)(hzr:CellsRel cx.num w cx.R g s.heap s.ep z.cells zs)
  (h:sem cl (.alloc zs) key s.slots s.heap s.ep=some out):Done cx s g a w o key out:=by
 simp only[sem,Option.some.injEq]at h
 refine Zgg m hk hzr (e:=t) ?_ h.symm
 simp[execOp,ho,Instr.alloc,zeroValue,typeInfo,hi,hz,newVar,newRow]
theorem Zr3(m:Mem cx s.heap s.ep g w)(hk:¬ g.used key){t:TypeId}{x:Operand}{y:Opd}(ho:o.op=.box t x)(h1:SRel cx.num w cx.R g s.heap s.ep (a.eval x) (y.ev s.slots))
  (h:sem cl (.box y) key s.slots s.heap s.ep=some out):Done cx s g a w o key out:=by
 simp only[sem]at h
 cases hp:(y.ev s.slots).parts with
 | none=>rw[hp]at h;cases h
 | some vs =>
  rw[hp]at h
  simp only[Option.some.injEq]at h
  refine Zgg m hk (Zd8 h1 hp) (e:=t) ?_ h.symm
  simp[execOp,ho,Instr.box,newVar,newRow]
/-! ### Arrays -/
def refId:AV->List Nat
 | .ref id=>[id]
 | _=>[]
def CellIn(h:Nat->Option AO)(g:Gh)(w:World)(u:Value)(c:AV):Option Nat->Prop
 | some id=>∃ sz xs,h id=some (.arr sz xs)/\c=.sl .own sz xs/\u=g.v id
 | none=>Cl w g.I u c (fun _=>False)
theorem Zmc{num:Nat->Option FuncId}{w:World}{R:Nat->Prop}{g:Gh}{h:Nat->Option AO}{ep:Nat}{u:Value}{x c:AV}{is:List Nat}(hr:SRel num w R g h ep u x)(ha:absorb1 h x=some (c,is)) :
  is=refId x/\CellIn h g w u c (refId x).head?:=by
 cases x<;>simp only[absorb1,reduceCtorEq,Option.some.injEq,Prod.mk.injEq]at ha
 ·obtain⟨rfl,rfl⟩:=ha;cases hr;exact⟨rfl,.bool _ _ (fun _ h=>h)⟩
 ·obtain⟨rfl,rfl⟩:=ha;cases hr;exact⟨rfl,.int _ _ _ (fun _ h=>h)⟩
 ·obtain⟨rfl,rfl⟩:=ha;cases hr;exact⟨rfl,.str _ _ (fun _ h=>h)⟩
 ·rename_i md sz xs
  cases md with
  | own=>cases xs with
   | nil =>
    simp only[Option.some.injEq,Prod.mk.injEq]at ha
    obtain⟨rfl,rfl⟩:=ha
    cases hr with
    | nil=>exact⟨rfl,.nil _ _ (fun _ h=>h)⟩
    | sl _ _ _ _ _ _ _ hown=>exact absurd rfl hown
   | cons _ _=>simp at ha
  | imm =>
   have hb:c=.sl .imm sz xs/\is=[]:=by cases xs<;>simp_all
   obtain⟨rfl,rfl⟩:=hb
   cases hr with
   | sl _ _ _ _ _ hm=>exact⟨rfl,.imm _ _ _ _ (hm rfl) (fun _ h=>h)⟩
  | bor=>cases xs<;>simp at ha
  | snap e=>cases xs<;>simp at ha
 ·rename_i id
  cases hh:h id with
  | none=>rw[hh]at ha;cases ha
  | some ob =>
   rw[hh]at ha
   cases ob<;>simp only[reduceCtorEq,Option.some.injEq,Prod.mk.injEq]at ha
   obtain⟨rfl,rfl⟩:=ha
   cases hr with
   | ref _ _ _ _ hv=>exact⟨rfl,_,_,hh,rfl,hv _ hh⟩
theorem Zc9{num:Nat->Option FuncId}{w:World}{R:Nat->Prop}{g:Gh}{h:Nat->Option AO}{ep:Nat}:∀ {vs cs:List AV} {is:List Nat},absorb h vs=some (cs,is) ->
  cs.length=vs.length/\is=vs.flatMap refId/\∀ (j:Nat) (u:Value) (x c:AV),vs[j]?=some x->cs[j]?=some c->SRel num w R g h ep u x->CellIn h g w u c (refId x).head?
 | [],cs,is,ha=>by
  simp only[absorb,Option.some.injEq,Prod.mk.injEq]at ha
  obtain⟨rfl,rfl⟩:=ha
  exact⟨rfl,rfl,fun j u x c hx=>by simp at hx⟩
 | x::vs,cs,is,ha=>by
  simp only[absorb]at ha
  cases h1:absorb1 h x with
  | none=>rw[h1]at ha;cases ha
  | some p =>
   obtain⟨d,i⟩:=p
   rw[h1]at ha
   cases h2:absorb h vs with
   | none=>rw[h2]at ha;cases ha
   | some q =>
    obtain⟨ds,js⟩:=q
    rw[h2]at ha
    simp only[Option.some.injEq,Prod.mk.injEq]at ha
    obtain⟨rfl,rfl⟩:=ha
    obtain⟨hl,hj,hc⟩:=Zc9 (num:=num) (w:=w) (R:=R) (g:=g) (ep:=ep) h2
    have hi:i=refId x:=by
     cases x<;>simp only[absorb1,reduceCtorEq,Option.some.injEq,Prod.mk.injEq]at h1<;>try (obtain⟨_,rfl⟩:=h1;rfl)
     ·rename_i md sz xs
      cases md<;>cases xs<;>simp_all[refId]
     ·rename_i id
      cases hh:h id with
      | none=>rw[hh]at h1;cases h1
      | some ob =>
       rw[hh]at h1
       cases ob<;>simp only[reduceCtorEq,Option.some.injEq,Prod.mk.injEq]at h1
       exact h1.2.symm
    refine⟨by simp[hl],by rw[List.flatMap_cons,hi,hj],fun j u y c hy hcj hr=>?_⟩
    cases j with
    | zero =>
     simp only[List.getElem?_cons_zero,Option.some.injEq]at hy hcj
     subst hy;subst hcj
     exact (Zmc hr h1).2
    | succ j=>exact hc j u y c (by simpa using hy) (by simpa using hcj) hr
theorem Za5:∀ {is:List Nat},distinct is=true->is.Nodup
 | [],_=>List.nodup_nil
 | i::is,h=>by
  simp only[distinct,Bool.and_eq_true,Bool.not_eq_true',List.contains_eq_mem,decide_eq_false_iff_not]at h
  exact List.nodup_cons.2 ⟨h.1,Za5 h.2⟩
theorem Zmv:∀ {vs:List AV},(vs.flatMap refId).Nodup->∀ {j j' id:Nat} {x y:AV},vs[j]?=some x->vs[j']?=some y->id∈refId x->id∈refId y->j=j'
 | [],_,j,_,_,_,_,hx,_,_,_=>by simp at hx
 | v::vs,hn,j,j',id,x,y,hx,hy,hix,hiy=>by
  rw[List.flatMap_cons,List.nodup_append]at hn
  obtain⟨_,h2,h3⟩:=hn
  cases j with
  | zero=>cases j' with
   | zero=>rfl
   | succ j' =>
    simp only[List.getElem?_cons_zero,Option.some.injEq]at hx
    subst hx
    exact absurd rfl (h3 id hix id (List.mem_flatMap.2 ⟨y,List.mem_of_getElem? (by simpa using hy),hiy⟩))
  | succ j=>cases j' with
   | zero =>
    simp only[List.getElem?_cons_zero,Option.some.injEq]at hy
    subst hy
    exact absurd rfl (h3 id hiy id (List.mem_flatMap.2 ⟨x,List.mem_of_getElem? (by simpa using hx),hix⟩))
   | succ j'=>exact congrArg (·+1) (Zmv h2 (id:=id) (x:=x) (y:=y) (by simpa using hx) (by simpa using hy) hix hiy)
structure Rows(w:World)(I:Nat->Prop)(sz:Nat)(xs:List (List AV))(us:Nat->Nat->Value)(fs:Nat->Nat->Nat->Prop):Prop where
 row:∀ row∈xs,row.length=sz
 cl:∀ i j c,cellAt xs i j=some c->Cl w I (us i j) c (fs i j)
 dis:∀ i j c i' j' c' x,cellAt xs i j=some c->cellAt xs i' j'=some c'->fs i j x->fs i' j' x->i=i'/\j=j'
def Fall(xs:List (List AV))(fs:Nat->Nat->Nat->Prop)(x:Nat):Prop:=∃ i j c,cellAt xs i j=some c/\fs i j x
theorem Rows.own{w w1:World}{I:Nat->Prop}{sz:Nat}{xs:List (List AV)}{us:Nat->Nat->Value}{fs:Nat->Nat->Nat->Prop}(r:Rows w I sz xs us fs){b cap:Nat}{cur:Array Value}{e:TypeId}
  (hheap:w1.heap[b]?=some (.cells cur e (0,0))) (hcap:xs.length<=cap) (hmax:cap<=maxLen) (hcur:cap*sz<=cur.size) (hcell:∀ i j c,cellAt xs i j=some c->cur[i*sz+j]?=some (us i j))
  (hsame:Same w w1 (Fall xs fs)) (hI:Same w w1 I) (hnot:¬ Fall xs fs b):Cl w1 I (.slice (some ⟨b,0,none⟩) xs.length cap) (.sl .own sz xs) (fun x=>x=b\/Fall xs fs x) :=
 .own sz xs b cap cur e us fs _ hheap hcap hmax hcur r.row hcell (fun i j c hc=>(r.cl i j c hc).mono (fun x hx=>hsame x ⟨i,j,c,hc,hx⟩) hI (fun _ h=>h)) r.dis
  (fun i j c hc hf=>hnot ⟨i,j,c,hc,hf⟩) (fun _=>Iff.rfl)
theorem Cl.rows{w:World}{I:Nat->Prop}{v:Value}{sz:Nat}{xs:List (List AV)}{S:Nat->Prop}(h:Cl w I v (.sl .own sz xs) S) :
  (v=.slice none 0 0/\xs=[]/\∀ x,¬ S x)\/∃ b cap cur e us fs,v=.slice (some ⟨b,0,none⟩) xs.length cap/\w.heap[b]?=some (.cells cur e (0,0))/\xs.length<=cap/\cap<=maxLen/\cap*sz<=cur.size /\
   (∀ i j c,cellAt xs i j=some c->cur[i*sz+j]?=some (us i j))/\Rows w I sz xs us fs/\¬ Fall xs fs b/\∀ x,S x↔x=b\/Fall xs fs x:=by
 cases h with
 | nil _ _ hS=>exact .inl ⟨rfl,rfl,hS⟩
 | own _ _ b cap cur e us fs _ hheap hcap hmax hcur hrow hcell hin hdis hnot hS =>
  exact .inr ⟨b,cap,cur,e,us,fs,rfl,hheap,hcap,hmax,hcur,hcell,⟨hrow,hin,hdis⟩,fun ⟨i,j,c,hc,hf⟩=>hnot i j c hc hf,hS⟩
theorem Zbm{xs ys:List (List AV)}{i j:Nat}:cellAt (xs++ys) i j=if i<xs.length then cellAt xs i j else cellAt ys (i-xs.length) j:=by
 unfold cellAt
 rw[List.getElem?_append]
 split<;>rfl
theorem Zcb{xs:List (List AV)}{i j:Nat}{c:AV}(h:cellAt xs i j=some c):i<xs.length:=by
 obtain⟨row,h1,_⟩:=Zaa.1 h
 exact (List.getElem?_eq_some_iff.1 h1).1
theorem Rows.append{w:World}{I:Nat->Prop}{sz:Nat}{xs ys:List (List AV)}{us vs:Nat->Nat->Value}{fs gs:Nat->Nat->Nat->Prop}(r:Rows w I sz xs us fs)(q:Rows w I sz ys vs gs)(hd:∀ x,Fall xs fs x->¬ Fall ys gs x) :
  Rows w I sz (xs++ys) (fun i j=>if i<xs.length then us i j else vs (i-xs.length) j) (fun i j=>if i<xs.length then fs i j else gs (i-xs.length) j):=by
 refine⟨fun row h=>(List.mem_append.1 h).elim (r.row row) (q.row row),fun i j c hc=>?_,fun i j c i' j' c' x hc hc' hf hf'=>?_⟩
 ·rw[Zbm]at hc
  by_cases hi:i<xs.length
  ·simp only[hi,if_true]at hc ⊢;exact r.cl i j c hc
  ·simp only[hi,if_false]at hc ⊢;exact q.cl _ j c hc
 ·rw[Zbm]at hc hc'
  by_cases hi:i<xs.length<;>by_cases hi':i'<xs.length<;>simp only[hi,hi',if_true,if_false]at hc hc' hf hf'
  ·exact r.dis i j c i' j' c' x hc hc' hf hf'
  ·exact absurd ⟨_,_,_,hc',hf'⟩ (hd x ⟨_,_,_,hc,hf⟩)
  ·exact absurd ⟨_,_,_,hc,hf⟩ (hd x ⟨_,_,_,hc',hf'⟩)
  ·obtain⟨h1,h2⟩:=q.dis _ j c _ j' c' x hc hc' hf hf'
   exact⟨by omega,h2⟩
theorem Fall.append{xs ys:List (List AV)}{fs gs:Nat->Nat->Nat->Prop}{x:Nat}(h:Fall (xs++ys) (fun i j=>if i<xs.length then fs i j else gs (i-xs.length) j) x):Fall xs fs x\/Fall ys gs x:=by
 obtain⟨i,j,c,hc,hf⟩:=h
 rw[Zbm]at hc
 by_cases hi:i<xs.length
 ·simp only[hi,if_true]at hc hf;exact .inl ⟨_,_,_,hc,hf⟩
 ·simp only[hi,if_false]at hc hf;exact .inr ⟨_,_,_,hc,hf⟩
def flatVals(n sz:Nat)(us:Nat->Nat->Value):List Value:=(List.range (n*sz)).map fun k=>us (k / sz) (k % sz)
theorem Zaj(n sz:Nat)(us:Nat->Nat->Value):(flatVals n sz us).length=n*sz:=by simp[flatVals]
theorem Zb5{n sz:Nat}{us:Nat->Nat->Value}{k:Nat}(h:k<n*sz):(flatVals n sz us)[k]?=some (us (k / sz) (k % sz)):=by
 simp[flatVals,h]
theorem Zdq{n sz:Nat}{us:Nat->Nat->Value}{i j:Nat}(hi:i<n)(hj:j<sz):(flatVals n sz us)[i*sz+j]?=some (us i j):=by
 have h1:i*sz+j<n*sz:=by
  have:(i+1)*sz<=n*sz:=Nat.mul_le_mul_right _ hi
  rw[Nat.add_mul]at this
  omega
 rw[Zb5 h1]
 have h2:(i*sz+j) / sz=i:=by rw[Nat.mul_comm,Nat.mul_add_div (by omega),Nat.div_eq_of_lt hj];rfl
 have h3:(i*sz+j) % sz=j:=by rw[Nat.mul_comm,Nat.mul_add_mod,Nat.mod_eq_of_lt hj]
 rw[h2,h3]
theorem Za6{sz:Nat}{xs:List (List AV)}(hrow:∀ row∈xs,row.length=sz){i j:Nat}(hi:i<xs.length)(hj:j<sz):∃ c,cellAt xs i j=some c:=by
 have h1:xs[i]?=some xs[i]:=List.getElem?_eq_getElem hi
 have h2:=hrow xs[i] (List.getElem_mem hi)
 exact⟨xs[i][j],Zaa.2 ⟨xs[i],h1,List.getElem?_eq_getElem (by omega)⟩⟩
theorem Zbc{sz:Nat}{xs:List (List AV)}(hrow:∀ row∈xs,row.length=sz){i j:Nat}{c:AV}(h:cellAt xs i j=some c):j<sz:=by
 obtain⟨row,h1,h2⟩:=Zaa.1 h
 have:=Zmz hrow h1
 have:=(List.getElem?_eq_some_iff.1 h2).1
 omega
def plainVal:AV->Value
 | .bool b=>.bool b
 | .int k n=>.int k n
 | .str s=>.string s
 | _=>undef
theorem Zbg{xs:List (List AV)}(h:rowsPlain xs=true){i j:Nat}{c:AV}(hc:cellAt xs i j=some c):c.plain=true:=by
 obtain⟨row,h1,h2⟩:=Zaa.1 hc
 unfold rowsPlain at h
 rw[List.all_eq_true]at h
 have:=h row (List.mem_of_getElem? h1)
 rw[List.all_eq_true]at this
 exact this c (List.mem_of_getElem? h2)
theorem Bor.plain{w:World}{R:Nat->Prop}{v:Value}{c:AV}(h:Bor w R v c)(hp:c.plain=true):v=plainVal c:=by
 cases h<;>first|rfl|simp[AV.plain]at hp
theorem Rows.plain{w:World}{I:Nat->Prop}{sz:Nat}{xs:List (List AV)}(hrow:∀ row∈xs,row.length=sz)(h:rowsPlain xs=true):Rows w I sz xs (fun i j=>((cellAt xs i j).map plainVal).getD undef) (fun _ _ _=>False):=by
 refine⟨hrow,fun i j c hc=>?_,fun _ _ _ _ _ _ _ _ _ hf=>hf.elim⟩
 have hp:=Zbg h hc
 rw[hc]
 cases c<;>simp only[AV.plain,Bool.false_eq_true]at hp
 ·exact .bool _ _ (fun _ h=>h)
 ·exact .int _ _ _ (fun _ h=>h)
 ·exact .str _ _ (fun _ h=>h)
end
end Go.Proofs.YtfemiipgkhekiaaGreatDoor
namespace Go.Proofs.YtfemiipgkhekiaaGreatDoor
open Go Go.RowKit
set_option linter.unusedSimpArgs false
section
variable {P:Program} {w:World} {t ty e:TypeId} {i0:TypeInfo}
theorem Zc7(ht:P.underlying t=some (.slice e))(hi:P.info? e=some i0)(base ad:Option Addr)(sLen sCap c:Nat)(h:sLen<=sCap) :
  (Builtin.append_ #[t,t] ty #[.slice base sLen sCap,.slice ad 0 c]).run P w=.ok (.slice base sLen sCap) w:=by
 have hf:(Builtin.firstCells i0.size 0 (.slice ad 0 c)).run P w=.ok #[] w:=by
  cases ad<;>simp[Builtin.firstCells,loadCells,loadCellsFrom]
 cases base<;>simp[Builtin.append_,run_underlying ht,sizeOf,typeInfo,hi,Builtin.lenOf,h,hf,storeCells]
theorem Zf4(ht:P.underlying t=some (.slice e))(hi:P.info? e=some i0)(e2:TypeId)(b sLen sCap:Nat)(cur:Array Value)(hg:w.heap[b]?=some (.cells cur e2 (0,0)))
  (ad:Addr) (m c:Nat) (news:List Value) (hl:news.length=m*i0.size) (hnews:∀ j u,news[j]?=some u->w.cell? (ad.add j)=some u) (h1:∀ u∈news,u.oneCell'=true)
  (hroom:sLen+m<=sCap) (hfit:sLen*i0.size+news.length<=cur.size) :
  (Builtin.append_ #[t,t] ty #[.slice (some ⟨b,0,none⟩) sLen sCap,.slice (some ad) m c]).run P w =
   .ok (.slice (some ⟨b,0,none⟩) (sLen+m) sCap) (w.setRow b (cur.toList.take (sLen*i0.size)++news++cur.toList.drop (sLen*i0.size+news.length)).toArray):=by
 have hf:=run_firstCells_some (P:=P) w i0.size m ad m c news hl hnews
 have hst:=run_storeCells_at P b (sLen*i0.size) e2 news 0 cur w hg (by simpa using hfit) h1
 simp only[Nat.add_zero]at hst
 simp[Builtin.append_,run_underlying ht,sizeOf,typeInfo,hi,Builtin.lenOf,hroom,hf,Addr.add_lit,hst]
end
section
variable {cx:Cx} {s:St} {g:Gh} {a:Act} {w:World} {o:Oper} {key:Nat} {out:Out} {cl:Callee}
theorem Zeo(m:Mem cx s.heap s.ep g w){v:Value}{x:AV}{sz:Nat}{xs:List (List AV)}(hr:SRel cx.num w cx.R g s.heap s.ep v x)(h:content s.heap s.ep x=some (sz,xs)) :
  (xs=[]/\∃ ad cap,v=.slice ad 0 cap)\/∃ (b off cap:Nat) (us:Nat->Nat->Value),v=.slice (some ⟨b,off,none⟩) xs.length cap/\(∀ row∈xs,row.length=sz) /\
   ∀ i j c,cellAt xs i j=some c->w.cell? ⟨b,off+i*sz+j,none⟩=some (us i j)/\Bor w (fun _=>True) (us i j) c:=by
 cases x<;>simp only[content,reduceCtorEq]at h
 ·rename_i md sz' ys
  cases hr with
  | nil=>simp only[Option.some.injEq,Prod.mk.injEq]at h;obtain⟨_,rfl⟩:=h;exact .inl ⟨rfl,none,0,rfl⟩
  | sl _ _ _ _ _ hm hlim hown =>
   have h':md.ok s.ep=true/\sz'=sz/\ys=xs:=by
    cases md<;>cases ys<;>simp_all[Md.ok]<;>(split at h<;>simp_all)
   obtain⟨hok,rfl,rfl⟩:=h'
   have hb:=hm hok
   cases hb with
   | nil=>exact .inl ⟨rfl,_,_,rfl⟩
   | sl _ _ _ b off cap us hcap hbk hrow hcell hin=>exact .inr ⟨b,off,cap,us,rfl,hrow,fun i j c hc=>⟨hcell i j c hc,(hin i j c hc).mono (Same.refl _ _) (fun _ _=>trivial)⟩⟩
 ·rename_i id
  cases hh:s.heap id with
  | none=>rw[hh]at h;cases h
  | some ob =>
   rw[hh]at h
   cases ob<;>simp only[reduceCtorEq,Option.some.injEq,Prod.mk.injEq]at h
   obtain⟨rfl,rfl⟩:=h
   cases hr with
   | ref _ _ _ hu hv =>
    rw[hv _ hh]
    rcases (m.objs id _ hh).1.rows with ⟨h5,h6,_⟩|⟨b,cap,cur,e',us,fs,h5,hheap,_,_,_,hcell,hrows,_⟩
    ·exact .inl ⟨h6,none,0,h5⟩
    ·exact .inr ⟨b,0,cap,us,h5,hrows.row,fun i j c hc=>⟨by rw[Zae hheap,Nat.zero_add];exact hcell i j c hc,(hrows.cl i j c hc).bor (fun _ _=>trivial) (fun _ _=>trivial)⟩⟩
 ·rename_i id lo len
  cases hh:s.heap id with
  | none=>rw[hh]at h;cases h
  | some ob =>
   rw[hh]at h
   cases ob<;>simp only[reduceCtorEq]at h
   rename_i sz0 xs0
   split at h
   case isFalse=>cases h
   rename_i hle
   simp only[Option.some.injEq,Prod.mk.injEq]at h
   obtain⟨rfl,rfl⟩:=h
   have hlen:(List.take len (List.drop lo xs0)).length=len:=by simp;omega
   cases hr with
   | view _ _ _ _ _ hu hv =>
    obtain⟨a',cap,h5,h6,h7⟩:=hv _ _ hh
    by_cases hz:len=0
    ·subst hz
     exact .inl ⟨by simp,a',cap,h5⟩
    ·obtain⟨b,n',c',h8,h9⟩:=h7 hz
     rcases (m.objs id _ hh).1.rows with ⟨_,h6,_⟩|⟨b',cap',cur,e',us,fs,h5',hheap,_,_,_,hcell,hrows,_⟩
     ·subst h6;simp at hle;omega
     ·rw[h8]at h5'
      simp only[Value.slice.injEq,Option.some.injEq,Addr.mk.injEq,and_true]at h5'
      obtain⟨rfl,_⟩:=h5'
      have hat:∀ i j c,cellAt (List.take len (List.drop lo xs0)) i j=some c->cellAt xs0 (lo+i) j=some c:=by
       intro i j c hc
       obtain⟨row,hr1,hr2⟩:=Zaa.1 hc
       refine Zaa.2 ⟨row,?_,hr2⟩
       rw[List.getElem?_take]at hr1
       split at hr1
       ·rwa [List.getElem?_drop]at hr1
       ·cases hr1
      refine .inr ⟨b,lo*sz0,cap,fun i j=>us (lo+i) j,by rw[hlen,h5,h9],fun row hr=>hrows.row row (List.mem_of_mem_drop (List.mem_of_mem_take hr)),fun i j c hc=>?_⟩
      have hc':=hat i j c hc
      refine⟨?_,(hrows.cl _ _ _ hc').bor (fun _ _=>trivial) (fun _ _=>trivial)⟩
      rw[Zae hheap,show lo*sz0+i*sz0+j=(lo+i)*sz0+j by rw[Nat.add_mul]]
      exact hcell _ _ _ hc'
structure Src(cx:Cx)(h:Nat->Option AO)(g:Gh)(w:World)(v:Value)(sz:Nat)(ys:List (List AV))(ws:List (Nat×Option AO))(us:Nat->Nat->Value)(fs:Nat->Nat->Nat->Prop)(F':Nat->Prop):Prop where
 at_:(ys=[]/\∃ ad cap,v=.slice ad 0 cap)\/∃ (b off cap:Nat),v=.slice (some ⟨b,off,none⟩) ys.length cap/\∀ i j c,cellAt ys i j=some c->w.cell? ⟨b,off+i*sz+j,none⟩=some (us i j)
 rows:Rows w g.I sz ys us fs
 left:(ws=[]/\∀ x,¬ Fall ys fs x)\/∃ id sz0 xs0 o',ws=[(id,o')]/\h id=some (.arr sz0 xs0)/\(∀ x,Fall ys fs x->g.fp id x)/\(∀ x,F' x->g.fp id x/\¬ Fall ys fs x) /\
  ∀ o1,o'=some o1->∃ xs',o1=.arr sz0 xs'/\Cl w g.I (g.v id) (.sl .own sz0 xs') F'
theorem Zso(m:Mem cx s.heap s.ep g w){v:Value}{x:AV}{flat:Bool}{sz:Nat}{ys:List (List AV)}{ws:List (Nat×Option AO)}(hr:SRel cx.num w cx.R g s.heap s.ep v x)(h:takeRows s.heap s.ep flat x=some (sz,ys,ws)) :
  ∃ us fs F',Src cx s.heap g w v sz ys ws us fs F':=by
 cases flat with
 | true =>
  simp only[takeRows]at h
  cases hc:content s.heap s.ep x with
  | none=>rw[hc]at h;cases h
  | some p =>
   obtain⟨sz1,xs⟩:=p
   rw[hc]at h
   simp only at h
   split at h
   case isFalse=>cases h
   rename_i hp
   simp only[Option.some.injEq,Prod.mk.injEq]at h
   obtain⟨rfl,rfl,rfl⟩:=h
   rcases Zeo m hr hc with ⟨rfl,h5⟩|⟨b,off,cap,us,h5,hrow,hcell⟩
   ·exact⟨_,_,fun _=>False,.inl ⟨rfl,h5⟩,Rows.plain (by simp) rfl,.inl ⟨rfl,fun x ⟨_,_,_,_,hf⟩=>hf⟩⟩
   ·refine⟨_,_,fun _=>False,.inr ⟨b,off,cap,h5,fun i j c hcc=>?_⟩,Rows.plain hrow hp,.inl ⟨rfl,fun x ⟨_,_,_,_,hf⟩=>hf⟩⟩
    obtain⟨h6,h7⟩:=hcell i j c hcc
    rw[h6,hcc,h7.plain (Zbg hp hcc)]
    rfl
 | false =>
  cases x<;>unfold takeRows at h<;>try (cases h;done)
  ·rename_i md sz' xs
   cases md<;>cases xs<;>simp only[reduceCtorEq,Option.some.injEq,Prod.mk.injEq]at h
   obtain⟨rfl,rfl,rfl⟩:=h
   cases hr with
   | nil=>exact⟨fun _ _=>undef,fun _ _ _=>False,fun _=>False,.inl ⟨rfl,none,0,rfl⟩,⟨by simp,fun i j c hc=>by simp[cellAt]at hc,fun i j c _ _ _ _ hc=>by simp[cellAt]at hc⟩,.inl ⟨rfl,fun x ⟨_,_,_,_,hf⟩=>hf⟩⟩
   | sl _ _ _ _ _ _ _ hown=>exact absurd rfl hown
  ·rename_i id
   simp only at h
   cases hh:s.heap id with
   | none=>rw[hh]at h;cases h
   | some ob =>
    rw[hh]at h
    cases ob<;>simp only[reduceCtorEq,Option.some.injEq,Prod.mk.injEq]at h
    rename_i sz0 xs0
    obtain⟨rfl,rfl,rfl⟩:=h
    cases hr with
    | ref _ _ _ hu hv =>
     have hv':=hv _ hh
     rcases (m.objs id _ hh).1.rows with ⟨h5,h6,hS⟩|⟨b,cap,cur,e',us,fs,h5,hheap,_,_,_,hcell,hrows,hnb,hS⟩
     ·subst h6
      exact⟨fun _ _=>undef,fun _ _ _=>False,fun _=>False,.inl ⟨rfl,none,0,hv'.trans h5⟩,⟨by simp,fun i j c hc=>by simp[cellAt]at hc,fun i j c _ _ _ _ hc=>by simp[cellAt]at hc⟩,
       .inr ⟨id,sz0,[],none,rfl,hh,fun x ⟨_,_,_,_,hf⟩=>hf.elim,fun _ hf=>hf.elim,fun _ he=>by cases he⟩⟩
     ·exact⟨us,fs,fun _=>False,.inr ⟨b,0,cap,hv'.trans h5,fun i j c hc=>by rw[Zae hheap,Nat.zero_add];exact hcell i j c hc⟩,hrows,
       .inr ⟨id,sz0,xs0,none,rfl,hh,fun x hx=>(hS x).2 (.inr hx),fun _ hf=>hf.elim,fun _ he=>by cases he⟩⟩
  ·rename_i id lo len
   simp only at h
   cases hh:s.heap id with
   | none=>rw[hh]at h;cases h
   | some ob =>
    rw[hh]at h
    cases ob<;>simp only[reduceCtorEq]at h
    rename_i sz0 xs0
    split at h
    case isFalse=>cases h
    rename_i hle
    simp only[Option.some.injEq,Prod.mk.injEq]at h
    obtain⟨rfl,rfl,rfl⟩:=h
    have hlen:(List.take len (List.drop lo xs0)).length=len:=by simp;omega
    have hat:∀ i j c,cellAt (List.take len (List.drop lo xs0)) i j=some c->i<len/\cellAt xs0 (lo+i) j=some c:=by
     intro i j c hc
     obtain⟨row,hr1,hr2⟩:=Zaa.1 hc
     rw[List.getElem?_take]at hr1
     split at hr1
     ·rename_i hi
      exact⟨hi,Zaa.2 ⟨row,by rwa [List.getElem?_drop]at hr1,hr2⟩⟩
     ·cases hr1
    cases hr with
    | view _ _ _ _ _ hu hv =>
     obtain⟨a',cap0,h5,h6,h7⟩:=hv _ _ hh
     rcases (m.objs id _ hh).1.rows with ⟨h8,h9,hS⟩|⟨b,cap,cur,e',us,fs,h8,hheap,hcap,hmax,hcur,hcell,hrows,hnb,hS⟩
     ·subst h9
      have hl0:len=0:=by simp at hle;omega
      have hlo:lo=0:=by simp at hle;omega
      subst hl0;subst hlo
      refine⟨fun _ _=>undef,fun _ _ _=>False,g.fp id,.inl ⟨by simp,a',cap0,h5⟩,⟨by simp,fun i j c hc=>by simp[cellAt]at hc,fun i j c _ _ _ _ hc=>by simp[cellAt]at hc⟩,
       .inr ⟨id,sz0,[],_,rfl,hh,fun x ⟨_,_,_,_,hf⟩=>hf.elim,fun x hf=>⟨hf,fun ⟨_,_,_,_,hf⟩=>hf⟩,fun o1 he=>?_⟩⟩
      obtain rfl:=Option.some.inj he
      exact⟨[],by simp,(m.objs id _ hh).1⟩
     ·refine⟨fun i j=>us (lo+i) j,fun i j=>fs (lo+i) j,fun x=>g.fp id x/\¬ Fall (List.take len (List.drop lo xs0)) (fun i j=>fs (lo+i) j) x,?_,?_,?_⟩
      ·by_cases hz:len=0
       ·subst hz;exact .inl ⟨by simp,a',cap0,h5⟩
       ·obtain⟨b',n',c',h9,h10⟩:=h7 hz
        rw[h8]at h9
        simp only[Value.slice.injEq,Option.some.injEq,Addr.mk.injEq,and_true]at h9
        obtain⟨rfl,_⟩:=h9
        refine .inr ⟨b,lo*sz0,cap0,by rw[hlen,h5,h10],fun i j c hc=>?_⟩
        rw[Zae hheap,show lo*sz0+i*sz0+j=(lo+i)*sz0+j by rw[Nat.add_mul]]
        exact hcell _ _ _ (hat i j c hc).2
      ·refine⟨fun row hr=>hrows.row row (List.mem_of_mem_drop (List.mem_of_mem_take hr)),fun i j c hc=>hrows.cl _ _ _ (hat i j c hc).2,fun i j c i' j' c' x hc hc' hf hf'=>?_⟩
       obtain⟨h11,h12⟩:=hrows.dis _ _ _ _ _ _ x (hat i j c hc).2 (hat i' j' c' hc').2 hf hf'
       exact⟨by omega,h12⟩
      ·refine .inr ⟨id,sz0,xs0,_,rfl,hh,fun x ⟨i,j,c,hc,hf⟩=>(hS x).2 (.inr ⟨_,_,_,(hat i j c hc).2,hf⟩),fun x hx=>hx,fun o1 he=>?_⟩
       obtain rfl:=Option.some.inj he
       refine⟨_,rfl,?_⟩
       have hl':(List.take lo xs0++(List.replicate len (List.replicate sz0 AV.any)++List.drop (lo+len) xs0)).length=xs0.length:=by simp;omega
       -- each cell of what is left is as it was,or dead
       have hcl:∀ i j c,cellAt (List.take lo xs0++(List.replicate len (List.replicate sz0 AV.any)++List.drop (lo+len) xs0)) i j=some c ->
         (lo<=i/\i<lo+len/\c=.any/\j<sz0)\/(¬ (lo<=i/\i<lo+len)/\cellAt xs0 i j=some c):=by
        intro i j c hc
        obtain⟨row,hr1,hr2⟩:=Zaa.1 hc
        rw[List.getElem?_append]at hr1
        have hl1:(List.take lo xs0).length=lo:=by simp;omega
        rw[hl1]at hr1
        by_cases hi:i<lo
        ·rw[if_pos hi,List.getElem?_take,if_pos hi]at hr1
         exact .inr ⟨by omega,Zaa.2 ⟨row,hr1,hr2⟩⟩
        ·rw[if_neg hi,List.getElem?_append,List.length_replicate]at hr1
         by_cases hi2:i-lo<len
         ·rw[if_pos hi2,List.getElem?_replicate,if_pos hi2]at hr1
          obtain rfl:=Option.some.inj hr1
          rw[List.getElem?_replicate]at hr2
          split at hr2
          ·exact .inl ⟨by omega,by omega,(Option.some.inj hr2).symm,by assumption⟩
          ·cases hr2
         ·rw[if_neg hi2,List.getElem?_drop]at hr1
          refine .inr ⟨by omega,Zaa.2 ⟨row,?_,hr2⟩⟩
          rw[show lo+len+(i-lo-len)=i by omega]at hr1
          exact hr1
       have hdead:∀ i j,lo<=i->i<lo+len->j<sz0->∃ c0,cellAt xs0 i j=some c0:=fun i j h1 h2 h3=>Za6 hrows.row (by omega) h3
       refine (Rows.own (w1:=w) (xs:=List.take lo xs0++(List.replicate len (List.replicate sz0 AV.any)++List.drop (lo+len) xs0)) (us:=us) (fs:=fun i j x=>¬ (lo<=i/\i<lo+len)/\fs i j x) ⟨?_,?_,?_⟩ hheap (by omega) hmax hcur ?_ (Same.refl _ _) (Same.refl _ _) ?_).blocks ?_ |> fun hfin=>by rw[h8,<- hl'];exact hfin
       ·intro row hr
        rcases List.mem_append.1 hr with hr|hr
        ·exact hrows.row row (List.mem_of_mem_take hr)
        ·rcases List.mem_append.1 hr with hr|hr
         ·rw[List.eq_of_mem_replicate hr];simp
         ·exact hrows.row row (List.mem_of_mem_drop hr)
       ·intro i j c hc
        rcases hcl i j c hc with ⟨h1,h2,rfl,h3⟩|⟨h1,h2⟩
        ·obtain⟨c0,hc0⟩:=hdead i j h1 h2 h3
         exact .any _ _ (hrows.cl _ _ _ hc0).one (fun x hx=>hx.1 ⟨h1,h2⟩)
        ·exact (hrows.cl _ _ _ h2).blocks (fun x=>⟨fun hx=>hx.2,fun hx=>⟨h1,hx⟩⟩)
       ·intro i j c i' j' c' x hc hc' hf hf'
        rcases hcl i j c hc with ⟨h1,h2,_⟩|⟨_,h2⟩
        ·exact absurd ⟨h1,h2⟩ hf.1
        ·rcases hcl i' j' c' hc' with ⟨h3,h4,_⟩|⟨_,h4⟩
         ·exact absurd ⟨h3,h4⟩ hf'.1
         ·exact hrows.dis _ _ _ _ _ _ x h2 h4 hf.2 hf'.2
       ·intro i j c hc
        rcases hcl i j c hc with ⟨h1,h2,rfl,h3⟩|⟨_,h2⟩
        ·obtain⟨c0,hc0⟩:=hdead i j h1 h2 h3
         exact hcell _ _ _ hc0
        ·exact hcell _ _ _ h2
       ·rintro⟨i,j,c,hc,hf⟩
        rcases hcl i j c hc with ⟨h1,h2,_⟩|⟨_,h2⟩
        ·exact hf.1 ⟨h1,h2⟩
        ·exact hnb ⟨_,_,_,h2,hf.2⟩
       ·intro x
        constructor
        ·rintro⟨hx,hn⟩
         rcases (hS x).1 hx with rfl|⟨i,j,c,hc,hf⟩
         ·exact .inl rfl
         ·by_cases hi:lo<=i/\i<lo+len
          ·refine absurd ⟨i-lo,j,c,?_,?_⟩ hn
           ·obtain⟨row,hr1,hr2⟩:=Zaa.1 hc
            refine Zaa.2 ⟨row,?_,hr2⟩
            rw[List.getElem?_take,if_pos (by omega),List.getElem?_drop,show lo+(i-lo)=i by omega]
            exact hr1
           ·show fs (lo+(i-lo)) j x
            rw[show lo+(i-lo)=i by omega];exact hf
          ·refine .inr ⟨i,j,c,?_,hi,hf⟩
           obtain⟨row,hr1,hr2⟩:=Zaa.1 hc
           refine Zaa.2 ⟨row,?_,hr2⟩
           have hl1:(List.take lo xs0).length=lo:=by simp;omega
           rw[List.getElem?_append,hl1]
           by_cases h1:i<lo
           ·rw[if_pos h1,List.getElem?_take,if_pos h1];exact hr1
           ·rw[if_neg h1,List.getElem?_append,List.length_replicate,if_neg (by omega),List.getElem?_drop,show lo+len+(i-lo-len)=i by omega]
            exact hr1
        ·rintro (rfl|⟨i,j,c,hc,hf⟩)
         ·exact⟨(hS x).2 (.inl rfl),fun ⟨i,j,c,hc,hf⟩=>hnb ⟨_,_,_,(hat i j c hc).2,hf⟩⟩
         ·rcases hcl i j c hc with ⟨h1,h2,_⟩|⟨_,h2⟩
          ·exact absurd ⟨h1,h2⟩ hf.1
          ·refine⟨(hS x).2 (.inr ⟨_,_,_,h2,hf.2⟩),fun ⟨i',j',c',hc',hf'⟩=>?_⟩
           obtain⟨h3,h4⟩:=hat i' j' c' hc'
           obtain⟨h5',_⟩:=hrows.dis _ _ _ _ _ _ x h2 h4 hf.2 hf'
           exact hf.1 ⟨by omega,by omega⟩
end
theorem getElem?_pre{n k:Nat}{A B C:List Value}(hA:A.length=n)(hk:k<n):(A++(B++C))[k]?=A[k]?:=List.getElem?_append_left (by omega)
theorem getElem?_mid{n m k:Nat}{A B C:List Value}(hA:A.length=n)(hB:B.length=m)(hk:k<m):(A++(B++C))[n+k]?=B[k]?:=by
 rw[List.getElem?_append_right (by omega),List.getElem?_append_left (by omega)]
 congr 1
 omega
theorem Zno{P:Program}{w:World}{I:Nat->Prop}{t ty e:TypeId}{i0:TypeInfo}{z:Value}{sz:Nat}(ht:P.underlying t=some (.slice e))(hi:P.info? e=some i0)(hz:i0.zero=some z)(hzs:z.cells.size=i0.size)(hsz:i0.size=sz)
  {v1 v2:Value} {xs ys:List (List AV)} {S0:Nat->Prop} {us:Nat->Nat->Value} {fs:Nat->Nat->Nat->Prop} (hbase:Cl w I v1 (.sl .own sz xs) S0)
  (hat:(ys=[]/\∃ ad cap,v2=.slice ad 0 cap)\/∃ (b off cap:Nat),v2=.slice (some ⟨b,off,none⟩) ys.length cap/\∀ i j c,cellAt ys i j=some c->w.cell? ⟨b,off+i*sz+j,none⟩=some (us i j))
  (hrows:ys=[]\/Rows w I sz ys us fs) (hys:ys=[]->∀ x,¬ Fall ys fs x) (hdis:∀ x,S0 x->¬ Fall ys fs x) (hIS:∀ x,S0 x->¬ I x) (hI:∀ x,I x->x<w.heap.size) (hlt:∀ x,Fall ys fs x->x<w.heap.size)
  (hb1:(xs.length+ys.length)*i0.bytes<=140737488355328) (hb2:xs.length+ys.length<=140737488355328) :
  ∃ v' w' F,(Builtin.append_ #[t,t] ty #[v1,v2]).run P w=.ok v' w'/\Cl w' I v' (.sl .own sz (xs++ys)) F/\(∀ x,F x->(w.heap.size<=x/\x<w'.heap.size)\/S0 x\/Fall ys fs x) /\
   w'.os=w.os/\w'.tape=w.tape/\w'.output=w.output/\w.heap.size<=w'.heap.size/\(∀ k,k<w.heap.size->¬ S0 k->w'.heap[k]?=w.heap[k]?):=by
 have hmx:xs.length+ys.length<=maxLen:=by unfold maxLen;omega
 by_cases hy0:ys=[]
 ·-- nothing is appended
  have h2:∃ ad cap,v2=.slice ad 0 cap:=by
   rcases hat with ⟨_,h⟩|⟨b,off,cap,h,_⟩
   ·exact h
   ·rw[hy0]at h;exact⟨_,_,h⟩
  obtain⟨ad,cap2,rfl⟩:=h2
  subst hy0
  rw[List.append_nil]
  rcases hbase.rows with ⟨rfl,rfl,hS⟩|⟨b,cap,cur,e',us',fs',rfl,hheap,hcap,_⟩
  ·exact⟨_,w,S0,Zc7 ht hi none ad 0 0 cap2 (Nat.le_refl _),hbase,fun x hx=>.inr (.inl hx),rfl,rfl,rfl,Nat.le_refl _,fun _ _ _=>rfl⟩
  ·exact⟨_,w,S0,Zc7 ht hi _ ad _ cap cap2 hcap,hbase,fun x hx=>.inr (.inl hx),rfl,rfl,rfl,Nat.le_refl _,fun _ _ _=>rfl⟩
 have hm0:0<ys.length:=List.length_pos_iff.2 hy0
 have hr:=hrows.resolve_left hy0
 obtain⟨b2,off2,cap2,rfl,hcell2⟩:=hat.resolve_left (fun h=>hy0 h.1)
 have hnl:(flatVals ys.length sz us).length=ys.length*i0.size:=by rw[Zaj,hsz]
 have hkk:∀ k,k<ys.length*sz->k / sz<ys.length/\k % sz<sz/\k / sz*sz+k % sz=k:=by
  intro k hk
  have hpos:0<sz:=by
   rcases Nat.eq_zero_or_pos sz with h|h
   ·rw[h]at hk;simp at hk
   ·exact h
  exact⟨(Nat.div_lt_iff_lt_mul hpos).2 hk,Nat.mod_lt _ hpos,by rw[Nat.mul_comm];exact Nat.div_add_mod k sz⟩
 have hnews:∀ (j:Nat) (u:Value),(flatVals ys.length sz us)[j]?=some u->w.cell? ((⟨b2,off2,none⟩:Addr).add j)=some u:=by
  intro j u hu
  have hj:j<ys.length*sz:=by have:=(List.getElem?_eq_some_iff.1 hu).1;rwa [Zaj]at this
  rw[Zb5 hj]at hu
  obtain⟨h1,h2,h3⟩:=hkk j hj
  obtain⟨c,hc⟩:=Za6 hr.row h1 h2
  rw[Zbq,<- Option.some.inj hu,<- hcell2 _ _ _ hc,Nat.add_assoc,h3]
 have hone:∀ u∈flatVals ys.length sz us,u.oneCell'=true:=by
  intro u hu
  obtain⟨j,hj⟩:=List.getElem?_of_mem hu
  have hj':j<ys.length*sz:=by have:=(List.getElem?_eq_some_iff.1 hj).1;rwa [Zaj]at this
  rw[Zb5 hj']at hj
  obtain⟨h1,h2,h3⟩:=hkk j hj'
  obtain⟨c,hc⟩:=Za6 hr.row h1 h2
  rw[<- Option.some.inj hj]
  exact (hr.cl _ _ _ hc).one
 -- a new array
 have fresh:∀ (us0:Nat->Nat->Value) (fs0:Nat->Nat->Nat->Prop) (old:Nat),Rows w I sz xs us0 fs0->(∀ x,Fall xs fs0 x->S0 x)->old<xs.length+ys.length ->
   ∀ (vr:Value) (w1:World),vr=.slice (some ⟨w.heap.size,0,none⟩) (xs.length+ys.length) (grownCap w (xs.length+ys.length) old e) ->
   Pushed w w1 (.cells (((flatVals xs.length sz us0).toArray++(flatVals ys.length sz us).toArray)++Builtin.zeroCells z.cells (grownCap w (xs.length+ys.length) old e-(xs.length+ys.length))) e) ->
   ∃ F,Cl w1 I vr (.sl .own sz (xs++ys)) F/\(∀ x,F x->(w.heap.size<=x/\x<w1.heap.size)\/S0 x\/Fall ys fs x):=by
  intro us0 fs0 old r0 hF0 hold vr w1 hvr p
  have hge:=grownCap_ge w (xs.length+ys.length) old e
  have rr:=r0.append hr (fun x hx=>hdis x (hF0 x hx))
  have hfall:∀ x,Fall (xs++ys) (fun i j=>if i<xs.length then fs0 i j else fs (i-xs.length) j) x->S0 x\/Fall ys fs x:=fun x hx=>(Fall.append hx).imp (hF0 x) id
  have hlt':∀ x,Fall (xs++ys) (fun i j=>if i<xs.length then fs0 i j else fs (i-xs.length) j) x->x<w.heap.size:=fun x hx=>(hfall x hx).elim (hbase.lt x) (hlt x)
  have hcl:=rr.own (w1:=w1) (b:=w.heap.size) (cap:=grownCap w (xs.length+ys.length) old e) p.new (by rw[List.length_append];exact hge) (grownCap_le_maxLen w _ old e hmx)
   (by simp only[Array.size_append,List.size_toArray,size_zeroCells,Zaj,hzs,hsz,<- Nat.add_mul];exact Nat.le_of_eq (by congr 1;omega))
   (by
    intro i j c hc
    have hj:=Zbc rr.row hc
    have hi:=Zcb hc
    rw[List.length_append]at hi
    rw[<- Array.getElem?_toList]
    simp only[Array.toList_append,List.append_assoc]
    by_cases h1:i<xs.length
    ·rw[if_pos h1,getElem?_pre (n:=xs.length*sz) (by simp[Zaj]) (by
      have:(i+1)*sz<=xs.length*sz:=Nat.mul_le_mul_right _ h1
      rw[Nat.add_mul]at this;omega)]
     exact Zdq h1 hj
    ·rw[if_neg h1,show i*sz+j=xs.length*sz+((i-xs.length)*sz+j) by rw[<- Nat.add_assoc,<- Nat.add_mul];congr 2;omega]
     rw[getElem?_mid (n:=xs.length*sz) (m:=ys.length*sz) (by simp[Zaj]) (by simp[Zaj]) (by
      have:((i-xs.length)+1)*sz<=ys.length*sz:=Nat.mul_le_mul_right _ (by omega)
      rw[Nat.add_mul]at this;omega)]
     exact Zdq (by omega) hj)
   (fun x hx=>p.old (hlt' x hx)) (fun x hx=>p.old (hI x hx)) (fun hx=>by have:=hlt' _ hx;omega)
  rw[List.length_append]at hcl
  refine⟨_,by rw[hvr];exact hcl,fun x hx=>?_⟩
  rcases hx with rfl|hx
  ·exact .inl ⟨Nat.le_refl _,by rw[p.size];omega⟩
  ·exact .inr (hfall x hx)
 rcases hbase.rows with ⟨rfl,rfl,hS⟩|⟨b,cap,cur,e',us0,fs0,rfl,hheap,hcap,hmax,hcur,hcell,r0,hnb,hS⟩
 ·-- out of nothing
  have hrun:=run_append_nil (P:=P) w t ty e i0 z ht hi hz ⟨b2,off2,none⟩ ys.length cap2 _ hnl hnews hm0 (by simp at hb2;omega) (by simp at hb1;omega)
  obtain⟨F,h1,h2⟩:=fresh (fun _ _=>undef) (fun _ _ _=>False) 0 ⟨by simp,fun i j c hc=>by simp[cellAt]at hc,fun i j c _ _ _ _ hc=>by simp[cellAt]at hc⟩ (fun x ⟨_,_,_,_,hf⟩=>hf.elim) (by simpa using hm0)
   (.slice (some ⟨w.heap.size,0,none⟩) ys.length (grownCap w ys.length 0 e)) (w.drew.alloc (.cells ((flatVals ys.length sz us).toArray++Builtin.zeroCells z.cells (grownCap w ys.length 0 e-ys.length)) e)) (by simp)
   (by simpa [flatVals] using Pushed.drewAlloc w (.cells ((flatVals ys.length sz us).toArray++Builtin.zeroCells z.cells (grownCap w ys.length 0 e-ys.length)) e))
  refine⟨_,_,F,hrun,h1,h2,rfl,rfl,rfl,by rw[(Pushed.drewAlloc w _).size];omega,fun k hk _=>?_⟩
  exact (Pushed.drewAlloc w _).old hk
 ·have hol:(flatVals xs.length sz us0).length=xs.length*i0.size:=by rw[Zaj,hsz]
  have holds:∀ (j:Nat) (u:Value),(flatVals xs.length sz us0)[j]?=some u->w.cell? ((⟨b,0,none⟩:Addr).add j)=some u:=by
   intro j u hu
   have hj:j<xs.length*sz:=by have:=(List.getElem?_eq_some_iff.1 hu).1;rwa [Zaj]at this
   rw[Zb5 hj]at hu
   have hpos:0<sz:=by
    rcases Nat.eq_zero_or_pos sz with h|h
    ·rw[h]at hj;simp at hj
    ·exact h
   have h1:j / sz<xs.length:=(Nat.div_lt_iff_lt_mul hpos).2 hj
   have h3:j / sz*sz+j % sz=j:=by rw[Nat.mul_comm];exact Nat.div_add_mod j sz
   obtain⟨c,hc⟩:=Za6 r0.row h1 (Nat.mod_lt j hpos)
   rw[Zbq,Nat.zero_add,Zae hheap,<- Option.some.inj hu,<- hcell _ _ _ hc,h3]
  by_cases hroom:xs.length+ys.length<=cap
  ·-- in place
   have hfit:xs.length*i0.size+(flatVals ys.length sz us).length<=cur.size:=by
    rw[hnl,hsz,<- Nat.add_mul]
    exact Nat.le_trans (Nat.mul_le_mul_right _ hroom) hcur
   have hrun:=Zf4 (ty:=ty) ht hi e' b xs.length cap cur hheap ⟨b2,off2,none⟩ ys.length cap2 _ hnl hnews hone hroom hfit
   have hd0:∀ x,Fall xs fs0 x->S0 x:=fun x hx=>(hS x).2 (.inr hx)
   have rr:=r0.append hr (fun x hx=>hdis x (hd0 x hx))
   have hSb:S0 b:=(hS b).2 (.inl rfl)
   have hother:∀ k,k≠b->∀ cs,(w.setRow b cs).heap[k]?=w.heap[k]?:=fun k hk cs=>setRow_other w b k cs hk
   have hnot:¬ Fall (xs++ys) (fun i j=>if i<xs.length then fs0 i j else fs (i-xs.length) j) b:=by
    intro hx
    rcases Fall.append hx with h1|h1
    ·exact hnb h1
    ·exact hdis b hSb h1
   have hcl:=rr.own (w1:=w.setRow b _) (b:=b) (cap:=cap) (setRow_heap w b cur (cur.toList.take (xs.length*i0.size)++flatVals ys.length sz us++cur.toList.drop (xs.length*i0.size+(flatVals ys.length sz us).length)).toArray e' (0,0) hheap)
    (by rw[List.length_append];exact hroom) hmax (by
     refine Nat.le_trans hcur ?_
     simp only[List.size_toArray,List.length_append,List.length_take,List.length_drop,Array.length_toList]
     rw[Nat.min_eq_left (by omega)]
     omega)
    (by
     intro i j c hc
     have hj:=Zbc rr.row hc
     have hi:=Zcb hc
     rw[List.length_append]at hi
     have htl:(cur.toList.take (xs.length*i0.size)).length=xs.length*sz:=by
      have hcl:cur.toList.length=cur.size:=Array.length_toList
      rw[List.length_take,hcl,hsz]
      have:xs.length*sz<=cap*sz:=Nat.mul_le_mul_right _ hcap
      omega
     rw[List.getElem?_toArray,List.append_assoc]
     by_cases h1:i<xs.length
     ·have hlt2:i*sz+j<xs.length*sz:=by
       have:(i+1)*sz<=xs.length*sz:=Nat.mul_le_mul_right _ h1
       rw[Nat.add_mul]at this;omega
      rw[if_pos h1,getElem?_pre htl hlt2,List.getElem?_take,hsz,if_pos hlt2,Array.getElem?_toList]
      rw[Zbm,if_pos h1]at hc
      exact hcell _ _ _ hc
     ·rw[if_neg h1,show i*sz+j=xs.length*sz+((i-xs.length)*sz+j) by rw[<- Nat.add_assoc,<- Nat.add_mul];congr 2;omega]
      rw[getElem?_mid htl (m:=ys.length*sz) (by simp[Zaj]) (by
       have:((i-xs.length)+1)*sz<=ys.length*sz:=Nat.mul_le_mul_right _ (by omega)
       rw[Nat.add_mul]at this;omega)]
      exact Zdq (by omega) hj)
    (fun x hx=>hother x (fun e=>hnot (e ▸ hx)) _) (fun x hx=>hother x (fun e=>hIS b hSb (e ▸ hx)) _) hnot
   rw[List.length_append]at hcl
   refine⟨_,_,_,hrun,hcl,fun x hx=>?_,rfl,rfl,rfl,?_,fun k hk hk2=>hother k (fun e=>hk2 (e ▸ hSb)) _⟩
   ·rcases hx with rfl|hx
    ·exact .inr (.inl hSb)
    ·exact .inr ((Fall.append hx).imp (hd0 x) id)
   ·simp[World.setRow]
  ·-- it grows
   have hrun:=run_append_grow (P:=P) w t ty e i0 z ht hi hz ⟨b,0,none⟩ xs.length cap _ hol holds ⟨b2,off2,none⟩ ys.length cap2 _ hnl hnews (by omega) (by omega) (growslice_fits (by omega) hb1)
   obtain⟨F,h1,h2⟩:=fresh us0 fs0 cap r0 (fun x hx=>(hS x).2 (.inr hx)) (by omega) _ _ rfl (Pushed.drewAlloc w _)
   exact⟨_,_,F,hrun,h1,h2,rfl,rfl,rfl,by rw[(Pushed.drewAlloc w _).size];omega,fun k hk _=>(Pushed.drewAlloc w _).old hk⟩
section
variable {cx:Cx} {s:St} {g:Gh} {a:Act} {w:World} {o:Oper} {key:Nat} {out:Out} {cl:Callee}
theorem Zhw(m:Mem cx s.heap s.ep g w)(hk:¬ g.used key){v':Value}{w':World}{sz:Nat}{zs:List (List AV)}{F F':Nat->Prop}{base:List Nat}{src:List (Nat×Option AO)}
  (hrun:(execOp a.eval o).run cx.P w=.ok (.value v') w') (hcl:Cl w' g.I v' (.sl .own sz zs) F)
  (hbase:base=[]\/∃ id sz0 xs0,base=[id]/\s.heap id=some (.arr sz0 xs0)) (hsrc:src=[]\/∃ id sz0 xs0 o',src=[(id,o')]/\s.heap id=some (.arr sz0 xs0)/\(∀ i∈base,i≠id)/\(∀ x,F' x->g.fp id x/\¬ F x) /\
   ∀ o1,o'=some o1->∃ xs',o1=.arr sz0 xs'/\Cl w g.I (g.v id) (.sl .own sz0 xs') F')
  (hF:∀ x,F x->(w.heap.size<=x/\x<w'.heap.size)\/∃ id o1,(id∈base\/id∈src.map (·.1))/\s.heap id=some o1/\g.fp id x)
  (hos:w'.os=w.os) (htape:w'.tape=w.tape) (hout:w'.output=w.output) (hsize:w.heap.size<=w'.heap.size) (hsame:∀ k,k<w.heap.size->(∀ id o1,id∈base->s.heap id=some o1->¬ g.fp id k)->w'.heap[k]?=w.heap[k]?)
  (h:out=⟨.ref key,(key,some (.arr sz zs))::(kill base++src),true⟩):Done cx s g a w o key out:=by
 subst h
 -- memory behind the operation,number by number
 have hheap:∀ id,wsOn s.heap ((key,some (.arr sz zs))::(kill base++src)) id=match src with
   | [(j,o')]=>if id=j then o' else if id∈base then none else if id=key then some (.arr sz zs) else s.heap id
   | _=>if id∈base then none else if id=key then some (.arr sz zs) else s.heap id:=by
  intro id
  have happ:∀ (h:Nat->Option AO) (l:List (Nat×Option AO)),wsOn h (kill base++l)=wsOn (wsOn h (kill base)) l:=by
   intro h l
   rcases hbase with rfl|⟨id,_,_,rfl,_⟩<;>simp[kill,wsOn]
  rcases hsrc with rfl|⟨j,sz0,xs0,o',rfl,_⟩
  ·rw[wsOn,happ,wsOn,Zeh];rfl
  ·rw[wsOn,happ]
   simp only[wsOn,upd,Zeh]
 have hkb:key ∉ base:=by
  rcases hbase with rfl|⟨id,sz0,xs0,rfl,hid⟩
  ·simp
  ·intro hm
   rw[List.mem_singleton.1 hm]at hk
   exact hk (m.used _ _ hid)
 have hks:∀ j o',src=[(j,o')]->key≠j:=by
  intro j o' he e
  rcases hsrc with rfl|⟨j2,sz0,xs0,o2,rfl,hj,_⟩
  ·cases he
  ·simp only[List.cons.injEq,Prod.mk.injEq,and_true]at he
   exact hk (m.used _ _ (e ▸ he.1 ▸ hj))
 have hmem:∀ id,id∈src.map (·.1)↔∃ o',src=[(id,o')]:=by
  intro id
  rcases hsrc with rfl|⟨j2,sz0,xs0,o2,rfl,hj,_⟩
  ·simp
  ·simp only[List.map_cons,List.map_nil,List.mem_singleton,List.cons.injEq,Prod.mk.injEq,and_true]
   exact⟨fun h=>⟨o2,h.symm,rfl⟩,fun ⟨_,h,_⟩=>h.symm⟩
 have hold:∀ id,id∈base\/id∈src.map (·.1)->∃ sz0 xs0,s.heap id=some (.arr sz0 xs0):=by
  rintro id (h1|h1)
  ·rcases hbase with rfl|⟨id',sz0,xs0,rfl,hid⟩
   ·simp at h1
   ·rw[List.mem_singleton.1 h1];exact⟨_,_,hid⟩
  ·obtain⟨o',ho'⟩:=(hmem id).1 h1
   rcases hsrc with rfl|⟨j2,sz0,xs0,o2,rfl,hj,_⟩
   ·cases ho'
   ·simp only[List.cons.injEq,Prod.mk.injEq,and_true]at ho'
    exact⟨_,_,ho'.1 ▸ hj⟩
 -- who lives on
 have hcases:∀ id o1,wsOn s.heap ((key,some (.arr sz zs))::(kill base++src)) id=some o1->(id=key/\o1=.arr sz zs)\/(src=[(id,some o1)]/\id≠key)\/(id≠key/\id ∉ base/\id ∉ src.map (·.1)/\s.heap id=some o1):=by
  intro id o1 ho
  rw[hheap]at ho
  rcases hsrc with rfl|⟨j,sz0,xs0,o',rfl,hj,_⟩
  ·simp only at ho
   by_cases h1:id∈base
   ·simp[h1]at ho
   ·by_cases h2:id=key
    ·simp only[h1,h2,if_false,if_true]at ho;rw[if_neg hkb]at ho;exact .inl ⟨h2,(Option.some.inj ho).symm⟩
    ·simp only[h1,h2,if_false]at ho;exact .inr (.inr ⟨h2,h1,by simp,ho⟩)
  ·simp only at ho
   by_cases h0:id=j
   ·subst h0
    simp only[if_true]at ho
    exact .inr (.inl ⟨by rw[ho],fun e=>hks _ _ rfl e.symm⟩)
   ·by_cases h1:id∈base
    ·simp[h0,h1]at ho
    ·by_cases h2:id=key
     ·simp only[h0,h1,h2,if_false,if_true]at ho
      rw[if_neg (hks _ _ rfl),if_neg hkb]at ho
      exact .inl ⟨h2,(Option.some.inj ho).symm⟩
     ·simp only[h0,h1,h2,if_false]at ho;exact .inr (.inr ⟨h2,h1,by simp;exact h0,ho⟩)
 let g':Gh:=⟨upd g.v key v',fun j=>if j=key then F else if j∈src.map (·.1) then F' else g.fp j,g.I,fun b=>g.N b\/(w.heap.size<=b/\b<w'.heap.size),fun id=>g.used id\/id=key⟩
 have hsrc':∀ id o1,src=[(id,some o1)]->∃ sz0 xs0 xs',s.heap id=some (.arr sz0 xs0)/\(∀ i∈base,i≠id)/\(∀ x,F' x->g.fp id x/\¬ F x)/\o1=.arr sz0 xs'/\Cl w g.I (g.v id) (.sl .own sz0 xs') F':=by
  intro id o1 he
  rcases hsrc with rfl|⟨j,sz0,xs0,o',rfl,hj,hb,hF',hc⟩
  ·cases he
  ·simp only[List.cons.injEq,Prod.mk.injEq,and_true]at he
   obtain⟨rfl,rfl⟩:=he
   obtain⟨xs',h1,h2⟩:=hc o1 rfl
   exact⟨sz0,xs0,xs',hj,hb,hF',h1,h2⟩
 have t:Touch cx (fun id=>id=key\/id∈base\/id∈src.map (·.1)) s.heap s.ep g w (wsOn s.heap ((key,some (.arr sz zs))::(kill base++src))) (s.ep+1) g' w':=by
  refine⟨hos,htape,hout,hsize,Nat.le_succ _,?_,?_,fun _ h=>.inl h,?_,?_,?_,?_,fun _ h=>h,fun _ h=>.inl h,fun b hb=>.inl (m.I_N b hb),fun _ h=>.inl h,fun b hb=>hb,fun he=>absurd he (by omega)⟩
  ·intro id hT
   have h1:id≠key:=fun e=>hT (.inl e)
   have h2:id ∉ base:=fun e=>hT (.inr (.inl e))
   have h3:id ∉ src.map (·.1):=fun e=>hT (.inr (.inr e))
   refine⟨?_,fun _=>⟨by simp[g',upd,h1],by simp only[g',h1,if_false];rw[if_neg h3]⟩⟩
   rw[hheap]
   rcases hsrc with rfl|⟨j,sz0,xs0,o',rfl,_⟩
   ·simp[h1,h2]
   ·simp only[List.map_cons,List.map_nil,List.mem_singleton]at h3
    simp[h1,h2,h3]
  ·intro b hb hO
   exact hsame b hb (fun id o1 hid ho hf=>hO ⟨id,o1,.inr (.inl hid),ho,hf⟩)
  ·intro id o1 hT ho
   rcases hcases id o1 ho with ⟨h1,_⟩|⟨h1,_⟩|⟨h1,h2,h3,_⟩
   ·exact .inr h1
   ·obtain⟨sz0,xs0,xs',hj,_⟩:=hsrc' id o1 h1
    exact .inl (m.used _ _ hj)
   ·rcases hT with h|h|h
    ·exact absurd h h1
    ·exact absurd h h2
    ·exact absurd h h3
  ·intro id o1 hT hu ho
   rcases hcases id o1 ho with ⟨h1,_⟩|⟨h1,hne⟩|⟨h1,h2,h3,_⟩
   ·exact absurd (h1 ▸ hu) hk
   ·obtain⟨sz0,xs0,xs',hj,_,_,rfl,_⟩:=hsrc' id o1 h1
    exact⟨_,hj,rfl,by simp[g',upd,hne]⟩
   ·rcases hT with h|h|h
    ·exact absurd h h1
    ·exact absurd h h2
    ·exact absurd h h3
  ·intro id o1 b hT ho hf
   rcases hcases id o1 ho with ⟨h1,_⟩|⟨h1,hne⟩|⟨h1,h2,h3,_⟩
   ·have hf':F b:=by simpa [g',h1] using hf
    rcases hF b hf' with h4|⟨id0,o0,h4,h5,h6⟩
    ·exact⟨.inl h4.1,fun hI=>by have:=m.I_lt b hI;omega⟩
    ·exact⟨.inr ⟨id0,o0,.inr h4,h5,h6⟩,(m.mine id0 o0 b h5 h6).2⟩
   ·obtain⟨sz0,xs0,xs',hj,_,hF',_⟩:=hsrc' id o1 h1
    have hin:id∈src.map (·.1):=by rw[h1];simp
    have hf':F' b:=by simp only[g',hne,if_false]at hf;rw[if_pos hin]at hf;exact hf
    exact⟨.inr ⟨id,_,.inr (.inr hin),hj,(hF' b hf').1⟩,(m.mine id _ b hj (hF' b hf').1).2⟩
   ·rcases hT with h|h|h
    ·exact absurd h h1
    ·exact absurd h h2
    ·exact absurd h h3
  ·intro id id' o1 o2 b hT hT' ho ho' hf hf'
   have dead:∀ i,(i=key\/i∈base\/i∈src.map (·.1))->i≠key->i ∉ base->i ∉ src.map (·.1)->False:=fun i h h1 h2 h3=>h.elim h1 (fun h=>h.elim h2 h3)
   rcases hcases id o1 ho with ⟨h1,_⟩|⟨h1,hne⟩|⟨h1,h2,h3,_⟩
   ·rcases hcases id' o2 ho' with ⟨h1',_⟩|⟨h1',hne'⟩|⟨h1',h2',h3',_⟩
    ·exact h1.trans h1'.symm
    ·obtain⟨sz0,xs0,xs',hj,_,hF',_⟩:=hsrc' id' o2 h1'
     have hin:id'∈src.map (·.1):=by rw[h1'];simp
     have hfF:F b:=by simpa [g',h1] using hf
     have hfF':F' b:=by simp only[g',hne',if_false]at hf';rw[if_pos hin]at hf';exact hf'
     exact absurd hfF (hF' b hfF').2
    ·exact (dead id' hT' h1' h2' h3').elim
   ·rcases hcases id' o2 ho' with ⟨h1',_⟩|⟨h1',hne'⟩|⟨h1',h2',h3',_⟩
    ·obtain⟨sz0,xs0,xs',hj,_,hF',_⟩:=hsrc' id o1 h1
     have hin:id∈src.map (·.1):=by rw[h1];simp
     have hfF:F b:=by simpa [g',h1'] using hf'
     have hfF':F' b:=by simp only[g',hne,if_false]at hf;rw[if_pos hin]at hf;exact hf
     exact absurd hfF (hF' b hfF').2
    ·rw[h1]at h1'
     simp only[List.cons.injEq,Prod.mk.injEq,and_true]at h1'
     exact h1'.1
    ·exact (dead id' hT' h1' h2' h3').elim
   ·exact (dead id hT h1 h2 h3).elim
 have k:=t.keeps m
 have hFN:∀ x,F x->g'.N x:=by
  intro x hx
  rcases hF x hx with h4|⟨id0,o0,h4,h5,h6⟩
  ·exact .inr h4
  ·obtain⟨sz0,xs0,h7⟩:=hold id0 h4
   exact .inl ((m.objs id0 _ h7).2 x h6)
 refine⟨_,v',w',g',hrun,.inl rfl,k,t.mem m (fun id o1 hT ho=>?_),?_,?_⟩
 ·rcases hcases id o1 ho with ⟨h1,rfl⟩|⟨h1,hne⟩|⟨h1,h2,h3,_⟩
  ·subst h1
   have e1:g'.v id=v':=by simp[g',upd]
   have e2:g'.fp id=F:=by simp[g']
   rw[e1,e2]
   exact⟨hcl,hFN⟩
  ·obtain⟨sz0,xs0,xs',hj,hb,hF',rfl,hc⟩:=hsrc' id o1 h1
   have hin:id∈src.map (·.1):=by rw[h1];simp
   have e1:g'.v id=g.v id:=by simp[g',upd,hne]
   have e2:g'.fp id=F':=by simp only[g',hne,if_false];rw[if_pos hin]
   rw[e1,e2]
   refine⟨hc.mono (fun b hb2=>?_) k.I (fun _ h=>h),fun x hx=>.inl ((m.objs id _ hj).2 x (hF' x hx).1)⟩
   refine hsame b ((m.objs id _ hj).lt b (hF' b hb2).1) (fun i oi hi hoi hfi=>?_)
   exact hb i hi (m.disj i id _ _ b hoi hj hfi (hF' b hb2).1)
  ·rcases hT with h|h|h
   ·exact absurd h h1
   ·exact absurd h h2
   ·exact absurd h h3
 ·refine .ref _ _ hcl.one (.inr rfl) (fun o1 ho=>?_)
  simp[g',upd]
 ·intro id hu
  rcases hu with hu|rfl
  ·exact .inl hu
  ·exact .inr ⟨Nat.le_refl _,by omega⟩
theorem Zbd{xs:List (List AV)}{n i j:Nat}{c:AV}(h:cellAt (xs.take n) i j=some c):cellAt xs i j=some c:=by
 obtain⟨row,h1,h2⟩:=Zaa.1 h
 rw[List.getElem?_take]at h1
 split at h1
 ·exact Zaa.2 ⟨row,h1,h2⟩
 ·cases h1
theorem Cl.take{w:World}{I:Nat->Prop}{gv v:Value}{sz:Nat}{xs:List (List AV)}{S:Nat->Prop}{n:Nat}(h:Cl w I gv (.sl .own sz xs) S)(hn:n<=xs.length)(hc:CutAt gv n v):∃ S',Cl w I v (.sl .own sz (xs.take n)) S'/\∀ x,S' x->S x:=by
 rcases hc with ⟨b',len',cap',hg,rfl⟩|⟨hg,rfl,rfl⟩
 ·cases h with
  | nil=>cases hg
  | own _ _ b cap cur e us fs S hheap hcap hmax hcur hrow hcell hin hdis hnot hS =>
   simp only[Value.slice.injEq,Option.some.injEq,Addr.mk.injEq,and_true]at hg
   obtain⟨rfl,-,-⟩:=hg
   have hl:(xs.take n).length=n:=by rw[List.length_take];omega
   have hcs:n*sz<=cur.size:=Nat.le_trans (Nat.mul_le_mul_right sz (by omega)) hcur
   refine⟨fun x=>x=b\/∃ i j c,cellAt (xs.take n) i j=some c/\fs i j x,?_,fun x hx=>?_⟩
   ·have:=Cl.own (I:=I) sz (xs.take n) b n cur e us fs _ hheap (by omega) (by omega) hcs (fun row hr=>hrow row (List.mem_of_mem_take hr)) (fun i j c hc=>hcell i j c (Zbd hc)) (fun i j c hc=>hin i j c (Zbd hc))
     (fun i j c i' j' c' x h1 h2=>hdis i j c i' j' c' x (Zbd h1) (Zbd h2)) (fun i j c hc=>hnot i j c (Zbd hc)) (fun x=>Iff.rfl)
    rw[hl]at this
    exact this
   ·rcases hx with rfl|⟨i,j,c,h1,h2⟩
    ·exact (hS _).2 (.inl rfl)
    ·exact (hS x).2 (.inr ⟨i,j,c,Zbd h1,h2⟩)
 ·exact⟨fun _=>False,.nil _ _ (fun _ h=>h),fun _ h=>h.elim⟩
theorem Zl1(m:Mem cx s.heap s.ep g w)(hk:¬ g.used key){x1 x2:Operand}{t e:TypeId}{i0:TypeInfo}{z:Value}{flat:Bool}{y1 y2:Opd}(ho:o.op=.call { callee:=.builtin .append,args:=#[x1,x2],argTypes:=#[t,t] })
  (ht:cx.P.underlying t=some (.slice e)) (hi:cx.P.info? e=some i0) (hz:i0.zero=some z) (hzs:z.cells.size=i0.size)
  (h1:SRel cx.num w cx.R g s.heap s.ep (a.eval x1) (y1.ev s.slots)) (h2:SRel cx.num w cx.R g s.heap s.ep (a.eval x2) (y2.ev s.slots))
  (h:sem cl (.append i0.size i0.bytes flat y1 y2) key s.slots s.heap s.ep=some out):Done cx s g a w o key out:=by
 simp only[sem]at h
 generalize y1.ev s.slots=c1 at h h1
 generalize e1:a.eval x1=v1 at h1
 cases htk:takeRows s.heap s.ep flat (y2.ev s.slots) with
 | none=>rw[htk]at h;cases h
 | some p =>
  obtain⟨sz',ys,ws⟩:=p
  rw[htk]at h
  simp only at h
  split at h
  case isFalse=>cases h
  rename_i hszy
  obtain⟨us,fs,F',hsrc⟩:=Zso m h2 htk
  have hrows:ys=[]\/Rows w g.I i0.size ys us fs:=by
   rcases hszy with rfl|hy
   ·exact .inr hsrc.rows
   ·exact .inl hy
  have hat:(ys=[]/\∃ ad cap,a.eval x2=.slice ad 0 cap)\/∃ (b off cap:Nat),a.eval x2=.slice (some ⟨b,off,none⟩) ys.length cap/\∀ i j c,cellAt ys i j=some c->w.cell? ⟨b,off+i*i0.size+j,none⟩=some (us i j):=by
   rcases hszy with rfl|hy
   ·exact hsrc.at_
   ·subst hy
    rcases hsrc.at_ with h|⟨b,off,cap,hv,_⟩
    ·exact .inl h
    ·exact .inl ⟨rfl,_,_,hv⟩
  have hfallold:∀ x,Fall ys fs x->∃ id sz0 xs0 o',ws=[(id,o')]/\s.heap id=some (.arr sz0 xs0)/\g.fp id x:=by
   intro x hx
   rcases hsrc.left with ⟨_,hn⟩|⟨id,sz0,xs0,o',hw,hj,hin,_⟩
   ·exact absurd hx (hn x)
   ·exact⟨id,sz0,xs0,o',hw,hj,hin x hx⟩
  have hlt:∀ x,Fall ys fs x->x<w.heap.size:=fun x hx=>by
   obtain⟨id,sz0,xs0,o',_,hj,hf⟩:=hfallold x hx
   exact (m.objs id _ hj).lt x hf
  have hys:ys=[]->∀ x,¬ Fall ys fs x:=by
   rintro rfl x ⟨i,j,c,hc,_⟩
   simp[cellAt]at hc
  -- the rest,given the base
  have fin:∀ (xs:List (List AV)) (S0:Nat->Prop) (base:List Nat),Cl w g.I v1 (.sl .own i0.size xs) S0->(base=[]/\(∀ x,¬ S0 x)\/∃ id xs',base=[id]/\s.heap id=some (.arr i0.size xs')/\∀ x,S0 x->g.fp id x) ->
    (∀ i∈base,∀ p∈ws,p.1≠i)->(xs.length+ys.length)*i0.bytes<=140737488355328->xs.length+ys.length<=140737488355328 ->
    out=⟨.ref key,(key,some (.arr i0.size (xs++ys)))::(kill base++ws),true⟩->Done cx s g a w o key out:=by
   intro xs S0 base hcl0 hb hne hb1 hb2 hout
   have hS0:∀ x,S0 x->∃ id xs',id∈base/\s.heap id=some (.arr i0.size xs')/\g.fp id x:=by
    intro x hx
    rcases hb with ⟨_,hn⟩|⟨id,xs',rfl,hid,hfp⟩
    ·exact absurd hx (hn x)
    ·exact⟨id,xs',by simp,hid,hfp x hx⟩
   have hdis:∀ x,S0 x->¬ Fall ys fs x:=by
    intro x hx hf
    obtain⟨id,_,hin,hid,hfx⟩:=hS0 x hx
    obtain⟨id',sz0,xs0,o',hw,hj,hf'⟩:=hfallold x hf
    exact hne id hin (id',o') (by rw[hw];simp) (m.disj id' id _ _ x hj hid hf' hfx)
   obtain⟨v',w',F,hrun,hcl',hF,h3,h4,h5,h6,h7⟩:=Zno (ty:=o.type) ht hi hz hzs rfl hcl0 hat hrows hys hdis (fun x hx hI=>by
    obtain⟨id,_,_,hid,hfx⟩:=hS0 x hx
    exact (m.mine id _ x hid hfx).2 hI) m.I_lt hlt hb1 hb2
   refine Zhw m hk (v':=v') (w':=w') (F:=F) (F':=fun x=>F' x) (base:=base) (src:=ws) ?_ hcl' ?_ ?_ ?_ h3 h4 h5 h6 ?_ hout
   ·simp[execOp,ho,resolve,invoke,builtin,e1,hrun]
   ·rcases hb with ⟨rfl,_⟩|⟨id,_,rfl,hid,_⟩
    ·exact .inl rfl
    ·exact .inr ⟨id,_,_,rfl,hid⟩
   ·rcases hsrc.left with ⟨hw,_⟩|⟨id,sz0,xs0,o',hw,hj,hin,hF',hc⟩
    ·exact .inl hw
    ·refine .inr ⟨id,sz0,xs0,o',hw,hj,fun i hi e=>hne i hi (id,o') (by rw[hw];simp) e.symm,fun x hx=>⟨(hF' x hx).1,fun hFx=>?_⟩,hc⟩
     rcases hF x hFx with h8|h8|h8
     ·have:=(m.objs id _ hj).lt x (hF' x hx).1;omega
     ·obtain⟨id2,_,hin2,hid2,hfx2⟩:=hS0 x h8
      exact hne id2 hin2 (id,o') (by rw[hw];simp) (m.disj id id2 _ _ x hj hid2 (hF' x hx).1 hfx2)
     ·exact (hF' x hx).2 h8
   ·intro x hx
    rcases hF x hx with h8|h8|h8
    ·exact .inl h8
    ·obtain⟨id2,_,hin2,hid2,hfx2⟩:=hS0 x h8
     exact .inr ⟨id2,_,.inl hin2,hid2,hfx2⟩
    ·obtain⟨id',sz0,xs0,o',hw,hj,hf'⟩:=hfallold x h8
     exact .inr ⟨id',_,.inr (by rw[hw];simp),hj,hf'⟩
   ·intro k hk2 hno
    refine h7 k hk2 (fun hS=>?_)
    obtain⟨id2,_,hin2,hid2,hfx2⟩:=hS0 k hS
    exact hno id2 _ hin2 hid2 hfx2
  cases c1<;>try (cases h;done)
  ·rename_i md szb xs
   cases md<;>cases xs<;>try (cases h;done)
   dsimp only at h
   split at h
   case isFalse=>cases h
   rename_i hb
   cases h1 with
   | nil=>exact fin [] (fun _=>False) [] (.nil _ _ (fun _ h=>h)) (.inl ⟨rfl,fun _ h=>h⟩) (by simp) (by simpa using hb.1) (by simpa using hb.2) (Option.some.inj h).symm
   | sl _ _ _ _ _ _ _ hown=>exact absurd rfl hown
  ·rename_i id
   dsimp only at h
   cases hh:s.heap id with
   | none=>rw[hh]at h;cases h
   | some ob =>
    rw[hh]at h
    cases ob<;>simp only[reduceCtorEq]at h
    rename_i sz2 xs
    split at h
    case isFalse=>cases h
    rename_i hb
    obtain⟨hb1,hb2,hb3,rfl⟩:=hb
    cases h1 with
    | ref _ _ _ _ hv =>
     have hv':=hv _ hh
     subst hv'
     refine fin xs (g.fp id) [id] (m.objs id _ hh).1 (.inr ⟨id,_,rfl,hh,fun _ h=>h⟩) ?_ hb1 hb2 (Option.some.inj h).symm
     intro i hi p hp
     rw[List.mem_singleton.1 hi]
     rw[List.all_eq_true]at hb3
     simpa using hb3 p hp
  ·rename_i id n
   dsimp only at h
   cases hh:s.heap id with
   | none=>rw[hh]at h;cases h
   | some ob =>
    rw[hh]at h
    cases ob<;>simp only[reduceCtorEq]at h
    rename_i sz2 xs
    split at h
    case isFalse=>cases h
    rename_i hb
    obtain⟨hb0,hb1,hb2,hb3,rfl⟩:=hb
    cases h1 with
    | cut _ _ _ _ hu hv =>
     obtain⟨S',hcl,hsub⟩:=(m.objs id _ hh).1.take hb0 (hv _ hh)
     have hl:(xs.take n).length=n:=by rw[List.length_take];omega
     refine fin (xs.take n) S' [id] hcl (.inr ⟨id,_,rfl,hh,hsub⟩) ?_ (by rw[hl];exact hb1) (by rw[hl];exact hb2) (Option.some.inj h).symm
     intro i hi p hp
     rw[List.mem_singleton.1 hi]
     rw[List.all_eq_true]at hb3
     simpa using hb3 p hp
end
end Go.Proofs.YtfemiipgkhekiaaGreatDoor
namespace Go.Proofs.YtfemiipgkhekiaaGreatDoor
open Go Go.RowKit
set_option linter.unusedSimpArgs false
theorem Zfh{P:Program}{w:World}{t e2:TypeId}{i0:TypeInfo}(hi:P.info? t=some i0){b off:Nat}{cur:Array Value}(hg:w.heap[b]?=some (.cells cur e2 (0,0)))(v:Value)(hsz:v.cells.size=i0.size)(h1:∀ u∈v.cells.toList,u.oneCell'=true)
  (hfit:off+v.cells.size<=cur.size) :
  (storeVar t ⟨b,off,none⟩ v).run P w=.ok () (w.setRow b (cur.toList.take off++v.cells.toList++cur.toList.drop (off+v.cells.size)).toArray):=by
 have hst:=run_storeCells_at P b off e2 v.cells.toList 0 cur w hg (by simpa using hfit) h1
 simp only[Nat.add_zero,Array.length_toList]at hst
 simp[storeVar,Zau hi,hsz,hst]
theorem getElem?_patch{cur vs:List Value}{o k:Nat}(hfit:o+vs.length<=cur.length):(cur.take o++vs++cur.drop (o+vs.length))[k]?=if o<=k/\k<o+vs.length then vs[k-o]? else cur[k]?:=by
 have hl:(cur.take o).length=o:=by simp;omega
 rw[List.append_assoc,List.getElem?_append,hl]
 by_cases h1:k<o
 ·rw[if_pos h1,if_neg (by omega),List.getElem?_take,if_pos h1]
 ·rw[if_neg h1,List.getElem?_append]
  by_cases h2:k-o<vs.length
  ·rw[if_pos h2,if_pos (by omega)]
  ·rw[if_neg h2,if_neg (by omega),List.getElem?_drop]
   congr 1
   omega
theorem CellsRel.one{num:Nat->Option FuncId}{w:World}{R:Nat->Prop}{g:Gh}{h:Nat->Option AO}{ep:Nat}{us:Array Value}{cs:List AV}(hc:CellsRel num w R g h ep us cs):∀ u∈us.toList,u.oneCell'=true:=by
 intro u hu
 obtain⟨j,hj⟩:=List.getElem?_of_mem hu
 rw[Array.getElem?_toList]at hj
 have hlt:=(Array.getElem?_eq_some_iff.1 hj).1
 exact (hc.2 j u _ hj (List.getElem?_eq_getElem (by rw[<- hc.1];exact hlt))).1
section
variable {cx:Cx} {s:St} {g:Gh} {a:Act} {w:World} {o:Oper} {key:Nat} {out:Out} {cl:Callee}
theorem Zh2(m:Mem cx s.heap s.ep g w){id off:Nat}{cells vs:List AV}{b:Nat}{us:Array Value}(hh:s.heap id=some (.box cells))(hv:g.v id=.pointer (some ⟨b,0,none⟩))(hc:CellsRel cx.num w cx.R g s.heap s.ep us vs)
  (hle:off+vs.length<=cells.length)
  (hrun:∀ cur e2,w.heap[b]?=some (.cells cur e2 (0,0))->off+us.size<=cur.size->(execOp a.eval o).run cx.P w=.ok .skip (w.setRow b (cur.toList.take off++us.toList++cur.toList.drop (off+us.size)).toArray))
  (h:out=⟨.any,[(id,some (.box (lay cells off vs)))],false⟩):Done cx s g a w o key out:=by
 subst h
 obtain⟨b',cur,e2,hv',hheap,hsz,hS,hN,hcs⟩:=m.objs id _ hh
 rw[hv]at hv'
 simp only[Value.pointer.injEq,Option.some.injEq,Addr.mk.injEq,and_true]at hv'
 subst hv'
 have hus:=hc.1
 have hfit:off+us.size<=cur.size:=by omega
 have hr:=hrun cur e2 hheap hfit
 have hnew:=setRow_heap w b cur (cur.toList.take off++us.toList++cur.toList.drop (off+us.size)).toArray e2 (0,0) hheap
 have hoth:∀ k,k≠b->(w.setRow b (cur.toList.take off++us.toList++cur.toList.drop (off+us.size)).toArray).heap[k]?=w.heap[k]?:=fun k hk=>setRow_other w b k _ hk
 generalize hw1:w.setRow b (cur.toList.take off++us.toList++cur.toList.drop (off+us.size)).toArray=w1 at hr hnew hoth
 have hSb:g.fp id b:=(hS b).2 rfl
 have hsize:w1.heap.size=w.heap.size:=by rw[<- hw1];simp[World.setRow]
 have hfr:w1.os=w.os/\w1.tape=w.tape/\w1.output=w.output:=by rw[<- hw1];exact⟨rfl,rfl,rfl⟩
 have hheap':wsOn s.heap [(id,some (.box (lay cells off vs)))]=upd s.heap id (some (.box (lay cells off vs))):=rfl
 have t:Touch cx (fun j=>j=id) s.heap s.ep g w (upd s.heap id (some (.box (lay cells off vs)))) s.ep g w1:=by
  refine⟨hfr.1,hfr.2.1,hfr.2.2,by omega,Nat.le_refl _,?_,?_,fun _ h=>h,?_,?_,?_,?_,fun _ h=>h,fun _ h=>.inl h,m.I_N,fun _ h=>h,fun _ h=>.inl h,?_⟩
  ·intro j hj
   exact⟨by simp[upd,hj],fun _=>⟨rfl,rfl⟩⟩
  ·intro k hk hO
   exact hoth k (fun e=>hO ⟨id,_,rfl,hh,e ▸ hSb⟩)
  ·intro j o' hj _
   rw[hj];exact m.used id _ hh
  ·intro j o' hj _ ho
   rw[hj]at ho ⊢
   simp only[upd,if_true,Option.some.injEq]at ho
   subst ho
   exact⟨_,hh,trivial,rfl⟩
  ·intro j o' k hj _ hf
   rw[hj]at hf
   exact⟨.inr ⟨id,_,rfl,hh,hf⟩,(m.mine id _ k hh hf).2⟩
  ·intro j j' _ _ k hj hj' _ _ _ _
   exact hj.trans hj'.symm
  ·intro _ k hk
   exact hoth k (fun e=>hN (e ▸ hk))
 have k:=t.keeps m
 refine⟨.skip,undef,w1,g,hr,.inr ⟨rfl,rfl⟩,k,t.mem m (fun j o' hj ho=>?_),.any _,fun _ h=>.inl h⟩
 rw[hj]at ho ⊢
 simp only[upd,if_true,Option.some.injEq]at ho
 subst ho
 refine⟨b,_,e2,hv,hnew,?_,hS,hN,fun i u c hu hci=>?_⟩
 ·rw[Zer _ _ _ hle,<- hsz]
  simp only[List.size_toArray,List.length_append,List.length_take,List.length_drop,Array.length_toList]
  rw[Nat.min_eq_left (by omega)]
  omega
 ·rw[List.getElem?_toArray,show us.size=us.toList.length by simp,getElem?_patch (by simp;omega)]at hu
  rw[Zlw _ _ _ _ hle]at hci
  simp only[Array.length_toList]at hu
  by_cases h1:off<=i/\i<off+vs.length
  ·rw[if_pos (by omega)]at hu
   rw[if_pos h1]at hci
   rw[Array.getElem?_toList]at hu
   obtain⟨h2,h3⟩:=hc.2 _ _ _ hu hci
   exact⟨h2,h3.mono k⟩
  ·rw[if_neg (by omega)]at hu
   rw[if_neg h1]at hci
   rw[Array.getElem?_toList]at hu
   obtain⟨h2,h3⟩:=hcs _ _ _ hu hci
   exact⟨h2,h3.mono k⟩
def srcFp(g:Gh):Option Nat->Nat->Prop
 | some id=>g.fp id
 | none=>fun _=>False
theorem CellIn.closed(m:Mem cx s.heap s.ep g w){u:Value}{c:AV}{src:Option Nat}(h:CellIn s.heap g w u c src):Cl w g.I u c (srcFp g src):=by
 cases src with
 | none=>exact h
 | some id =>
  obtain⟨sz,xs,hh,rfl,rfl⟩:=h
  exact (m.objs id _ hh).1
theorem CellIn.alive{u:Value}{c:AV}{id:Nat}(h:CellIn s.heap g w u c (some id)):∃ sz xs,s.heap id=some (.arr sz xs):=by
 obtain⟨sz,xs,hh,_⟩:=h
 exact⟨sz,xs,hh⟩
theorem Za7{xs:List (List AV)}{i:Nat}{row:List AV}(hi:i<xs.length)(i' j:Nat):cellAt (xs.set i row) i' j=if i'=i then row[j]? else cellAt xs i' j:=by
 unfold cellAt
 rw[List.getElem?_set]
 by_cases h:i=i'
 ·subst h;simp[hi]
 ·simp[h,Ne.symm h]
def srcAt(vs:List AV)(k:Nat):Option Nat:=(((vs[k]?).map refId).getD []).head?
theorem Ze2{vs:List AV}{k id:Nat}(h:srcAt vs k=some id):∃ x,vs[k]?=some x/\id∈refId x:=by
 unfold srcAt at h
 cases hx:vs[k]? with
 | none=>rw[hx]at h;simp at h
 | some x =>
  rw[hx]at h
  exact⟨x,rfl,List.mem_of_mem_head? (by simpa using h)⟩
theorem Zkh{vs:List AV}{k id:Nat}(h:srcAt vs k=some id):id∈vs.flatMap refId:=by
 obtain⟨x,hx,hm⟩:=Ze2 h
 exact List.mem_flatMap.2 ⟨x,List.mem_of_getElem? hx,hm⟩
theorem Zkb{vs:List AV}(hn:(vs.flatMap refId).Nodup){k k' id:Nat}(h:srcAt vs k=some id)(h':srcAt vs k'=some id):k=k':=by
 obtain⟨x,hx,hm⟩:=Ze2 h
 obtain⟨y,hy,hm'⟩:=Ze2 h'
 exact Zmv hn hx hy hm hm'
theorem Zd3{vs:List AV}{k:Nat}{x:AV}(h:vs[k]?=some x):srcAt vs k=(refId x).head?:=by simp[srcAt,h]
theorem Zhv(m:Mem cx s.heap s.ep g w){id i off sz:Nat}{xs:List (List AV)}{row vs cs:List AV}{is:List Nat}{b n cap:Nat}{us:Array Value}(hh:s.heap id=some (.arr sz xs))(hv:g.v id=.slice (some ⟨b,0,none⟩) n cap)
  (hrow:xs[i]?=some row) (hc:CellsRel cx.num w cx.R g s.heap s.ep us vs) (ha:absorb s.heap vs=some (cs,is)) (hle:off+cs.length<=row.length) (hdist:distinct (id::is)=true)
  (hrun:∀ cur e2,w.heap[b]?=some (.cells cur e2 (0,0))->(i*sz+off)+us.size<=cur.size->(execOp a.eval o).run cx.P w=.ok .skip (w.setRow b (cur.toList.take (i*sz+off)++us.toList++cur.toList.drop ((i*sz+off)+us.size)).toArray))
  (h:out=⟨.any,(id,some (.arr sz (xs.set i (lay row off cs))))::kill is,true⟩):Done cx s g a w o key out:=by
 subst h
 have hlt:=(List.getElem?_eq_some_iff.1 hrow).1
 obtain⟨hcl0,hN0⟩:=m.objs id _ hh
 obtain⟨hcsl,hisv,hcells⟩:=Zc9 (num:=cx.num) (w:=w) (R:=cx.R) (g:=g) (ep:=s.ep) ha
 have hnd:=Za5 hdist
 rw[hisv]at hnd
 obtain⟨hidn,hnd⟩:=List.nodup_cons.1 hnd
 rw[<- hisv]at hidn
 rcases hcl0.rows with ⟨h5,h6,_⟩|⟨b',cap',cur,e2,us0,fs,h5,hheap,hcap,hmax,hcur,hcell,r0,hnb,hS⟩
 ·rw[h6]at hlt;simp at hlt
 rw[hv]at h5
 simp only[Value.slice.injEq,Option.some.injEq,Addr.mk.injEq,and_true]at h5
 obtain⟨rfl,rfl,rfl⟩:=h5
 have hrl:=Zmz r0.row hrow
 have hus:=hc.1
 have hin1:(i+1)*sz<=cap*sz:=Nat.mul_le_mul_right _ (by omega)
 rw[Nat.add_mul,Nat.one_mul]at hin1
 have hfit:(i*sz+off)+us.size<=cur.size:=by omega
 have hr:=hrun cur e2 hheap hfit
 have hnew:=setRow_heap w b cur (cur.toList.take (i*sz+off)++us.toList++cur.toList.drop ((i*sz+off)+us.size)).toArray e2 (0,0) hheap
 have hoth:∀ k,k≠b->(w.setRow b (cur.toList.take (i*sz+off)++us.toList++cur.toList.drop ((i*sz+off)+us.size)).toArray).heap[k]?=w.heap[k]?:=fun k hk=>setRow_other w b k _ hk
 generalize hw1:w.setRow b (cur.toList.take (i*sz+off)++us.toList++cur.toList.drop ((i*sz+off)+us.size)).toArray=w1 at hr hnew hoth
 have hSb:g.fp id b:=(hS b).2 (.inl rfl)
 have hsize:w1.heap.size=w.heap.size:=by rw[<- hw1];simp[World.setRow]
 have hfr:w1.os=w.os/\w1.tape=w.tape/\w1.output=w.output:=by rw[<- hw1];exact⟨rfl,rfl,rfl⟩
 -- what moved in
 have hsrc:∀ k c,cs[k]?=some c->∃ u,us[k]?=some u/\CellIn s.heap g w u c (srcAt vs k):=by
  intro k c hk
  have hk1:=(List.getElem?_eq_some_iff.1 hk).1
  have hu:us[k]?=some (us[k]'(by omega)):=Array.getElem?_eq_getElem (by omega)
  have hx:vs[k]?=some (vs[k]'(by omega)):=List.getElem?_eq_getElem (by omega)
  refine⟨_,hu,?_⟩
  rw[Zd3 hx]
  exact hcells k _ _ c hx hk (hc.2 k _ _ hu hx).2
 have halive:∀ k j,k<cs.length->srcAt vs k=some j->j∈is/\j≠id/\∃ sz0 xs0,s.heap j=some (.arr sz0 xs0):=by
  intro k j hk hj
  have hm:j∈is:=by rw[hisv];exact Zkh hj
  obtain⟨u,_,h2⟩:=hsrc k _ (List.getElem?_eq_getElem hk)
  rw[hj]at h2
  exact⟨hm,fun e=>hidn (e ▸ hm),h2.alive⟩
 have hisalive:∀ j∈is,∃ o1,s.heap j=some o1:=by
  intro j hj
  rw[hisv]at hj
  obtain⟨x,hx,hjx⟩:=List.mem_flatMap.1 hj
  obtain⟨k,hk⟩:=List.getElem?_of_mem hx
  have hk1:=(List.getElem?_eq_some_iff.1 hk).1
  have hs:srcAt vs k=some j:=by
   rw[Zd3 hk]
   cases x<;>simp[refId]at hjx ⊢
   exact hjx.symm
  obtain⟨_,_,sz0,xs0,ho⟩:=halive k j (by omega) hs
  exact⟨_,ho⟩
 -- the new rows
 have hcat:∀ i' j c,cellAt (xs.set i (lay row off cs)) i' j=some c->(i'=i/\off<=j/\j<off+cs.length/\cs[j-off]?=some c)\/(¬ (i'=i/\off<=j/\j<off+cs.length)/\cellAt xs i' j=some c):=by
  intro i' j c hcc
  rw[Za7 hlt]at hcc
  by_cases h1:i'=i
  ·rw[if_pos h1,Zlw _ _ _ _ hle]at hcc
   by_cases h2:off<=j/\j<off+cs.length
   ·rw[if_pos h2]at hcc;exact .inl ⟨h1,h2.1,h2.2,hcc⟩
   ·rw[if_neg h2]at hcc;exact .inr ⟨fun h=>h2 h.2,Zaa.2 ⟨row,by rw[h1];exact hrow,hcc⟩⟩
  ·rw[if_neg h1]at hcc;exact .inr ⟨fun h=>h1 h.1,hcc⟩
 let fs':Nat->Nat->Nat->Prop:=fun i' j x=>if i'=i/\off<=j/\j<off+cs.length then srcFp g (srcAt vs (j-off)) x else fs i' j x
 let us':Nat->Nat->Value:=fun i' j=>if i'=i/\off<=j/\j<off+cs.length then us[j-off]?.getD undef else us0 i' j
 have hsrcfp:∀ k x,k<cs.length->srcFp g (srcAt vs k) x->∃ j sz0 xs0,srcAt vs k=some j/\j∈is/\j≠id/\s.heap j=some (.arr sz0 xs0)/\g.fp j x:=by
  intro k x hk hx
  cases hj:srcAt vs k with
  | none=>rw[hj]at hx;exact hx.elim
  | some j =>
   rw[hj]at hx
   obtain⟨h1,h2,sz0,xs0,h3⟩:=halive k j hk hj
   exact⟨j,sz0,xs0,rfl,h1,h2,h3,hx⟩
 have rr:Rows w g.I sz (xs.set i (lay row off cs)) us' fs':=by
  refine⟨fun r hr'=>?_,fun i' j c hcc=>?_,fun i1 j1 c1 i2 j2 c2 x hc1 hc2 hf1 hf2=>?_⟩
  ·rcases List.mem_or_eq_of_mem_set hr' with h1|h1
   ·exact r0.row r h1
   ·rw[h1,Zer _ _ _ hle];exact hrl
  ·rcases hcat i' j c hcc with ⟨h1,h2,h3,h4⟩|⟨h1,h2⟩
   ·have hif:i'=i/\off<=j/\j<off+cs.length:=⟨h1,h2,h3⟩
    obtain⟨u,h5,h6⟩:=hsrc _ _ h4
    simp only[us',fs',hif,and_self,if_true,h5,Option.getD_some]
    exact h6.closed m
   ·simp only[us',fs',h1,if_false]
    exact r0.cl i' j c h2
  ·rcases hcat i1 j1 c1 hc1 with ⟨h1,h2,h3,h4⟩|⟨h1,h2⟩<;>rcases hcat i2 j2 c2 hc2 with ⟨k1,k2,k3,k4⟩|⟨k1,k2⟩
   ·have hi1:i1=i/\off<=j1/\j1<off+cs.length:=⟨h1,h2,h3⟩
    have hi2:i2=i/\off<=j2/\j2<off+cs.length:=⟨k1,k2,k3⟩
    simp only[fs',hi1,hi2,and_self,if_true]at hf1 hf2
    obtain⟨a1,_,_,p1,_,_,p2,p3⟩:=hsrcfp _ _ (by omega) hf1
    obtain⟨a2,_,_,q1,_,_,q2,q3⟩:=hsrcfp _ _ (by omega) hf2
    have:=m.disj a1 a2 _ _ x p2 q2 p3 q3
    subst this
    have:=Zkb hnd p1 q1
    exact⟨by omega,by omega⟩
   ·have hi1:i1=i/\off<=j1/\j1<off+cs.length:=⟨h1,h2,h3⟩
    simp only[fs',hi1,k1,and_self,if_true,if_false]at hf1 hf2
    obtain⟨a1,_,_,p1,_,p0,p2,p3⟩:=hsrcfp _ _ (by omega) hf1
    exact absurd (m.disj a1 id _ _ x p2 hh p3 ((hS x).2 (.inr ⟨_,_,_,k2,hf2⟩))) p0
   ·have hi2:i2=i/\off<=j2/\j2<off+cs.length:=⟨k1,k2,k3⟩
    simp only[fs',hi2,h1,and_self,if_true,if_false]at hf1 hf2
    obtain⟨a1,_,_,p1,_,p0,p2,p3⟩:=hsrcfp _ _ (by omega) hf2
    exact absurd (m.disj a1 id _ _ x p2 hh p3 ((hS x).2 (.inr ⟨_,_,_,h2,hf1⟩))) p0
   ·simp only[fs',h1,k1,if_false]at hf1 hf2
    exact r0.dis _ _ _ _ _ _ x h2 k2 hf1 hf2
 have hfall:∀ x,Fall (xs.set i (lay row off cs)) fs' x->(g.fp id x/\x≠b)\/∃ j o1,j∈is/\j≠id/\s.heap j=some o1/\g.fp j x:=by
  rintro x ⟨i',j,c,hcc,hf⟩
  rcases hcat i' j c hcc with ⟨h1,h2,h3,h4⟩|⟨h1,h2⟩
  ·have hi1:i'=i/\off<=j/\j<off+cs.length:=⟨h1,h2,h3⟩
   simp only[fs',hi1,and_self,if_true]at hf
   obtain⟨a1,_,_,p1,p,p0,p2,p3⟩:=hsrcfp _ _ (by omega) hf
   exact .inr ⟨a1,_,p,p0,p2,p3⟩
  ·simp only[fs',h1,if_false]at hf
   exact .inl ⟨(hS x).2 (.inr ⟨_,_,_,h2,hf⟩),fun e=>hnb (e ▸ ⟨_,_,_,h2,hf⟩)⟩
 have hnotb:¬ Fall (xs.set i (lay row off cs)) fs' b:=by
  intro hx
  rcases hfall b hx with ⟨_,h1⟩|⟨j,o1,_,h2,h3,h4⟩
  ·exact h1 rfl
  ·exact h2 (m.disj j id _ _ b h3 hh h4 hSb)
 have hIb:¬ g.I b:=(m.mine id _ b hh hSb).2
 have hcl1:=rr.own (w1:=w1) (b:=b) (cap:=cap) hnew (by rw[List.length_set];exact hcap) hmax (by
   refine Nat.le_trans hcur ?_
   simp only[List.size_toArray,List.length_append,List.length_take,List.length_drop,Array.length_toList]
   rw[Nat.min_eq_left (by omega)]
   omega)
  (by
   intro i' j c hcc
   have hj:=Zbc rr.row hcc
   have hi':=Zcb hcc
   rw[List.length_set]at hi'
   rw[List.getElem?_toArray,show us.size=us.toList.length by simp,getElem?_patch (by simp;omega)]
   simp only[Array.length_toList,Array.getElem?_toList]
   rcases hcat i' j c hcc with ⟨h1,h2,h3,h4⟩|⟨h1,h2⟩
   ·have hif:i'=i/\off<=j/\j<off+cs.length:=⟨h1,h2,h3⟩
    rw[if_pos (by rw[h1];omega)]
    obtain⟨u,h5,_⟩:=hsrc _ _ h4
    simp only[us',hif,and_self,if_true]
    rw[show i*sz+j-(i*sz+off)=j-off by omega,h5]
    rfl
   ·simp only[us',h1,if_false]
    rw[if_neg,hcell _ _ _ h2]
    rintro⟨h3,h4⟩
    -- the place would lie in another row
    have hii:i'=i:=by
     rcases Nat.lt_trichotomy i' i with hlt'|heq|hgt
     ·have:(i'+1)*sz<=i*sz:=Nat.mul_le_mul_right _ hlt'
      rw[Nat.add_mul]at this;omega
     ·exact heq
     ·have:(i+1)*sz<=i'*sz:=Nat.mul_le_mul_right _ hgt
      rw[Nat.add_mul]at this;omega
    subst hii
    exact h1 ⟨rfl,by omega,by omega⟩)
  (fun x hx=>hoth x (fun e=>hnotb (e ▸ hx))) (fun x hx=>hoth x (fun e=>hIb (e ▸ hx))) hnotb
 have hheap':∀ j,wsOn s.heap ((id,some (.arr sz (xs.set i (lay row off cs))))::kill is) j=if j∈is then none else if j=id then some (.arr sz (xs.set i (lay row off cs))) else s.heap j:=by
  intro j
  rw[wsOn,Zeh]
  rfl
 have hlive:∀ j o1,(j=id\/j∈is)->wsOn s.heap ((id,some (.arr sz (xs.set i (lay row off cs))))::kill is) j=some o1->j=id/\o1=.arr sz (xs.set i (lay row off cs)):=by
  intro j o1 hj ho
  rw[hheap']at ho
  by_cases h1:j∈is
  ·simp[h1]at ho
  ·have h2:=hj.resolve_right h1
   simp only[h1,if_false]at ho
   rw[if_pos h2]at ho
   exact⟨h2,(Option.some.inj ho).symm⟩
 let F':Nat->Prop:=fun x=>x=b\/Fall (xs.set i (lay row off cs)) fs' x
 have hF':∀ x,F' x->Of (fun j=>j=id\/j∈is) s.heap g x:=by
  rintro x (rfl|hx)
  ·exact⟨id,_,.inl rfl,hh,hSb⟩
  ·rcases hfall x hx with ⟨h1,_⟩|⟨j,o1,h1,_,h3,h4⟩
   ·exact⟨id,_,.inl rfl,hh,h1⟩
   ·exact⟨j,o1,.inr h1,h3,h4⟩
 have hfpid:upd g.fp id F' id=F':=by simp[upd]
 have t:Touch cx (fun j=>j=id\/j∈is) s.heap s.ep g w (wsOn s.heap ((id,some (.arr sz (xs.set i (lay row off cs))))::kill is)) (s.ep+1) ⟨g.v,upd g.fp id F',g.I,g.N,g.used⟩ w1:=by
  refine⟨hfr.1,hfr.2.1,hfr.2.2,by omega,Nat.le_succ _,?_,?_,fun _ h=>h,?_,?_,?_,?_,fun _ h=>h,fun _ h=>.inl h,m.I_N,fun _ h=>h,fun _ h=>.inl h,fun he=>absurd he (by omega)⟩
  ·intro j hj
   have h1:j≠id:=fun e=>hj (.inl e)
   have h2:j ∉ is:=fun e=>hj (.inr e)
   exact⟨by rw[hheap'];simp[h1,h2],fun _=>⟨rfl,by simp[upd,h1]⟩⟩
  ·intro k hk hO
   exact hoth k (fun e=>hO ⟨id,_,.inl rfl,hh,e ▸ hSb⟩)
  ·intro j o1 hj ho
   obtain⟨rfl,_⟩:=hlive j o1 hj ho
   exact m.used _ _ hh
  ·intro j o1 hj _ ho
   obtain⟨rfl,rfl⟩:=hlive j o1 hj ho
   exact⟨_,hh,rfl,rfl⟩
  ·intro j o1 x hj ho hf
   obtain⟨rfl,_⟩:=hlive j o1 hj ho
   have hf':F' x:=by rw[<- hfpid];exact hf
   obtain⟨j2,o2,h1,h2,h3⟩:=hF' x hf'
   exact⟨.inr ⟨j2,o2,h1,h2,h3⟩,(m.mine j2 o2 x h2 h3).2⟩
  ·intro j j' o1 o2 x hj hj' ho ho' _ _
   exact (hlive j o1 hj ho).1.trans (hlive j' o2 hj' ho').1.symm
 have k:=t.keeps m
 refine⟨.skip,undef,w1,_,hr,.inr ⟨rfl,rfl⟩,k,t.mem m (fun j o1 hj ho=>?_),.any _,fun _ h=>.inl h⟩
 obtain⟨rfl,rfl⟩:=hlive j o1 hj ho
 show ORel _ _ _ _ _ _ (g.v j) (upd g.fp j F' j) _
 rw[hfpid,hv]
 rw[List.length_set]at hcl1
 refine⟨hcl1,fun x hx=>?_⟩
 rcases hx with rfl|hx
 ·exact hN0 _ hSb
 ·rcases hfall x hx with ⟨h1,_⟩|⟨j2,o2,h1,_,h3,h4⟩
  ·exact hN0 x h1
  ·obtain⟨k2,hk2⟩:∃ k2,srcAt vs k2=some j2/\k2<cs.length:=by
    rw[hisv]at h1
    obtain⟨y,hy,hjy⟩:=List.mem_flatMap.1 h1
    obtain⟨k2,hk2⟩:=List.getElem?_of_mem hy
    refine⟨k2,?_,by have:=(List.getElem?_eq_some_iff.1 hk2).1;omega⟩
    rw[Zd3 hk2]
    cases y<;>simp[refId]at hjy ⊢
    exact hjy.symm
   obtain⟨_,_,sz0,xs0,h5⟩:=halive k2 j2 hk2.2 hk2.1
   exact (m.objs j2 _ h5).2 x h4
theorem Cl.plain_val{w:World}{I:Nat->Prop}{v:Value}{c:AV}{S:Nat->Prop}(h:Cl w I v c S)(hp:c.plain=true):v=plainVal c/\∀ x,¬ S x:=by
 cases h<;>first|(simp[AV.plain]at hp;done)|exact⟨rfl,by assumption⟩
theorem Zjo{zs:List (List AV)}{vs:List AV}{j:Nat}(h:rowsPlain zs=true)(hv:vs.all AV.plain=true):rowsPlain (zs.set j vs)=true:=by
 unfold rowsPlain at *
 rw[List.all_eq_true]at *
 intro r hr
 rcases List.mem_or_eq_of_mem_set hr with h1|h1
 ·exact h r h1
 ·rw[h1,List.all_eq_true];exact hv
theorem Zkl{w w1:World}{I:Nat->Prop}{u:Value}{sz:Nat}{zs:List (List AV)}{S:Nat->Prop}(hcl:Cl w I u (.sl .own sz zs) S)(hp:rowsPlain zs=true){j:Nat}(hj:j<zs.length){vs:List AV}(hv:vs.all AV.plain=true)(hvl:vs.length=sz) :
  ∃ b cap cur e,u=.slice (some ⟨b,0,none⟩) zs.length cap/\w.heap[b]?=some (.cells cur e (0,0))/\j*sz+sz<=cur.size/\S b /\
   ∀ vals:Array Value,vals.size=sz->(∀ (k:Nat) (c:AV),vs[k]?=some c->vals[k]?=some (plainVal c))->w1.heap[b]?=some (.cells (cur.toList.take (j*sz)++vals.toList++cur.toList.drop (j*sz+vals.size)).toArray e (0,0))->Same w w1 I->Cl w1 I u (.sl .own sz (zs.set j vs)) S:=by
 rcases hcl.rows with ⟨_,h6,_⟩|⟨b,cap,cur,e,us,fs,h5,hheap,hcap,hmax,hcur,hcell,r0,hnb,hS⟩
 ·rw[h6]at hj;simp at hj
 have hin1:(j+1)*sz<=cap*sz:=Nat.mul_le_mul_right _ (by omega)
 rw[Nat.add_mul,Nat.one_mul]at hin1
 refine⟨b,cap,cur,e,h5,hheap,by omega,(hS b).2 (.inl rfl),fun vals hvs hval hw1 hI=>?_⟩
 have hrow':∀ row∈zs.set j vs,row.length=sz:=fun r hr=>by
  rcases List.mem_or_eq_of_mem_set hr with h1|h1
  ·exact r0.row r h1
  ·rw[h1];exact hvl
 have rp:=Rows.plain (w:=w1) (I:=I) hrow' (Zjo (j:=j) hp hv)
 have key:=rp.own (w1:=w1) (b:=b) (cap:=cap) hw1 (by rw[List.length_set];exact hcap) hmax (by
   refine Nat.le_trans hcur ?_
   simp only[List.size_toArray,List.length_append,List.length_take,List.length_drop,Array.length_toList]
   rw[Nat.min_eq_left (by omega)]
   omega)
  (by
   intro i' k c hcc
   have hk:=Zbc hrow' hcc
   have hi':=Zcb hcc
   rw[List.length_set]at hi'
   rw[List.getElem?_toArray,show vals.size=vals.toList.length by simp,getElem?_patch (by simp;omega)]
   simp only[Array.length_toList,Array.getElem?_toList,hcc,Option.map_some,Option.getD_some]
   rw[Za7 hj]at hcc
   by_cases h1:i'=j
   ·rw[if_pos h1]at hcc
    rw[if_pos (by rw[h1];omega),h1,show j*sz+k-j*sz=k by omega]
    exact hval k c hcc
   ·rw[if_neg h1]at hcc
    have hne:¬ (j*sz<=i'*sz+k/\i'*sz+k<j*sz+vals.size):=by
     rintro⟨h3,h4⟩
     rcases Nat.lt_or_gt_of_ne h1 with hlt'|hgt
     ·have:(i'+1)*sz<=j*sz:=Nat.mul_le_mul_right _ hlt'
      rw[Nat.add_mul]at this;omega
     ·have:(j+1)*sz<=i'*sz:=Nat.mul_le_mul_right _ hgt
      rw[Nat.add_mul]at this;omega
    rw[if_neg hne,hcell _ _ _ hcc,((r0.cl _ _ _ hcc).plain_val (Zbg hp hcc)).1])
  (fun _ hx=>by obtain⟨_,_,_,_,hf⟩:=hx;exact hf.elim) (fun _ _=>rfl) (fun ⟨_,_,_,_,hf⟩=>hf)
 rw[h5]
 rw[List.length_set]at key
 refine key.blocks fun x=>?_
 rw[hS x]
 constructor
 ·rintro (h1|⟨i',k,c,hc,hf⟩)
  ·exact .inl h1
  ·exact absurd hf (((r0.cl _ _ _ hc).plain_val (Zbg hp hc)).2 x)
 ·rintro (h1|⟨_,_,_,_,hf⟩)
  ·exact .inl h1
  ·exact hf.elim
theorem Zhu(m:Mem cx s.heap s.ep g w){x1 x2:Operand}{t:TypeId}{i0:TypeInfo}{v1:Value}{e id i off j sz2:Nat}{vs:List AV}(ho:o.op=.store t x1 x2)(hi:cx.P.info? t=some i0)(e1:a.eval x1=v1)
  (h1:SRel cx.num w cx.R g s.heap s.ep v1 (.inp e id i off j sz2)) (hc:CellsRel cx.num w cx.R g s.heap s.ep (a.eval x2).cells vs)
  (h:(if vs.length=i0.size/\e=s.ep/\vs.all AV.plain then match s.heap id with
   | some (.arr sz' xs)=>match xs[i]? with
    | none=>none
    | some row=>match row[off]? with
     | some (.sl .own sz3 ys)=>if j<ys.length/\sz3=sz2/\i0.size=sz2/\rowsPlain ys=true then some (⟨.any,[(id,some (.arr sz' (xs.set i (row.set off (.sl .own sz3 (ys.set j vs))))))],true⟩:Out) else none
     | _=>none
   | _=>none
   else none)=some out):Done cx s g a w o key out:=by
 split at h
 case isFalse=>cases h
 rename_i hcond
 obtain⟨hlen,rfl,hpl⟩:=hcond
 cases hh:s.heap id with
 | none=>rw[hh]at h;cases h
 | some ob =>
  rw[hh]at h
  cases ob<;>simp only[reduceCtorEq]at h
  rename_i sz xs
  cases hrow:xs[i]? with
  | none=>rw[hrow]at h;cases h
  | some row =>
   rw[hrow]at h
   simp only at h
   split at h
   case h_2=>cases h
   rename_i sz3 ys hro
   split at h
   case isFalse=>cases h
   rename_i hq
   obtain⟨hj,rfl,hsz,hrp⟩:=hq
   obtain rfl:=Option.some.inj h
   cases h1 with
   | inp _ _ _ _ _ _ _ _ hu _ hv =>
    obtain⟨b,n,c,b2,n2,c2,hg,hNb,hcell,hv1⟩:=hv rfl _ _ hh
    obtain⟨hcl0,hN0⟩:=m.objs id _ hh
    rcases hcl0.rows with ⟨h5,h6,_⟩|⟨b',cap',cur,e2,us,fs,h5,hheap,hcap,hmax,hcur,hcellm,r0,hnb,hS⟩
    ·rw[h6]at hrow;simp at hrow
    have hg0:=hg
    rw[hg]at h5
    simp only[Value.slice.injEq,Option.some.injEq,Addr.mk.injEq,and_true]at h5
    obtain⟨rfl,rfl,rfl⟩:=h5
    have hca:cellAt xs i off=some (.sl .own sz3 ys):=Zaa.2 ⟨row,hrow,hro⟩
    have huv:us i off=.slice (some ⟨b2,0,none⟩) n2 c2:=by
     have h7:=hcellm i off _ hca
     rw[Zae hheap,h7]at hcell
     exact Option.some.inj hcell
    have hlt:=(List.getElem?_eq_some_iff.1 hrow).1
    have holt:=(List.getElem?_eq_some_iff.1 hro).1
    have hMS:∀ x,fs i off x->g.fp id x:=fun x hx=>(hS x).2 (.inr ⟨i,off,_,hca,hx⟩)
    have hMI:∀ x,fs i off x->¬ g.I x:=fun x hx=>(m.mine id _ x hh (hMS x hx)).2
    have hvals:∀ k c,vs[k]?=some c->(a.eval x2).cells[k]?=some (plainVal c):=fun k c hk=>by
     have hk1:=(List.getElem?_eq_some_iff.1 hk).1
     have hs:=hc.1
     have hu2:(a.eval x2).cells[k]?=some ((a.eval x2).cells[k]'(by omega)):=Array.getElem?_eq_getElem (by omega)
     rw[hu2]
     have hpc:c.plain=true:=List.all_eq_true.1 hpl c (List.mem_of_getElem? hk)
     have:=(hc.2 k _ _ hu2 hk).2
     generalize (a.eval x2).cells[k]=vv at this ⊢
     cases this<;>first|rfl|(simp[AV.plain]at hpc)
    obtain⟨b3,cap3,cur3,e3,h6,hheap3,hfit,hSb3,hmk⟩:=Zkl (w1:=w.setRow b2 (match w.heap[b2]? with
     | some (.cells cur3 _ _)=>(cur3.toList.take (j*sz3)++(a.eval x2).cells.toList++cur3.toList.drop (j*sz3+(a.eval x2).cells.size)).toArray
     | _=>#[])) (r0.cl i off _ hca) hrp hj hpl (by omega)
    rw[huv]at h6
    simp only[Value.slice.injEq,Option.some.injEq,Addr.mk.injEq,and_true]at h6
    obtain⟨rfl,rfl,rfl⟩:=h6
    have hsz2:(a.eval x2).cells.size=sz3:=by rw[hc.1];omega
    have hr:=Zfh (P:=cx.P) (t:=t) hi hheap3 (a.eval x2) (by rw[hc.1,hlen]) hc.one (off:=j*sz3) (by omega)
    have hrun:(execOp a.eval o).run cx.P w=.ok .skip (w.setRow b2 (cur3.toList.take (j*sz3)++(a.eval x2).cells.toList++cur3.toList.drop (j*sz3+(a.eval x2).cells.size)).toArray):=by
     subst hv1
     simp[execOp,ho,e1,Instr.storeAt,Instr.sureAddr,hr]
    rw[hheap3]at hmk
    simp only at hmk
    have hnewb:=setRow_heap w b2 cur3 (cur3.toList.take (j*sz3)++(a.eval x2).cells.toList++cur3.toList.drop (j*sz3+(a.eval x2).cells.size)).toArray e3 (0,0) hheap3
    have hoth:∀ k,k≠b2->(w.setRow b2 (cur3.toList.take (j*sz3)++(a.eval x2).cells.toList++cur3.toList.drop (j*sz3+(a.eval x2).cells.size)).toArray).heap[k]?=w.heap[k]?:=fun k hk=>setRow_other w b2 k _ hk
    have hsize:(w.setRow b2 (cur3.toList.take (j*sz3)++(a.eval x2).cells.toList++cur3.toList.drop (j*sz3+(a.eval x2).cells.size)).toArray).heap.size=w.heap.size:=by simp[World.setRow]
    have hsame:Same w (w.setRow b2 (cur3.toList.take (j*sz3)++(a.eval x2).cells.toList++cur3.toList.drop (j*sz3+(a.eval x2).cells.size)).toArray) g.I:=fun x hx=>hoth x (fun e=>hMI b2 hSb3 (e ▸ hx))
    have hnew:=hmk (a.eval x2).cells hsz2 hvals hnewb hsame
    have hfr:(w.setRow b2 (cur3.toList.take (j*sz3)++(a.eval x2).cells.toList++cur3.toList.drop (j*sz3+(a.eval x2).cells.size)).toArray).os=w.os/\(w.setRow b2 (cur3.toList.take (j*sz3)++(a.eval x2).cells.toList++cur3.toList.drop (j*sz3+(a.eval x2).cells.size)).toArray).tape=w.tape/\(w.setRow b2 (cur3.toList.take (j*sz3)++(a.eval x2).cells.toList++cur3.toList.drop (j*sz3+(a.eval x2).cells.size)).toArray).output=w.output:=⟨rfl,rfl,rfl⟩
    generalize w.setRow b2 (cur3.toList.take (j*sz3)++(a.eval x2).cells.toList++cur3.toList.drop (j*sz3+(a.eval x2).cells.size)).toArray=w1 at *
    have hcat:∀ i' k c,cellAt (xs.set i (row.set off (.sl .own sz3 (ys.set j vs)))) i' k=some c->(i'=i/\k=off/\c=.sl .own sz3 (ys.set j vs))\/(¬ (i'=i/\k=off)/\cellAt xs i' k=some c):=by
     intro i' k c hcc
     rw[Za7 hlt]at hcc
     by_cases h7:i'=i
     ·rw[if_pos h7,List.getElem?_set]at hcc
      by_cases h8:off=k
      ·rw[if_pos h8,if_pos holt]at hcc
       exact .inl ⟨h7,h8.symm,(Option.some.inj hcc).symm⟩
      ·rw[if_neg h8]at hcc
       exact .inr ⟨fun h=>h8 h.2.symm,Zaa.2 ⟨row,by rw[h7];exact hrow,hcc⟩⟩
     ·rw[if_neg h7]at hcc
      exact .inr ⟨fun h=>h7 h.1,hcc⟩
    have hbb2:b≠b2:=fun e=>hnb (e ▸ ⟨i,off,_,hca,hSb3⟩)
    have hrowl:∀ r∈xs.set i (row.set off (.sl .own sz3 (ys.set j vs))),r.length=sz:=fun r hr'=>by
     rcases List.mem_or_eq_of_mem_set hr' with h7|h7
     ·exact r0.row r h7
     ·rw[h7,List.length_set];exact r0.row row (List.mem_of_getElem? hrow)
    have hold:∀ i' k c,cellAt (xs.set i (row.set off (.sl .own sz3 (ys.set j vs)))) i' k=some c->∃ c0,cellAt xs i' k=some c0:=fun i' k c hcc=>by
     rcases hcat i' k c hcc with ⟨rfl,rfl,_⟩|⟨_,h7⟩
     ·exact⟨_,hca⟩
     ·exact⟨_,h7⟩
    have hcl2:Cl w1 g.I (g.v id) (.sl .own sz (xs.set i (row.set off (.sl .own sz3 (ys.set j vs))))) (g.fp id):=by
     rw[hg0]
     have hll:(xs.set i (row.set off (.sl .own sz3 (ys.set j vs)))).length=xs.length:=List.length_set
     rw[<- hll]
     refine .own sz _ b c cur e2 us fs _ (by rw[hoth b hbb2];exact hheap) (by rw[hll];exact hcap) hmax hcur hrowl (fun i' k c hcc=>?_) (fun i' k c hcc=>?_) (fun i1 k1 c1 i2 k2 c2 x hc1 hc2 hf1 hf2=>?_) (fun i' k c hcc hf=>?_) (fun x=>?_)
     ·obtain⟨c0,h7⟩:=hold i' k c hcc
      exact hcellm _ _ _ h7
     ·rcases hcat i' k c hcc with ⟨rfl,rfl,rfl⟩|⟨h7,h8⟩
      ·exact hnew
      ·exact (r0.cl i' k c h8).mono (fun x hx=>hoth x (fun e=>h7 (r0.dis i' k c i off _ x h8 hca hx (e ▸ hSb3)))) hsame (fun _ h=>h)
     ·obtain⟨_,h7⟩:=hold _ _ _ hc1
      obtain⟨_,h8⟩:=hold _ _ _ hc2
      exact r0.dis _ _ _ _ _ _ x h7 h8 hf1 hf2
     ·obtain⟨_,h7⟩:=hold _ _ _ hcc
      exact hnb ⟨_,_,_,h7,hf⟩
     ·rw[hS x]
      refine or_congr Iff.rfl ⟨fun ⟨i',k,c,h7,h8⟩=>?_,fun ⟨i',k,c,h7,h8⟩=>?_⟩
      ·have hi':=Zcb h7
       have hk':=Zbc r0.row h7
       obtain⟨c',h9⟩:=Za6 hrowl (i:=i') (j:=k) (by rw[List.length_set];exact hi') hk'
       exact⟨i',k,c',h9,h8⟩
      ·obtain⟨c0,h9⟩:=hold _ _ _ h7
       exact⟨i',k,c0,h9,h8⟩
    have t:Touch cx (fun k=>k=id) s.heap s.ep g w (wsOn s.heap [(id,some (.arr sz (xs.set i (row.set off (.sl .own sz3 (ys.set j vs))))))]) (s.ep+1) g w1:=by
     refine⟨hfr.1,hfr.2.1,hfr.2.2,by omega,Nat.le_succ _,?_,?_,fun _ h=>h,?_,?_,?_,?_,fun _ h=>h,fun _ h=>.inl h,m.I_N,fun _ h=>h,fun _ h=>.inl h,fun he=>absurd he (by omega)⟩
     ·intro k hk
      exact⟨by simp[wsOn,upd,hk],fun _=>⟨rfl,rfl⟩⟩
     ·intro x _ hO
      exact hoth x (fun e=>hO ⟨id,_,rfl,hh,e ▸ hMS b2 hSb3⟩)
     ·intro k o1 hk _
      rw[hk];exact hu
     ·intro k o1 hk _ ho1
      subst hk
      simp only[wsOn,upd,if_true,Option.some.injEq]at ho1
      exact⟨_,hh,by rw[<- ho1];rfl,rfl⟩
     ·intro k o1 x hk ho1 hf
      subst hk
      exact⟨.inr ⟨k,_,rfl,hh,hf⟩,(m.mine k _ x hh hf).2⟩
     ·intro k k' _ _ x hk hk' _ _ _ _
      exact hk.trans hk'.symm
    refine⟨.skip,undef,w1,g,hrun,.inr ⟨rfl,rfl⟩,t.keeps m,t.mem m (fun k o1 hk ho1=>?_),.any _,fun _ h=>.inl h⟩
    subst hk
    simp only[wsOn,upd,if_true,Option.some.injEq]at ho1
    subst ho1
    exact⟨hcl2,hN0⟩
theorem Zop(m:Mem cx s.heap s.ep g w){x1 x2:Operand}{t:TypeId}{i0:TypeInfo}{y1 y2:Opd}(ho:o.op=.store t x1 x2)(hi:cx.P.info? t=some i0)
  (h1:SRel cx.num w cx.R g s.heap s.ep (a.eval x1) (y1.ev s.slots)) (h2:SRel cx.num w cx.R g s.heap s.ep (a.eval x2) (y2.ev s.slots))
  (h:sem cl (.store y1 y2 i0.size) key s.slots s.heap s.ep=some out):Done cx s g a w o key out:=by
 simp only[sem]at h
 generalize y1.ev s.slots=c1 at h h1
 generalize e1:a.eval x1=v1 at h1
 cases hp:(y2.ev s.slots).parts with
 | none=>rw[hp]at h;cases c1<;>cases h
 | some vs =>
  rw[hp]at h
  have hc:=Zd8 h2 hp
  cases c1<;>try (cases h;done)
  case inp e id i off j sz2=>exact Zhu m ho hi e1 h1 hc h
  rename_i id i off
  dsimp only at h
  split at h
  case isFalse=>cases h
  rename_i hlen
  cases hh:s.heap id with
  | none=>rw[hh]at h;cases h
  | some ob =>
   rw[hh]at h
   cases h1 with
   | ptr _ _ _ _ _ _ hv =>
    have hpt:=hv ob hh
    have hrun:∀ (b off2:Nat),v1=.pointer (some ⟨b,off2,none⟩)->∀ cur e2,w.heap[b]?=some (.cells cur e2 (0,0))->off2+(a.eval x2).cells.size<=cur.size ->
      (execOp a.eval o).run cx.P w=.ok .skip (w.setRow b (cur.toList.take off2++(a.eval x2).cells.toList++cur.toList.drop (off2+(a.eval x2).cells.size)).toArray):=by
     intro b off2 hb cur e2 hg hfit
     have:=Zfh (P:=cx.P) hi hg (a.eval x2) (by rw[hc.1,hlen]) hc.one hfit
     subst hb
     simp[execOp,ho,e1,Instr.storeAt,Instr.sureAddr,this]
    cases ob with
    | box cells =>
     dsimp only at h
     split at h
     case isFalse=>cases h
     rename_i hle
     obtain⟨b,hg,he⟩:=hpt
     exact Zh2 m hh hg hc (by omega) (hrun b off he) (Option.some.inj h).symm
    | arr sz xs =>
     dsimp only at h
     obtain⟨b,n,cp,hg,he⟩:=hpt
     cases hx:xs[i]? with
     | none=>rw[hx]at h;cases h
     | some row =>
      rw[hx]at h
      cases ha:absorb s.heap vs with
      | none=>rw[ha]at h;cases h
      | some q =>
       obtain⟨us,is⟩:=q
       rw[ha]at h
       dsimp only at h
       split at h
       case isFalse=>cases h
       rename_i hle
       obtain⟨hl,_⟩:=Zc9 (num:=cx.num) (w:=w) (R:=cx.R) (g:=g) (ep:=s.ep) ha
       exact Zhv m hh hg hx hc ha (by omega) hle.2 (hrun b _ he) (Option.some.inj h).symm
    | map _ _=>cases h
end
end Go.Proofs.YtfemiipgkhekiaaGreatDoor
namespace Go.Proofs.YtfemiipgkhekiaaGreatDoor
open Go Go.RowKit
set_option linter.unusedSimpArgs false
/-! ### Zero values -/
def zeroB:Value->AV->Bool
 | .bool a,.bool b=>a == b
 | .int k n,.int k' n'=>decide (k=k') && n == n'
 | .string s,.str t=>s.data == t.data
 | .slice none 0 0,.sl .own _ []=>true
 | v,.any=>v.oneCell'
 | _,_=>false
def zerosB:List Value->List AV->Bool
 | [],[]=>true
 | v::vs,c::cs=>zeroB v c && zerosB vs cs
 | _,_=>false
theorem Zis{v:Value}{c:AV}(h:zeroB v c=true)(w:World)(I:Nat->Prop):Cl w I v c (fun _=>False):=by
 unfold zeroB at h
 split at h
 ·rw[eq_of_beq h];exact .bool _ _ (fun _ h=>h)
 ·simp only[Bool.and_eq_true,decide_eq_true_eq,beq_iff_eq]at h
  obtain⟨rfl,rfl⟩:=h
  exact .int _ _ _ (fun _ h=>h)
 ·rename_i s t
  have:=eq_of_beq h
  have he:s=t:=by cases s;cases t;simpa using this
  subst he
  exact .str _ _ (fun _ h=>h)
 ·exact .nil _ _ (fun _ h=>h)
 ·exact .any _ _ h (fun _ h=>h)
 ·cases h
theorem Zg5{v:Value}{c:AV}(h:zeroB v c=true)(num:Nat->Option FuncId)(w:World)(R:Nat->Prop)(g:Gh)(hp:Nat->Option AO)(ep:Nat):v.oneCell'=true/\SRel num w R g hp ep v c:=by
 refine⟨(Zis h w (fun _=>False)).one,?_⟩
 unfold zeroB at h
 split at h
 ·rw[eq_of_beq h];exact .bool _
 ·simp only[Bool.and_eq_true,decide_eq_true_eq,beq_iff_eq]at h
  obtain⟨rfl,rfl⟩:=h
  exact .int _ _
 ·rename_i s t
  have:=eq_of_beq h
  have he:s=t:=by cases s;cases t;simpa using this
  subst he
  exact .str _
 ·exact .nil _
 ·exact .any _
 ·cases h
theorem Zcj:∀ {vs:List Value} {cs:List AV},zerosB vs cs=true->vs.length=cs.length/\∀ (j:Nat) (u:Value) (c:AV),vs[j]?=some u->cs[j]?=some c->zeroB u c=true
 | [],[],_=>⟨rfl,fun j u c h=>by simp at h⟩
 | v::vs,c::cs,h=>by
  simp only[zerosB,Bool.and_eq_true]at h
  obtain⟨h1,h2⟩:=Zcj h.2
  refine⟨by simp[h1],fun j u d hu hd=>?_⟩
  cases j with
  | zero =>
   simp only[List.getElem?_cons_zero,Option.some.injEq]at hu hd
   subst hu;subst hd
   exact h.1
  | succ j=>exact h2 j u d (by simpa using hu) (by simpa using hd)
 | [],_::_,h=>by cases h
 | _::_,[],h=>by cases h
theorem Zfn{z:Value}{zs:List AV}(h:zerosB z.cells.toList zs=true)(num:Nat->Option FuncId)(w:World)(R:Nat->Prop)(g:Gh)(hp:Nat->Option AO)(ep:Nat):CellsRel num w R g hp ep z.cells zs:=by
 obtain⟨h1,h2⟩:=Zcj h
 refine⟨by simpa using h1,fun i u c hu hc=>Zg5 (h2 i u c (by simpa using hu) hc) _ _ _ _ _ _⟩
theorem Zfv{h:Nat->Option AO}:∀ {vs cs:List AV} {is:List Nat},absorb h vs=some (cs,is)->∀ i∈is,∃ sz0 xs0,h i=some (.arr sz0 xs0)
 | [],cs,is,ha,i,hi=>by
  simp only[absorb,Option.some.injEq,Prod.mk.injEq]at ha
  rw[<- ha.2]at hi
  simp at hi
 | x::vs,cs,is,ha,i,hi=>by
  simp only[absorb]at ha
  cases h1:absorb1 h x with
  | none=>rw[h1]at ha;cases ha
  | some p =>
   obtain⟨d,i1⟩:=p
   rw[h1]at ha
   cases h2:absorb h vs with
   | none=>rw[h2]at ha;cases ha
   | some q =>
    obtain⟨ds,js⟩:=q
    rw[h2]at ha
    simp only[Option.some.injEq,Prod.mk.injEq]at ha
    rw[<- ha.2]at hi
    rcases List.mem_append.1 hi with h3|h3
    ·cases x<;>simp only[absorb1,reduceCtorEq,Option.some.injEq,Prod.mk.injEq]at h1<;>try (rw[<- h1.2]at h3;simp at h3;done)
     ·rename_i md sz xs
      cases md<;>cases xs<;>simp only[reduceCtorEq,Option.some.injEq,Prod.mk.injEq]at h1<;>(rw[<- h1.2]at h3;simp at h3)
     ·rename_i id
      cases hh:h id with
      | none=>rw[hh]at h1;cases h1
      | some ob =>
       rw[hh]at h1
       cases ob<;>simp only[reduceCtorEq,Option.some.injEq,Prod.mk.injEq]at h1
       rw[<- h1.2,List.mem_singleton]at h3
       exact⟨_,_,h3 ▸ hh⟩
    ·exact Zfv h2 i h3
section
variable {cx:Cx} {s:St} {g:Gh} {a:Act} {w:World} {o:Oper} {key:Nat} {out:Out} {cl:Callee}
theorem Zfu(m:Mem cx s.heap s.ep g w)(hk:¬ g.used key){sz:Nat}{rows:List (List AV)}{is:List Nat}{us:Nat->Nat->Value}{fs:Nat->Nat->Nat->Prop}{cur:Array Value}{e:TypeId}{w1:World}
  (hrows:Rows w g.I sz rows us fs) (hcell:∀ i j c,cellAt rows i j=some c->cur[i*sz+j]?=some (us i j)) (hcur:rows.length*sz<=cur.size) (hmax:rows.length<=maxLen)
  (his:∀ i∈is,∃ sz0 xs0,s.heap i=some (.arr sz0 xs0)) (hF:∀ x,Fall rows fs x->∃ i sz0 xs0,i∈is/\s.heap i=some (.arr sz0 xs0)/\g.fp i x) (p:Pushed w w1 (.cells cur e))
  (hrun:(execOp a.eval o).run cx.P w=.ok (.value (.slice (some ⟨w.heap.size,0,none⟩) rows.length rows.length)) w1) (h:out=⟨.ref key,(key,some (.arr sz rows))::kill is,false⟩):Done cx s g a w o key out:=by
 subst h
 let F:Nat->Prop:=fun x=>x=w.heap.size\/Fall rows fs x
 let v:Value:=.slice (some ⟨w.heap.size,0,none⟩) rows.length rows.length
 have hkis:key ∉ is:=fun hm=>by obtain⟨_,_,ho⟩:=his key hm;exact hk (m.used key _ ho)
 have hh:wsOn s.heap ((key,some (.arr sz rows))::kill is)=fun id=>if id∈is then none else if id=key then some (.arr sz rows) else s.heap id:=by
  funext id;rw[wsOn,Zeh];rfl
 have t:=Zgr (ep':=s.ep) m hk (is:=is) (fun i hi=>by obtain⟨_,_,ho⟩:=his i hi;exact⟨_,ho⟩) (o:=.arr sz rows) (v:=v) (F:=F) (arr:=true) p (Nat.le_refl _)
  (fun b hb=>hb.imp id fun hb=>by obtain⟨i,sz0,xs0,h1,h2,h3⟩:=hF b hb;exact⟨i,_,h1,h2,h3⟩)
 have k:=t.keeps m
 have hlt:∀ x,Fall rows fs x->x<w.heap.size:=fun x hx=>by
  obtain⟨i,sz0,xs0,h1,h2,h3⟩:=hF x hx
  exact (m.objs i _ h2).lt x h3
 have hcl:Cl w1 g.I v (.sl .own sz rows) F:=hrows.own (w1:=w1) (b:=w.heap.size) (cap:=rows.length) p.new (Nat.le_refl _) hmax hcur hcell (fun x hx=>p.old (hlt x hx)) (fun x hx=>p.old (m.I_lt x hx))
  (fun hx=>Nat.lt_irrefl _ (hlt _ hx))
 refine⟨_,v,w1,newGh g w key v F true,hrun,.inl rfl,?_,?_,?_,?_⟩
 ·simp only[hh];exact k
 ·simp only[hh]
  refine t.mem m (fun id o' hT ho=>?_)
  by_cases h2:id∈is
  ·simp[h2]at ho
  ·have he:=hT.resolve_right h2
   subst he
   simp only[h2,if_false,if_true,Option.some.injEq]at ho
   subst ho
   simp only[newGh,upd,if_true]
   refine⟨hcl,fun x hx=>?_⟩
   rcases hx with hx|hx
   ·exact .inr ⟨by simp,hx⟩
   ·obtain⟨i,sz0,xs0,h1,h2,h3⟩:=hF x hx
    exact .inl ((m.objs i _ h2).2 x h3)
 ·simp only[hh]
  refine .ref _ _ rfl (.inr rfl) (fun o' _=>?_)
  simp[newGh,upd,v]
 ·intro id hu
  rcases hu with hu|rfl
  ·exact .inl hu
  ·exact .inr ⟨Nat.le_refl _,by omega⟩
theorem Zi7{z:Value}{n sz i j:Nat}(hz:z.cells.size=sz)(hi:i<n)(hj:j<sz):(madeCells z.cells (n*sz))[i*sz+j]?=z.cells[j]?:=by
 have h1:i*sz+j<n*sz:=by
  have:(i+1)*sz<=n*sz:=Nat.mul_le_mul_right _ hi
  rw[Nat.add_mul]at this
  omega
 have h3:(i*sz+j) % sz=j:=by rw[Nat.mul_comm,Nat.mul_add_mod,Nat.mod_eq_of_lt hj]
 have hjz:j<z.cells.size:=by omega
 simp only[madeCells,Array.getElem?_map,Array.getElem?_range,h1,if_true,Option.map_some,hz,h3]
 rw[getElem!_pos z.cells j hjz,Array.getElem?_eq_getElem hjz]
theorem Zf5{n:Nat}{zs:List AV}{i j:Nat}{c:AV}(h:cellAt (List.replicate n zs) i j=some c):i<n/\zs[j]?=some c:=by
 obtain⟨row,h1,h2⟩:=Zaa.1 h
 rw[List.getElem?_replicate]at h1
 split at h1
 ·obtain rfl:=Option.some.inj h1
  exact⟨by assumption,h2⟩
 ·cases h1
theorem Zjm{z:Value}{zs:List AV}{sz n:Nat}(hzr:zerosB z.cells.toList zs=true)(hz:z.cells.size=sz){i j:Nat}{c:AV}(hc:cellAt (List.replicate n zs) i j=some c) :
  ∃ u,(madeCells z.cells (n*sz))[i*sz+j]?=some u/\u=z.cells[j]?.getD undef/\zeroB u c=true:=by
 obtain⟨h1,h2⟩:=Zf5 hc
 obtain⟨hl,hg⟩:=Zcj hzr
 have hj:=(List.getElem?_eq_some_iff.1 h2).1
 have hj2:j<z.cells.size:=by simp at hl;omega
 rw[Zi7 hz h1 (by omega)]
 have hu:z.cells[j]?=some z.cells[j]:=Array.getElem?_eq_getElem hj2
 exact⟨_,hu,by rw[hu];rfl,hg j _ _ (by rw[Array.getElem?_toList];exact hu) h2⟩
theorem Zq3(m:Mem cx s.heap s.ep g w)(hk:¬ g.used key){t e:TypeId}{i0:TypeInfo}{z:Value}{zs:List AV}{x1 x2:Operand}{y:Opd}(ho:o.op=.makeSlice t x1 x2)(hx:a.eval x2=a.eval x1)(ht:cx.P.underlying t=some (.slice e))(hi:cx.P.info? e=some i0)
  (hz:i0.zero=some z) (hzs:z.cells.size=i0.size) (hzr:zerosB z.cells.toList zs=true) (hb:1<=i0.bytes) (h1:SRel cx.num w cx.R g s.heap s.ep (a.eval x1) (y.ev s.slots))
  (h:sem cl (.mksl i0.size zs i0.bytes y) key s.slots s.heap s.ep=some out):Done cx s g a w o key out:=by
 simp only[sem]at h
 generalize y.ev s.slots=c1 at h h1
 generalize e1:a.eval x1=v1 at h1
 cases c1<;>try (cases h;done)
 rename_i k n
 cases k<;>try (cases h;done)
 dsimp only at h
 split at h
 case isFalse=>cases h
 rename_i hn
 cases h1
 obtain⟨hl0,hg0⟩:=Zcj hzr
 rw[Array.length_toList]at hl0
 have hn1:(n.toNat:Int)=n:=Int.toNat_of_nonneg hn.1
 have hn2:n.toNat*i0.bytes<=140737488355328:=by
  have h2:=hn.2
  have h3:((n.toNat*i0.bytes:Nat):Int)=n*i0.bytes:=by rw[Int.natCast_mul,hn1]
  omega
 have hn3:n.toNat<=maxLen:=by
  have:n.toNat*1<=n.toNat*i0.bytes:=Nat.mul_le_mul_left _ hb
  unfold maxLen
  omega
 have hn4:(i0.bytes:Int)*n<=281474976710656:=by
  rw[Int.mul_comm]
  have:=hn.2
  omega
 have hrun:=run_make (P:=cx.P) w t e i0 z ht hi hz .i64 .i64 n n hn.1 (Int.le_refl _) hn4 (by unfold maxLen at hn3;omega)
 have hll:(List.replicate n.toNat zs).length=n.toNat:=by simp
 refine Zfu (is:=[]) (rows:=List.replicate n.toNat zs) (us:=fun _ j=>z.cells[j]?.getD undef) (fs:=fun _ _ _=>False) (cur:=madeCells z.cells (n.toNat*i0.size)) (e:=e) m hk ⟨?_,?_,?_⟩ ?_ ?_ ?_ ?_ ?_ (Pushed.alloc w _) ?_ (Option.some.inj h).symm
 ·intro row hr
  rw[List.eq_of_mem_replicate hr];omega
 ·intro i j c hc
  obtain⟨u,_,hu,hz0⟩:=Zjm hzr hzs hc
  rw[<- hu]
  exact Zis hz0 _ _
 ·exact fun _ _ _ _ _ _ _ _ _ hf=>hf.elim
 ·intro i j c hc
  obtain⟨u,hu1,hu,_⟩:=Zjm hzr hzs hc
  rw[hu1,hu]
 ·rw[hll,size_madeCells];exact Nat.le_refl _
 ·rw[hll];exact hn3
 ·simp
 ·rintro x ⟨_,_,_,_,hf⟩;exact hf.elim
 ·rw[hll]
  simp[execOp,ho,e1,hx.trans e1,hrun]
/-! ### Literals of slices -/
inductive RowParts (cx:Cx) (s:St) (g:Gh) (a:Act) (w:World):List (Nat×Value)->List (Nat×Opd)->Prop
 | nil:RowParts cx s g a w [] []
 | cons (i:Nat) (v:Value) (y:Opd) (ps:List (Nat×Value)) (qs:List (Nat×Opd)) (hv:SRel cx.num w cx.R g s.heap s.ep v (y.ev s.slots)) (h:RowParts cx s g a w ps qs):RowParts cx s g a w ((i,v)::ps) ((i,y)::qs)
structure Filling(h:Nat->Option AO)(g:Gh)(w:World)(sz:Nat)(rows:List (List AV))(cur:Array Value)(src:Nat->Nat->Option Nat)(gone:List Nat):Prop where
 size:cur.size=rows.length*sz
 row:∀ row∈rows,row.length=sz
 cell:∀ i j c,cellAt rows i j=some c->∃ u,cur[i*sz+j]?=some u/\CellIn h g w u c (src i j)
 mem:∀ i j c id,cellAt rows i j=some c->src i j=some id->id∈gone
 inj:∀ i j c i' j' c' id,cellAt rows i j=some c->cellAt rows i' j'=some c'->src i j=some id->src i' j'=some id->i=i'/\j=j'
theorem Zkq{ps:List (Nat×Value)}{qs:List (Nat×Opd)}{sz:Nat}(hp:RowParts cx s g a w ps qs):∀ {rows rows':List (List AV)} {cur:Array Value} {src:Nat->Nat->Option Nat} {gone is:List Nat},
  Filling s.heap g w sz rows cur src gone->fillRows s.heap s.slots sz rows qs=some (rows',is)->(gone++is).Nodup ->
  ∃ cur' src',Instr.fill (fun i=>some (i*sz,sz)) cur ps=some cur'/\Filling s.heap g w sz rows' cur' src' (gone++is)/\rows'.length=rows.length:=by
 induction hp with
 | nil =>
  intro rows rows' cur src gone is f h hn
  simp only[fillRows,Option.some.injEq,Prod.mk.injEq]at h
  obtain⟨rfl,rfl⟩:=h
  exact⟨cur,src,rfl,by simpa using f,rfl⟩
 | cons i v y ps qs hv _ ih =>
  intro rows rows' cur src gone is f h hn
  simp only[fillRows]at h
  cases hq:(y.ev s.slots).parts with
  | none=>rw[hq]at h;cases h
  | some vs =>
   rw[hq]at h
   simp only at h
   cases ha:absorb s.heap vs with
   | none=>rw[ha]at h;cases h
   | some p =>
    obtain⟨row,js⟩:=p
    rw[ha]at h
    simp only at h
    split at h
    case isFalse=>cases h
    rename_i hif
    obtain⟨hrl,hi⟩:=hif
    cases hr:fillRows s.heap s.slots sz (rows.set i row) qs with
    | none=>rw[hr]at h;cases h
    | some q =>
     obtain⟨rs,ks⟩:=q
     rw[hr]at h
     simp only[Option.some.injEq,Prod.mk.injEq]at h
     obtain⟨rfl,rfl⟩:=h
     have hc:=Zd8 hv hq
     have hcs:=hc.1
     obtain⟨hal,hav,hacc⟩:=Zc9 (num:=cx.num) (w:=w) (R:=cx.R) (g:=g) (ep:=s.ep) ha
     have hfit:i*sz+sz<=rows.length*sz:=by
      have:(i+1)*sz<=rows.length*sz:=Nat.mul_le_mul_right _ hi
      rw[Nat.add_mul]at this;omega
     rw[<- List.append_assoc]at hn
     have hn1:(gone++js).Nodup:=(List.nodup_append.1 hn).1
     have hnj:(vs.flatMap refId).Nodup:=by rw[<- hav];exact (List.nodup_append.1 hn1).2.1
     have hdj:∀ x∈gone,x ∉ js:=fun x hx hxj=>(List.nodup_append.1 hn1).2.2 x hx x hxj rfl
     have f':Filling s.heap g w sz (rows.set i row) (v.cells.zipIdx.foldl (fun cs (c,j)=>cs.setIfInBounds (i*sz+j) c) cur) (fun i' j=>if i'=i then srcAt vs j else src i' j) (gone++js):=by
      have hsm:∀ j id,srcAt vs j=some id->id∈js:=fun j id hs=>by rw[hav];exact Zkh hs
      refine⟨by rw[Zeg,List.length_set];exact f.size,?_,?_,?_,?_⟩
      ·intro r hr
       rcases List.mem_or_eq_of_mem_set hr with h1|h1
       ·exact f.row r h1
       ·rw[h1];exact hrl
      ·intro i' j c hcc
       rw[Za7 hi]at hcc
       rw[Znc]
       by_cases h1:i'=i
       ·subst h1
        rw[if_pos rfl]at hcc
        have hj:=(List.getElem?_eq_some_iff.1 hcc).1
        rw[if_pos ⟨by omega,by omega,by rw[f.size];omega⟩,show i'*sz+j-i'*sz=j by omega]
        have hu:v.cells[j]?=some (v.cells[j]'(by omega)):=Array.getElem?_eq_getElem (by omega)
        have hx:vs[j]?=some (vs[j]'(by omega)):=List.getElem?_eq_getElem (by omega)
        refine⟨_,hu,?_⟩
        simp only[if_true]
        rw[Zd3 hx]
        exact hacc j _ _ c hx hcc (hc.2 j _ _ hu hx).2
       ·rw[if_neg h1]at hcc
        have hj:=Zbc f.row hcc
        have:¬ (i*sz<=i'*sz+j/\i'*sz+j<i*sz+v.cells.size/\i'*sz+j<cur.size):=by
         rintro⟨h2,h3,_⟩
         rcases Nat.lt_trichotomy i' i with hlt|heq|hgt
         ·have:(i'+1)*sz<=i*sz:=Nat.mul_le_mul_right _ hlt
          rw[Nat.add_mul]at this;omega
         ·exact h1 heq
         ·have:(i+1)*sz<=i'*sz:=Nat.mul_le_mul_right _ hgt
          rw[Nat.add_mul]at this;omega
        rw[if_neg this]
        simp only[h1,if_false]
        exact f.cell i' j c hcc
      ·intro i' j c id hcc hs
       rw[Za7 hi]at hcc
       by_cases h1:i'=i
       ·simp only[h1,if_true]at hs
        exact List.mem_append.2 (.inr (hsm j id hs))
       ·rw[if_neg h1]at hcc
        simp only[h1,if_false]at hs
        exact List.mem_append.2 (.inl (f.mem i' j c id hcc hs))
      ·intro i1 j1 c1 i2 j2 c2 id hc1 hc2 hs1 hs2
       rw[Za7 hi]at hc1 hc2
       by_cases h1:i1=i<;>by_cases h2:i2=i<;>simp only[h1,h2,if_true,if_false]at hc1 hc2 hs1 hs2
       ·exact⟨by omega,Zkb hnj hs1 hs2⟩
       ·exact absurd (hsm _ _ hs1) (hdj _ (f.mem _ _ _ _ hc2 hs2))
       ·exact absurd (hsm _ _ hs2) (hdj _ (f.mem _ _ _ _ hc1 hs1))
       ·exact f.inj _ _ _ _ _ _ _ hc1 hc2 hs1 hs2
     obtain⟨cur',src',h1,h2,h3⟩:=ih f' hr (by rw[List.append_assoc]at hn ⊢;exact hn)
     refine⟨cur',src',?_,by rw[<- List.append_assoc];exact h2,by rw[h3,List.length_set]⟩
     have hbad:¬ (v.cells.size≠sz\/i*sz+v.cells.size > cur.size):=by
      rw[f.size]
      omega
     simp only[Instr.fill]
     rw[if_neg (by simpa using hbad)]
     exact h1
theorem Zl8(m:Mem cx s.heap s.ep g w)(hk:¬ g.used key){t e:TypeId}{i0:TypeInfo}{z:Value}{zs:List AV}{len:Nat}{parts:Array (Nat×Operand)}{qs:List (Nat×Opd)}(ho:o.op=.buildSlice t len parts)(ht:cx.P.underlying t=some (.slice e))
  (hi:cx.P.info? e=some i0) (hz:i0.zero=some z) (hzs:z.cells.size=i0.size) (hzr:zerosB z.cells.toList zs=true) (hlen:len*i0.size<=16777216) (hl1:len<=16777216) (hp:RowParts cx s g a w (parts.toList.map fun p=>(p.1,a.eval p.2)) qs)
  (h:sem cl (.bslice i0.size zs len qs) key s.slots s.heap s.ep=some out):Done cx s g a w o key out:=by
 simp only[sem]at h
 cases hf:fillRows s.heap s.slots i0.size (List.replicate len zs) qs with
 | none=>rw[hf]at h;cases h
 | some p =>
  obtain⟨rows,is⟩:=p
  rw[hf]at h
  simp only at h
  split at h
  case isFalse=>cases h
  rename_i hd
  obtain⟨hl0,hg0⟩:=Zcj hzr
  rw[Array.length_toList]at hl0
  have f0:Filling s.heap g w i0.size (List.replicate len zs) (madeCells z.cells (len*i0.size)) (fun _ _=>none) []:=by
   refine⟨by rw[size_madeCells];simp,fun row hr=>by rw[List.eq_of_mem_replicate hr];omega,fun i j c hc=>?_,fun _ _ _ _ _ h=>(nomatch h),fun _ _ _ _ _ _ _ _ _ h _=>(nomatch h)⟩
   obtain⟨u,hu1,_,hz0⟩:=Zjm hzr hzs hc
   exact⟨u,hu1,Zis hz0 _ _⟩
  obtain⟨cur,src,hfill,ff,hll⟩:=Zkq hp f0 hf (by simpa using Za5 hd)
  rw[List.length_replicate]at hll
  simp only[List.nil_append]at ff
  -- who moved in
  have halive:∀ i j c id,cellAt rows i j=some c->src i j=some id->id∈is/\∃ sz0 xs0,s.heap id=some (.arr sz0 xs0):=by
   intro i j c id hc hs
   obtain⟨u,_,hin⟩:=ff.cell i j c hc
   rw[hs]at hin
   exact⟨ff.mem i j c id hc hs,hin.alive⟩
  have hisall:∀ (qs:List (Nat×Opd)) (r0 r1:List (List AV)) (is:List Nat),fillRows s.heap s.slots i0.size r0 qs=some (r1,is)->∀ i∈is,∃ sz0 xs0,s.heap i=some (.arr sz0 xs0):=by
   intro qs
   induction qs with
   | nil=>intro r0 r1 is h i hi;simp only[fillRows,Option.some.injEq,Prod.mk.injEq]at h;rw[<- h.2]at hi;simp at hi
   | cons q qs ih =>
    intro r0 r1 is h i hi
    obtain⟨qi,qx⟩:=q
    simp only[fillRows]at h
    cases hq:(qx.ev s.slots).parts with
    | none=>rw[hq]at h;cases h
    | some vs =>
     rw[hq]at h
     simp only at h
     cases ha:absorb s.heap vs with
     | none=>rw[ha]at h;cases h
     | some p =>
      obtain⟨row,js⟩:=p
      rw[ha]at h
      simp only at h
      split at h
      case isFalse=>cases h
      cases hr:fillRows s.heap s.slots i0.size (r0.set qi row) qs with
      | none=>rw[hr]at h;cases h
      | some p =>
       obtain⟨rs,ks⟩:=p
       rw[hr]at h
       simp only[Option.some.injEq,Prod.mk.injEq]at h
       rw[<- h.2]at hi
       rcases List.mem_append.1 hi with h1|h1
       ·exact Zfv ha i h1
       ·exact ih _ _ _ hr i h1
  have his:=hisall _ _ _ _ hf
  refine Zfu (is:=is) (rows:=rows) (us:=fun i j=>cur[i*i0.size+j]?.getD undef) (fs:=fun i j=>srcFp g (src i j)) (cur:=cur) (e:=e) m hk ⟨ff.row,?_,?_⟩ ?_ ?_ ?_ his ?_ (Pushed.alloc w _) ?_ (Option.some.inj h).symm
  ·intro i j c hc
   obtain⟨u,hu,hin⟩:=ff.cell i j c hc
   simp only[hu,Option.getD_some]
   exact hin.closed m
  ·intro i j c i' j' c' x hc hc' hf1 hf2
   cases hs:src i j with
   | none=>rw[hs]at hf1;exact hf1.elim
   | some id=>cases hs':src i' j' with
    | none=>rw[hs']at hf2;exact hf2.elim
    | some id' =>
     rw[hs]at hf1
     rw[hs']at hf2
     obtain⟨_,_,_,h1⟩:=halive i j c id hc hs
     obtain⟨_,_,_,h2⟩:=halive i' j' c' id' hc' hs'
     have:=m.disj id id' _ _ x h1 h2 hf1 hf2
     subst this
     exact ff.inj _ _ _ _ _ _ _ hc hc' hs hs'
  ·intro i j c hc
   obtain⟨u,hu,hin⟩:=ff.cell i j c hc
   rw[hu];rfl
  ·rw[ff.size];exact Nat.le_refl _
  ·rw[hll];unfold maxLen;omega
  ·rintro x ⟨i,j,c,hc,hf1⟩
   cases hs:src i j with
   | none=>simp only[hs]at hf1;exact hf1.elim
   | some id =>
    simp only[hs]at hf1
    obtain⟨h1,sz0,xs0,h2⟩:=halive i j c id hc hs
    exact⟨id,sz0,xs0,h1,h2,hf1⟩
  ·rw[hll]
   have hn24:¬ (2 ^ 24<len*i0.size):=by omega
   by_cases h0:len*i0.size=0
   ·have hmade:(#[]:Array Value)=madeCells z.cells (len*i0.size):=by rw[h0];simp[madeCells]
    have hfill':Instr.fill (fun i=>some (i*i0.size,i0.size)) #[] (List.map (fun p=>(p.fst,a.eval p.snd)) parts.toList)=some cur:=by rw[hmade];exact hfill
    simp[execOp,ho,Instr.buildSlice,run_underlying ht,Zau hi,h0,Array.range_zero',hfill',newRow]
   ·have hmade:(Array.range (len*i0.size)).map (z.cells[· % z.cells.size]!)=madeCells z.cells (len*i0.size):=rfl
    simp[execOp,ho,Instr.buildSlice,run_underlying ht,Zau hi,h0,hn24,zeroValue,typeInfo,hi,hz,hmade,hfill,newRow]
end
end Go.Proofs.YtfemiipgkhekiaaGreatDoor
namespace Go.Proofs.YtfemiipgkhekiaaGreatDoor
open Go Go.RowKit
set_option linter.unusedSimpArgs false
def keyD(kb:Bool):TypeDesc:=if kb then .bool else .string
theorem Zew(kb:Bool)(s:ByteArray):MapKept.IsKey (keyD kb) (keyV kb s):=by cases kb<;>trivial
theorem Zmr{kb:Bool}{num:Nat->Option FuncId}{w:World}{R:Nat->Prop}{g:Gh}{h:Nat->Option AO}{ep:Nat}{v:Value}{c:AV}{s:ByteArray}(hr:SRel num w R g h ep v c)(hk:keyOf kb c=some s):v=keyV kb s/\keyIs kb s:=by
 cases kb with
 | false =>
  cases hr<;>simp only[keyOf,reduceCtorEq,Option.some.injEq]at hk
  subst hk
  exact⟨rfl,fun h=>by cases h⟩
 | true =>
  cases hr<;>simp only[keyOf,reduceCtorEq,Option.some.injEq]at hk
  rename_i b
  subst hk
  refine⟨?_,fun _=>by cases b<;>simp⟩
  cases b
  ·have:sEq (bkey false) (bkey true)=false:=by
    rw[<- Bool.not_eq_true,Zac]
    intro e
    have:=congrArg (fun x=>x.data.toList) e
    simp[bkey]at this
   simp[keyV,this]
  ·have:sEq (bkey true) (bkey true)=true:=(Zac _ _).2 rfl
   simp[keyV,this]
theorem Zla(kb:Bool){s k:ByteArray}(hs:keyIs kb s)(hk:keyIs kb k):Instr.sameNow (keyD kb) (keyV kb s) (keyV kb k)=some (sEq s k):=by
 cases kb with
 | false =>
  simp only[keyD,keyV,Instr.sameNow,Bool.false_eq_true,if_false]
  congr 1
  rw[Bool.eq_iff_iff,Zac,MapKept.bytes_beq]
 | true =>
  have e1:sEq (bkey false) (bkey true)=false:=by
   rw[<- Bool.not_eq_true,Zac]
   intro e
   have:=congrArg (fun x=>x.data.toList) e
   simp[bkey]at this
  have e2:sEq (bkey true) (bkey false)=false:=by
   rw[<- Bool.not_eq_true,Zac]
   intro e
   have:=congrArg (fun x=>x.data.toList) e
   simp[bkey]at this
  have e3:∀ b,sEq (bkey b) (bkey b)=true:=fun b=>(Zac _ _).2 rfl
  rcases hs rfl with rfl|rfl<;>rcases hk rfl with rfl|rfl<;>simp[keyD,keyV,Instr.sameNow,e1,e2,e3]
theorem Zhm(k j:ByteArray)(v:AV):∀ m:List (ByteArray×AV),listGet k (listPut j v m)=if sEq k j then some v else listGet k m
 | []=>by simp[listPut,listGet]
 | (a,b)::r=>by
  by_cases h:sEq j a=true
  ·rw[listPut,if_pos h,listGet,listGet,(Zac j a).1 h]
   by_cases h2:sEq k a=true<;>simp[h2]
  ·rw[listPut,if_neg h,listGet,listGet,Zhm k j v r]
   by_cases h2:sEq k a=true
   ·have:sEq k j=false:=by
     rw[(Zac k a).1 h2,Zei];simpa using h
    simp[h2,this]
   ·simp[h2]
theorem Zjg(kb:Bool)(s:ByteArray)(hks:keyIs kb s):∀ (es:List MapEntry) (kvs:List (ByteArray×AV)) (i0:Nat),es.length=kvs.length->(∀ (i:Nat) (m:MapEntry) (k:ByteArray) (c:AV),es[i]?=some m->kvs[i]?=some (k,c)->m.key=keyV kb k/\keyIs kb k) ->
  (Instr.findNow (keyD kb) (keyV kb s) es i0=some none/\listGet s kvs=none/\∀ v,listPut s v kvs=kvs++[(s,v)]) \/
  ∃ j m c,Instr.findNow (keyD kb) (keyV kb s) es i0=some (some (i0+j,m.val))/\es[j]?=some m/\m.key=keyV kb s/\kvs[j]?=some (s,c)/\listGet s kvs=some c/\∀ v,listPut s v kvs=kvs.set j (s,v)
 | [],[],i0,_,_=>.inl ⟨rfl,rfl,fun _=>rfl⟩
 | e::es,(k,c)::kvs,i0,hl,hk=>by
  obtain⟨hk0,hk1⟩:=hk 0 e k c rfl rfl
  simp only[Instr.findNow,hk0,Zla kb hks hk1,listGet,listPut]
  cases hs:sEq s k with
  | true =>
   have:=(Zac _ _).1 hs
   subst this
   exact .inr ⟨0,e,c,rfl,rfl,hk0,rfl,by simp,fun v=>by simp⟩
  | false =>
   rcases Zjg kb s hks es kvs (i0+1) (by simpa using hl) (fun i m k c h1 h2=>hk (i+1) m k c (by simpa using h1) (by simpa using h2)) with ⟨h1,h2,h3⟩|⟨j,m,d,h1,h2,h3,h4,h5,h6⟩
   ·exact .inl ⟨h1,by simpa using h2,fun v=>by simp[h3]⟩
   ·exact .inr ⟨j+1,m,d,by simp only[h1];congr 3;omega,by simpa using h2,h3,by simpa using h4,by simpa using h5,fun v=>by simp[h6]⟩
section
variable {cx:Cx} {s:St} {g:Gh} {a:Act} {w:World} {o:Oper} {key:Nat} {out:Out} {cl:Callee}
theorem Zn4{kb:Bool}(m:Mem cx s.heap s.ep g w)(hk:¬ g.used key){t:TypeId}(ho:o.op=.makeMap t none)(h:sem cl (.mkmap kb) key s.slots s.heap s.ep=some out):Done cx s g a w o key out:=by
 simp only[sem,Option.some.injEq]at h
 subst h
 have hh:wsOn s.heap [(key,some (.map kb noKeys))]=fun id=>if id∈([]:List Nat) then none else if id=key then some (.map kb noKeys) else s.heap id:=by
  funext id;simp[wsOn,upd]
 have p:=Pushed.alloc w (.map #[] 0)
 have hrun:(execOp a.eval o).run cx.P w=.ok (.value (.map (some w.heap.size))) (w.alloc (.map #[] 0)):=by simp[execOp,ho,Instr.makeMap]
 generalize w.alloc (.map #[] 0)=w1 at p hrun
 have t':=Zgr (ep':=s.ep) m hk (is:=[]) (by simp) (o:=.map kb noKeys) (v:=.map (some w.heap.size)) (F:=fun b=>b=w.heap.size) (arr:=false) p (Nat.le_refl _) (fun b hb=>.inl hb)
 have k:=t'.keeps m
 refine⟨_,_,w1,newGh g w key (.map (some w.heap.size)) (fun b=>b=w.heap.size) false,hrun,.inl rfl,?_,?_,?_,?_⟩
 ·simp only[hh];exact k
 ·simp only[hh]
  refine t'.mem m (fun id o' hT ho=>?_)
  have he:id=key:=by simpa using hT
  subst he
  simp at ho
  subst ho
  simp only[newGh,upd,if_true]
  refine⟨w.heap.size,#[],0,[],rfl,p.new,fun x=>Iff.rfl,?_,fun _=>rfl,rfl,fun i m k c hm=>by simp at hm⟩
  rintro (hN|⟨h0,_⟩)
  ·have:=m.N_lt _ hN;omega
  ·cases h0
 ·simp only[hh]
  exact .mapr _ _ rfl (.inr rfl) (fun o' _=>by simp[newGh,upd])
 ·intro id hu
  rcases hu with hu|rfl
  ·exact .inl hu
  ·exact .inr ⟨Nat.le_refl _,by omega⟩
theorem Zk6{kb:Bool}(m:Mem cx s.heap s.ep g w){x1 x2:Operand}{t kt et:TypeId}{i0:TypeInfo}{z0:Value}{z:AV}{y1 y2:Opd}(ho:o.op=.lookup t x1 x2 false)(ht:cx.P.underlying t=some (.map kt et))(hkt:cx.P.underlying kt=some (keyD kb))
  (hi:cx.P.info? et=some i0) (hz:i0.zero=some z0) (hzr:zeroB z0 z=true) (h1:SRel cx.num w cx.R g s.heap s.ep (a.eval x1) (y1.ev s.slots)) (h2:SRel cx.num w cx.R g s.heap s.ep (a.eval x2) (y2.ev s.slots))
  (h:sem cl (.lookup kb z y1 y2) key s.slots s.heap s.ep=some out):Done cx s g a w o key out:=by
 simp only[sem]at h
 generalize y1.ev s.slots=c1 at h h1
 generalize y2.ev s.slots=c2 at h h2
 cases hko:keyOf kb c2 with
 | none=>rw[hko]at h;cases c1<;>cases h
 | some st =>
 rw[hko]at h
 generalize e1:a.eval x1=v1 at h1
 generalize e2:a.eval x2=v2 at h2
 cases c1<;>try (cases h;done)
 rename_i id
 simp only at h
 cases hh:s.heap id with
 | none=>rw[hh]at h;cases h
 | some ob =>
  rw[hh]at h
  cases ob<;>simp only[reduceCtorEq]at h
  rename_i kb0 kvs
  split at h
  case isFalse=>cases h
  rename_i hkb
  subst hkb
  obtain⟨hkv,hki⟩:=Zmr h2 hko
  cases h1 with
  | mapr _ _ _ hu hv =>
   have hv':=hv _ hh
   obtain⟨b,es,cl0,l,hv2,hheap,hS,hN,hkl,hsz,hes⟩:=m.objs id _ hh
   have hv3:=hv'.trans hv2
   have hf:=Zjg kb0 st hki es.toList l 0 (by simpa using hsz) (fun i m k c hm hc=>⟨(hes i m k c (by simpa using hm) hc).1,(hes i m k c (by simpa using hm) hc).2.1⟩)
   have hck:=MapKept.run_checkKey (P:=cx.P) (w:=w) hkt (Zew kb0 st) es.isEmpty 9999
   rcases hf with ⟨hf1,hf2,_⟩|⟨j,m0,c,hf1,hf2,_,hf3,hf4,_⟩
   ·rw[mapGet,<- hkl st,hf2]at h
    refine Zag m ?_ (Zg5 hzr _ _ _ _ _ _).2 h
    have hfk:=MapKept.run_findKey (P:=cx.P) (w:=w) hkt hf1
    simp[execOp,ho,e1,e2,hkv,hv3,Instr.lookup,run_underlying ht,MapKept.run_getObj_map hheap,hck,hfk,zeroValue,typeInfo,hi,hz]
   ·rw[mapGet,<- hkl st,hf4]at h
    refine Zag m (v:=m0.val) ?_ (hes j m0 st c (by simpa using hf2) hf3).2.2.2 h
    have hfk:=MapKept.run_findKey (P:=cx.P) (w:=w) hkt hf1
    simp[execOp,ho,e1,e2,hkv,hv3,Instr.lookup,run_underlying ht,MapKept.run_getObj_map hheap,hck,hfk]
theorem Zgo{kb:Bool}(m:Mem cx s.heap s.ep g w){x1 x2 x3:Operand}{t kt et:TypeId}{y1 y2 y3:Opd}(ho:o.op=.mapUpdate t x1 x2 x3\/o.op=.insert t x1 x2 x3)(ht:cx.P.underlying t=some (.map kt et))(hkt:cx.P.underlying kt=some (keyD kb))
  (h1:SRel cx.num w cx.R g s.heap s.ep (a.eval x1) (y1.ev s.slots)) (h2:SRel cx.num w cx.R g s.heap s.ep (a.eval x2) (y2.ev s.slots)) (h3:SRel cx.num w cx.R g s.heap s.ep (a.eval x3) (y3.ev s.slots))
  (h:sem cl (.mapset kb y1 y2 y3) key s.slots s.heap s.ep=some out):Done cx s g a w o key out:=by
 simp only[sem]at h
 generalize y1.ev s.slots=c1 at h h1
 generalize y2.ev s.slots=c2 at h h2
 cases hko:keyOf kb c2 with
 | none=>rw[hko]at h;cases c1<;>cases h
 | some st =>
 rw[hko]at h
 generalize y3.ev s.slots=c3 at h h3
 generalize e1:a.eval x1=v1 at h1
 generalize e2:a.eval x2=v2 at h2
 generalize e3:a.eval x3=v3 at h3
 cases c1<;>try (cases h;done)
 rename_i id
 simp only at h
 cases hh:s.heap id with
 | none=>rw[hh]at h;cases h
 | some ob =>
  rw[hh]at h
  cases ob<;>simp only[reduceCtorEq]at h
  rename_i kb0 kvs
  split at h
  case isFalse=>cases h
  rename_i hpl
  obtain⟨hkb,hpl⟩:=hpl
  subst hkb
  simp only[Option.some.injEq]at h
  obtain⟨hkv,hki⟩:=Zmr h2 hko
  cases h1 with
  | mapr _ _ _ hu hv =>
   have hv':=hv _ hh
   obtain⟨b,es,clk,l,hv2,hheap,hS,hN,hkl,hsz,hes⟩:=m.objs id _ hh
   have hv3:=hv'.trans hv2
   have hf:=Zjg kb0 st hki es.toList l 0 (by simpa using hsz) (fun i m k c hm hc=>⟨(hes i m k c (by simpa using hm) hc).1,(hes i m k c (by simpa using hm) hc).2.1⟩)
   have hck:=MapKept.run_checkKey (P:=cx.P) (w:=w) hkt (Zew kb0 st) false 9999
   -- the new entries
   have hnew:∃ es' clk',(execOp a.eval o).run cx.P w=.ok .skip { w with heap:=w.heap.setIfInBounds b (.map es' clk') }/\es'.size=(listPut st c3 l).length /\
     ∀ (i:Nat) (m:MapEntry) (k:ByteArray) (c:AV),es'[i]?=some m->(listPut st c3 l)[i]?=some (k,c)->m.key=keyV kb0 k/\keyIs kb0 k/\c.plain=true/\SRel cx.num w cx.R g s.heap s.ep m.val c:=by
    rcases hf with ⟨hf1,hf2,hf3⟩|⟨j,m0,c,hf1,hf2,hmk,hf3,hf4,hf5⟩
    ·have hfk:=MapKept.run_findKey (P:=cx.P) (w:=w) hkt hf1
     refine⟨es.push { key:=keyV kb0 st,val:=v3,born:=clk },clk+1,?_,?_,?_⟩
     ·rcases ho with ho|ho<;>simp[execOp,ho,e1,e2,e3,hkv,hv3,Instr.mapUpdate,run_underlying ht,MapKept.run_getObj_map hheap,hck,hfk,MapKept.run_setObj_map _ hheap]
     ·rw[hf3];simp[hsz]
     ·intro i m k c hm hc
      rw[hf3]at hc
      rw[Array.getElem?_push]at hm
      rw[List.getElem?_append]at hc
      by_cases hi:i=es.size
      ·subst hi
       rw[if_pos rfl]at hm
       rw[if_neg (by omega),hsz,Nat.sub_self]at hc
       simp only[List.getElem?_cons_zero,Option.some.injEq,Prod.mk.injEq]at hm hc
       obtain⟨rfl,rfl⟩:=hc
       subst hm
       exact⟨rfl,hki,hpl,h3⟩
      ·rw[if_neg hi]at hm
       have:=(Array.getElem?_eq_some_iff.1 hm).1
       rw[if_pos (by omega)]at hc
       exact hes i m k c hm hc
    ·have hfk:=MapKept.run_findKey (P:=cx.P) (w:=w) hkt hf1
     have hj:es[j]?=some m0:=by simpa using hf2
     have hstay:=MapKept.run_keyThatStays (P:=cx.P) (w:=w) (Zew kb0 st)
     refine⟨es.modify j fun e=>{ e with key:=keyV kb0 st,val:=v3 },clk,?_,?_,?_⟩
     ·rcases ho with ho|ho<;>simp[execOp,ho,e1,e2,e3,hkv,hv3,Instr.mapUpdate,run_underlying ht,MapKept.run_getObj_map hheap,hck,hfk,hj,hmk,hstay,MapKept.run_setObj_map _ hheap]
     ·rw[hf5];simp[hsz]
     ·intro i m k c hm hc
      rw[hf5]at hc
      rw[Array.getElem?_modify]at hm
      rw[List.getElem?_set]at hc
      by_cases hi:j=i
      ·subst hi
       have:=(List.getElem?_eq_some_iff.1 hf3).1
       simp only[hj,if_true,Option.map_some,Option.some.injEq]at hm
       simp only[this,if_true,Option.some.injEq,Prod.mk.injEq]at hc
       obtain⟨rfl,rfl⟩:=hc
       subst hm
       exact⟨rfl,hki,hpl,h3⟩
      ·rw[if_neg hi]at hm hc
       exact hes i m k c hm hc
   obtain⟨es',clk',hrun,hsz',hes'⟩:=hnew
   have hset:=MapKept.heap_set (o':=.map es' clk') hheap
   have hsize:(w.heap.setIfInBounds b (.map es' clk')).size=w.heap.size:=by simp
   generalize hw1:({ w with heap:=w.heap.setIfInBounds b (.map es' clk') }:World)=w1 at hrun
   have hw1h:w1.heap=w.heap.setIfInBounds b (.map es' clk'):=by rw[<- hw1]
   have hfr:w1.os=w.os/\w1.tape=w.tape/\w1.output=w.output:=by rw[<- hw1];exact⟨rfl,rfl,rfl⟩
   rw[<- hw1h]at hset hsize
   have hSb:g.fp id b:=(hS b).2 rfl
   subst h
   have t:Touch cx (fun j=>j=id) s.heap s.ep g w (upd s.heap id (some (.map kb0 (mapPut st c3 kvs)))) s.ep g w1:=by
    refine⟨hfr.1,hfr.2.1,hfr.2.2,by omega,Nat.le_refl _,?_,?_,fun _ h=>h,?_,?_,?_,?_,fun _ h=>h,fun _ h=>.inl h,m.I_N,fun _ h=>h,fun _ h=>.inl h,?_⟩
    ·intro j hj
     exact⟨by simp[upd,hj],fun _=>⟨rfl,rfl⟩⟩
    ·intro k hk hO
     exact hset.2 k (fun e=>hO ⟨id,_,rfl,hh,e ▸ hSb⟩)
    ·intro j o' hj _
     rw[hj];exact m.used id _ hh
    ·intro j o' hj _ ho'
     rw[hj]at ho' ⊢
     simp only[upd,if_true,Option.some.injEq]at ho'
     subst ho'
     exact⟨_,hh,rfl,rfl⟩
    ·intro j o' k hj _ hf
     rw[hj]at hf
     exact⟨.inr ⟨id,_,rfl,hh,hf⟩,(m.mine id _ k hh hf).2⟩
    ·intro j j' _ _ k hj hj' _ _ _ _
     exact hj.trans hj'.symm
    ·intro _ k hk
     exact hset.2 k (fun e=>hN (e ▸ hk))
   have k:=t.keeps m
   refine⟨.skip,undef,w1,g,hrun,.inr ⟨rfl,rfl⟩,k,t.mem m (fun j o' hj ho'=>?_),.any _,fun _ h=>.inl h⟩
   rw[hj]at ho' ⊢
   simp only[upd,if_true,Option.some.injEq]at ho'
   subst ho'
   exact⟨b,es',clk',listPut st c3 l,hv2,hset.1,hS,hN,fun k=>by rw[Zhm,hkl k];rfl,hsz',fun i m k' c hm hc=>⟨(hes' i m k' c hm hc).1,(hes' i m k' c hm hc).2.1,(hes' i m k' c hm hc).2.2.1,(hes' i m k' c hm hc).2.2.2.mono k⟩⟩
end
end Go.Proofs.YtfemiipgkhekiaaGreatDoor
namespace Go.Proofs.YtfemiipgkhekiaaGreatDoor
open Go Go.RowKit
set_option linter.unusedSimpArgs false
theorem Zfp:∀ {xs:List (List AV)} {bs:List UInt8},toBytes xs=some bs->∃ ns:List Int,xs=ns.map (fun n=>[AV.int .u8 n])/\bs=ns.map fun n=>UInt8.ofNat n.toNat
 | [],bs,h=>by
  simp only[toBytes,Option.some.injEq]at h
  exact⟨[],rfl,h.symm⟩
 | r::xs,bs,h=>by
  unfold toBytes at h
  split at h
  ·cases h
   rename_i he
   cases he
  ·rename_i n xs' he
   obtain⟨rfl,rfl⟩:=List.cons.inj he
   cases hr:toBytes xs with
   | none=>rw[hr]at h;cases h
   | some b =>
    rw[hr]at h
    simp only[Option.some.injEq]at h
    obtain⟨ns,h1,h2⟩:=Zfp hr
    exact⟨n::ns,by simp[h1],by simp[<- h,h2]⟩
  ·cases h
section
variable {cx:Cx} {s:St} {g:Gh} {a:Act} {w:World} {o:Oper} {key:Nat} {out:Out} {cl:Callee}
theorem Zn9(m:Mem cx s.heap s.ep g w){x:Operand}{t t' e:TypeId}{y:Opd}(ho:o.op=.convert t t' x)(ht:cx.P.underlying t=some (.slice e))(he:cx.P.underlying e=some (.int .u8))(ht':cx.P.underlying t'=some .string)
  (h1:SRel cx.num w cx.R g s.heap s.ep (a.eval x) (y.ev s.slots)) (h:sem cl (.toStr y) key s.slots s.heap s.ep=some out):Done cx s g a w o key out:=by
 simp only[sem]at h
 cases hc:content s.heap s.ep (y.ev s.slots) with
 | none=>rw[hc]at h;cases h
 | some p =>
  obtain⟨sz,xs⟩:=p
  rw[hc]at h
  simp only at h
  cases hb:toBytes xs with
  | none=>rw[hb]at h;cases h
  | some bs =>
   rw[hb]at h
   obtain⟨ns,hxs,hbs⟩:=Zfp hb
   have hstr:(⟨bs.toArray⟩:ByteArray)=strOfNums ns:=by rw[hbs];rfl
   simp only at h
   rw[hstr]at h
   rcases Zeo m h1 hc with ⟨rfl,ad,cap,hv⟩|⟨b,off,cap,us,hv,hrow,hcell⟩
   ·have hns:ns=[]:=by cases ns with|nil=>rfl|cons _ _=>simp at hxs
    subst hns
    refine Zag m (v:=.string (strOfNums [])) ?_ (.str _) h
    cases ad with
    | none =>
     have:=run_convert_bytes_nil (P:=cx.P) w t e ht he 0 cap t' ht'
     simp[execOp,ho,hv,this]
     rfl
    | some ad =>
     have h2:=run_convert_bytes_string (P:=cx.P) w t t' e (some ad) 0 cap ht he ht'
     have h3:(Conv.bytesToString (.slice (some ad) 0 cap)).run cx.P w=.ok (.string ByteArray.empty) w:=by
      have:=run_bytesToString (P:=cx.P) w ad 0 cap [] (by simp[loadCells,loadCellsFrom])
      simpa using this
     simp[execOp,ho,hv,h2,h3]
     rfl
   ·refine Zag m (v:=.string (strOfNums ns)) ?_ (.str _) h
    have hlen:xs.length=ns.length:=by rw[hxs];simp
    have:=run_convert_bytes_arg (P:=cx.P) w t e ht he b off xs.length cap ns hlen.symm (fun i hi=>by
     have hni:ns[i]?=some (ns.getD i 0):=by simp[List.getD,List.getElem?_eq_getElem (show i<ns.length by omega)]
     have hx:xs[i]?=some [AV.int .u8 (ns.getD i 0)]:=by rw[hxs,List.getElem?_map,hni];rfl
     have hsz:sz=1:=by have:=hrow _ (List.mem_of_getElem? hx);simpa using this.symm
     subst hsz
     obtain⟨h2,h3⟩:=hcell i 0 (.int .u8 (ns.getD i 0)) (Zaa.2 ⟨_,hx,rfl⟩)
     generalize us i 0=u at h2 h3
     cases h3
     simpa using h2) t' ht'
    simp[execOp,ho,hv,this]
end
end Go.Proofs.YtfemiipgkhekiaaGreatDoor
namespace Go.Proofs.YtfemiipgkhekiaaGreatDoor
open Go Go.RowKit
set_option linter.unusedSimpArgs false
structure ClCells(w:World)(I N:Nat->Prop)(us:List Value)(cs:List AV)(fs:Nat->Nat->Prop):Prop where
 size:us.length=cs.length
 cl:∀ (i:Nat) (u:Value) (c:AV),us[i]?=some u->cs[i]?=some c->Cl w I u c (fs i)
 inN:∀ i x,i<cs.length->fs i x->N x
 dis:∀ i j x,i<cs.length->j<cs.length->fs i x->fs j x->i=j
inductive Shut (w:World) (I N:Nat->Prop):Value->AV->(Nat->Prop)->Prop
 | one (v:Value) (c:AV) (S:Nat->Prop) (h:Cl w I v c S) (hN:∀ x,S x->N x):Shut w I N v c S
 | agg (vs:Array Value) (cs:List AV) (fs:Nat->Nat->Prop) (S:Nat->Prop) (h:ClCells w I N vs.toList cs fs) (hS:∀ x,S x↔∃ i,i<cs.length/\fs i x):Shut w I N (.agg vs) (.agg cs) S
 | cellp (b:Nat) (cur:Array Value) (e:TypeId) (cs:List AV) (fs:Nat->Nat->Prop) (S:Nat->Prop) (hh:w.heap[b]?=some (.cells cur e (0,0))) (h:ClCells w I N cur.toList cs fs) (hb:¬ N b)
   (hS:∀ x,S x↔x=b\/∃ i,i<cs.length/\fs i x):Shut w I N (.pointer (some ⟨b,0,none⟩)) (.cellp cs) S
structure ShutL(w:World)(I N:Nat->Prop)(vs:List Value)(cs:List AV)(fs:Nat->Nat->Prop):Prop where
 size:vs.length=cs.length
 sh:∀ (i:Nat) (u:Value) (c:AV),vs[i]?=some u->cs[i]?=some c->Shut w I N u c (fs i)
 dis:∀ i j x,i<cs.length->j<cs.length->fs i x->fs j x->i=j
def AV.isTup:AV->Bool
 | .tup _=>true
 | _=>false
inductive ResRel (w:World) (I N:Nat->Prop):Value->AV->(Nat->Prop)->Prop
 | one (v:Value) (c:AV) (S:Nat->Prop) (h:Shut w I N v c S) (ht:c.isTup=false):ResRel w I N v c S
 | tup (vs:Array Value) (cs:List AV) (fs:Nat->Nat->Prop) (S:Nat->Prop) (h:ShutL w I N vs.toList cs fs) (hS:∀ x,S x↔∃ i,i<cs.length/\fs i x):ResRel w I N (.tuple vs) (.tup cs) S
def OpenRel(gv:Nat->Value)(lo hi:Nat)(w:World)(I:Nat->Prop)(u:Value)(c:AV):Prop :=
 (∃ n,c=.ref n/\lo<=n/\n<hi/\u=gv n/\u.oneCell'=true)\/((∃ S,Cl w I u c S)/\∀ sz xs,c≠.sl .own sz xs)
theorem OpenRel.srel{gv:Nat->Value}{lo hi:Nat}{w:World}{I:Nat->Prop}{u:Value}{c:AV}(h:OpenRel gv lo hi w I u c){num:Nat->Option FuncId}{R:Nat->Prop}{g:Gh}{hp:Nat->Option AO}{ep:Nat}
  (hv:∀ n,lo<=n->n<hi->g.v n=gv n/\g.used n) (hI:∀ b,I b->g.I b):u.oneCell'=true/\SRel num w R g hp ep u c:=by
 rcases h with ⟨n,rfl,h1,h2,h3,h4⟩|⟨⟨S,h1⟩,h2⟩
 ·obtain⟨h5,h6⟩:=hv n h1 h2
  exact⟨h4,.ref _ _ h4 h6 (fun _ _=>h3.trans h5.symm)⟩
 ·refine⟨h1.one,?_⟩
  have h5:=h1.one
  cases h1 with
  | any=>exact .any _
  | bool=>exact .bool _
  | int=>exact .int _ _
  | str=>exact .str _
  | imm _ sz xs _ hb _=>exact .sl _ _ _ _ h5 (fun _=>hb.mono (Same.refl _ _) hI) (fun e he=>by cases he) (by simp)
  | nil sz=>exact absurd rfl (h2 _ _)
  | own sz xs=>exact absurd rfl (h2 _ _)
theorem OpenRel.mono{gv gv':Nat->Value}{lo hi lo' hi':Nat}{w:World}{I:Nat->Prop}{u:Value}{c:AV}(h:OpenRel gv lo hi w I u c)(hv:∀ n,lo<=n->n<hi->gv' n=gv n)(hl:lo'<=lo)(hh:hi<=hi'):OpenRel gv' lo' hi' w I u c:=by
 rcases h with ⟨n,rfl,h1,h2,h3,h4⟩|h
 ·exact .inl ⟨n,rfl,by omega,by omega,by rw[hv n h1 h2];exact h3,h4⟩
 ·exact .inr h
def OObj(w:World)(I N:Nat->Prop)(gv:Nat->Value)(lo hi:Nat)(v:Value)(S:Nat->Prop):AO->Prop
 | .arr sz xs=>Cl w I v (.sl .own sz xs) S/\∀ x,S x->N x
 | .box cells=>∃ b cur e,v=.pointer (some ⟨b,0,none⟩)/\w.heap[b]?=some (.cells cur e (0,0))/\cur.size=cells.length/\(∀ x,S x↔x=b)/\¬ N b /\
   ∀ (i:Nat) (u:Value) (c:AV),cur[i]?=some u->cells[i]?=some c->OpenRel gv lo hi w I u c
 | .map _ _=>False
theorem OObj.mono{w:World}{I N:Nat->Prop}{gv gv':Nat->Value}{lo hi lo' hi':Nat}{v:Value}{S:Nat->Prop}{o:AO}(h:OObj w I N gv lo hi v S o)(hv:∀ n,lo<=n->n<hi->gv' n=gv n)(hl:lo'<=lo)(hh:hi<=hi'):OObj w I N gv' lo' hi' v S o:=by
 cases o with
 | arr sz xs=>exact h
 | map _ _=>exact h
 | box cells =>
  obtain⟨b,cur,e,h1,h2,h3,h4,h5,h6⟩:=h
  exact⟨b,cur,e,h1,h2,h3,h4,h5,fun i u c hu hc=>(h6 i u c hu hc).mono hv hl hh⟩
structure Seg(w:World)(I N:Nat->Prop)(gv:Nat->Value)(gf:Nat->Nat->Prop)(key:Nat)(ws:List (Nat×Option AO))(F:Nat->Prop):Prop where
 nums:∀ (j:Nat) (p:Nat×Option AO),ws[j]?=some p->p.1=key+j
 obj:∀ p∈ws,∃ o,p.2=some o/\OObj w I N gv key (key+ws.length) (gv p.1) (gf p.1) o
 inF:∀ p∈ws,∀ x,gf p.1 x->F x
 dis:∀ p∈ws,∀ q∈ws,∀ x,gf p.1 x->gf q.1 x->p.1=q.1
def Agree{α:Type}(f f':Nat->α)(key len:Nat):Prop:=∀ n,(n<key\/key+len<=n)->f' n=f n
section
variable {w:World} {I N:Nat->Prop}
theorem Seg.range{gv:Nat->Value}{gf:Nat->Nat->Prop}{key:Nat}{ws:List (Nat×Option AO)}{F:Nat->Prop}(h:Seg w I N gv gf key ws F):∀ p∈ws,key<=p.1/\p.1<key+ws.length:=by
 intro p hp
 obtain⟨j,hj⟩:=List.getElem?_of_mem hp
 have:=h.nums j p hj
 have:=(List.getElem?_eq_some_iff.1 hj).1
 omega
theorem Seg.nil(gv:Nat->Value)(gf:Nat->Nat->Prop)(key:Nat)(F:Nat->Prop):Seg w I N gv gf key [] F :=
 ⟨fun j p h=>by simp at h,fun p h=>by simp at h,fun p h=>by simp at h,fun p h=>by simp at h⟩
theorem Seg.append{gv gv':Nat->Value}{gf gf':Nat->Nat->Prop}{key:Nat}{ws ws':List (Nat×Option AO)}{F F':Nat->Prop}(h:Seg w I N gv gf key ws F)(h':Seg w I N gv' gf' (key+ws.length) ws' F')
  (av:Agree gv gv' (key+ws.length) ws'.length) (af:Agree gf gf' (key+ws.length) ws'.length) (hd:∀ x,F x->¬ F' x):Seg w I N gv' gf' key (ws++ws') (fun x=>F x\/F' x):=by
 have e1:∀ p∈ws,gv' p.1=gv p.1/\gf' p.1=gf p.1:=fun p hp=>by
  have:=h.range p hp
  exact⟨av _ (.inl (by omega)),af _ (.inl (by omega))⟩
 refine⟨fun j p hj=>?_,fun p hp=>?_,fun p hp x hx=>?_,fun p hp q hq x hx hx'=>?_⟩
 ·rw[List.getElem?_append]at hj
  split at hj
  ·exact h.nums j p hj
  ·have:=h'.nums _ p hj;omega
 ·rw[List.length_append]
  rcases List.mem_append.1 hp with hp|hp
  ·obtain⟨o,h1,h2⟩:=h.obj p hp
   rw[(e1 p hp).1,(e1 p hp).2]
   exact⟨o,h1,h2.mono (fun n h3 h4=>av n (.inl h4)) (Nat.le_refl _) (by omega)⟩
  ·obtain⟨o,h1,h2⟩:=h'.obj p hp
   exact⟨o,h1,h2.mono (fun _ _ _=>rfl) (by omega) (by omega)⟩
 ·rcases List.mem_append.1 hp with hp|hp
  ·rw[(e1 p hp).2]at hx;exact .inl (h.inF p hp x hx)
  ·exact .inr (h'.inF p hp x hx)
 ·rcases List.mem_append.1 hp with hp|hp<;>rcases List.mem_append.1 hq with hq|hq
  ·rw[(e1 p hp).2]at hx;rw[(e1 q hq).2]at hx';exact h.dis p hp q hq x hx hx'
  ·rw[(e1 p hp).2]at hx;exact absurd (h'.inF q hq x hx') (hd x (h.inF p hp x hx))
  ·rw[(e1 q hq).2]at hx';exact absurd (h'.inF p hp x hx) (hd x (h.inF q hq x hx'))
  ·exact h'.dis p hp q hq x hx hx'
theorem Seg.weak{gv:Nat->Value}{gf:Nat->Nat->Prop}{key:Nat}{ws:List (Nat×Option AO)}{F F':Nat->Prop}(h:Seg w I N gv gf key ws F)(hF:∀ x,F x->F' x):Seg w I N gv gf key ws F' :=
 ⟨h.nums,h.obj,fun p hp x hx=>hF x (h.inF p hp x hx),h.dis⟩
theorem Agree.refl{α:Type}(f:Nat->α)(key len:Nat):Agree f f key len:=fun _ _=>rfl
theorem Agree.append{α:Type}{f f' f'':Nat->α}{key a b:Nat}(h:Agree f f' key a)(h':Agree f' f'' (key+a) b):Agree f f'' key (a+b):=by
 intro n hn
 rw[h' n (by omega),h n (by omega)]
theorem Zj4{u:Value}{c:AV}{S:Nat->Prop}(h:Cl w I u c S)(hN:∀ x,S x->N x)(gv0:Nat->Value)(gf0:Nat->Nat->Prop)(key:Nat) :
  ∃ gv gf,Agree gv0 gv key (open1 key c).2.length/\Agree gf0 gf key (open1 key c).2.length/\Seg w I N gv gf key (open1 key c).2 S/\OpenRel gv key (key+(open1 key c).2.length) w I u (open1 key c).1:=by
 have other:(∀ sz xs,c≠.sl .own sz xs)->open1 key c=(c,[]):=by
  intro hn
  cases c<;>try rfl
  rename_i md sz xs
  cases md<;>first|rfl|exact absurd rfl (hn _ _)
 by_cases hc:∃ sz xs,c=.sl .own sz xs
 ·obtain⟨sz,xs,rfl⟩:=hc
  refine⟨upd gv0 key u,upd gf0 key S,fun n hn=>?_,fun n hn=>?_,⟨fun j p hj=>?_,fun p hp=>?_,fun p hp x hx=>?_,fun p hp q hq _ _ _=>?_⟩,.inl ⟨key,rfl,Nat.le_refl _,by simp[open1],by simp[upd],h.one⟩⟩
  ·simp only[open1,List.length_singleton]at hn;simp only[upd];rw[if_neg (by omega)]
  ·simp only[open1,List.length_singleton]at hn;simp only[upd];rw[if_neg (by omega)]
  ·simp only[open1]at hj
   cases j with
   | zero=>simp only[List.getElem?_cons_zero,Option.some.injEq]at hj;rw[<- hj];rfl
   | succ j=>simp at hj
  ·simp only[open1,List.mem_singleton]at hp
   subst hp
   exact⟨_,rfl,by simpa [upd] using h,by simpa [upd] using hN⟩
  ·simp only[open1,List.mem_singleton]at hp
   subst hp
   simpa [upd] using hx
  ·simp only[open1,List.mem_singleton]at hp hq
   rw[hp,hq]
 ·have hn:∀ sz xs,c≠.sl .own sz xs:=fun sz xs e=>hc ⟨sz,xs,e⟩
  rw[other hn]
  exact⟨gv0,gf0,Agree.refl _ _ _,Agree.refl _ _ _,Seg.nil _ _ _ _,.inr ⟨⟨S,h⟩,hn⟩⟩
theorem Zc1(key:Nat):∀ cs:List AV,(openL key cs).1.length=cs.length:=by
 intro cs
 induction cs generalizing key with
 | nil=>rfl
 | cons c cs ih=>simp[openL,ih]
theorem Zd2:∀ {us:List Value} {cs:List AV} {fs:Nat->Nat->Prop},ClCells w I N us cs fs->∀ (gv0:Nat->Value) (gf0:Nat->Nat->Prop) (key:Nat),
  ∃ gv gf,Agree gv0 gv key (openL key cs).2.length/\Agree gf0 gf key (openL key cs).2.length/\Seg w I N gv gf key (openL key cs).2 (fun x=>∃ i,i<cs.length/\fs i x) /\
   ∀ (i:Nat) (u:Value) (c:AV),us[i]?=some u->(openL key cs).1[i]?=some c->OpenRel gv key (key+(openL key cs).2.length) w I u c
 | [],[],fs,_,gv0,gf0,key=>⟨gv0,gf0,Agree.refl _ _ _,Agree.refl _ _ _,Seg.nil _ _ _ _,fun i u c hu=>by simp at hu⟩
 | [],_::_,_,h,_,_,_=>by have:=h.size;simp at this
 | _::_,[],_,h,_,_,_=>by have:=h.size;simp at this
 | u::us,c::cs,fs,h,gv0,gf0,key=>by
  obtain⟨gv1,gf1,a1,b1,s1,r1⟩:=Zj4 (N:=N) (h.cl 0 u c rfl rfl) (fun x hx=>h.inN 0 x (by simp) hx) gv0 gf0 key
  have ht:ClCells w I N us cs (fun i=>fs (i+1)):=⟨by have:=h.size;simpa using this,fun i v d hv hd=>h.cl (i+1) v d (by simpa using hv) (by simpa using hd),
   fun i x hi hx=>h.inN (i+1) x (by simp;omega) hx,fun i j x hi hj h1 h2=>by have:=h.dis (i+1) (j+1) x (by simp;omega) (by simp;omega) h1 h2;omega⟩
  obtain⟨gv2,gf2,a2,b2,s2,r2⟩:=Zd2 ht gv1 gf1 (key+(open1 key c).2.length)
  have hlen:(openL key (c::cs)).2.length=(open1 key c).2.length+(openL (key+(open1 key c).2.length) cs).2.length:=by simp[openL]
  refine⟨gv2,gf2,by rw[hlen];exact a1.append a2,by rw[hlen];exact b1.append b2,?_,?_⟩
  ·refine (s1.append s2 a2 b2 (fun x hx=>?_)).weak ?_
   ·rintro⟨i,hi,hx2⟩
    have:=h.dis 0 (i+1) x (by simp) (by simp;omega) hx hx2
    omega
   ·rintro x (hx|⟨i,hi,hx⟩)
    ·exact⟨0,by simp,hx⟩
    ·exact⟨i+1,by simp;omega,hx⟩
  ·intro i v d hv hd
   rw[hlen]
   cases i with
   | zero =>
    simp only[openL,List.getElem?_cons_zero,Option.some.injEq]at hv hd
    subst hv;subst hd
    exact r1.mono (fun n h1 h2=>a2 n (.inl h2)) (Nat.le_refl _) (by omega)
   | succ i =>
    exact (r2 i v d (by simpa using hv) (by simpa [openL] using hd)).mono (fun _ _ _=>rfl) (by omega) (by omega)
inductive OpenV (gv:Nat->Value) (lo hi:Nat) (w:World) (I:Nat->Prop) (isBox:Nat->Prop):Value->AV->Prop
 | one (u:Value) (c:AV) (h:OpenRel gv lo hi w I u c):OpenV gv lo hi w I isBox u c
 | agg (us:Array Value) (cs:List AV) (hl:us.size=cs.length) (h:∀ (i:Nat) (u:Value) (c:AV),us[i]?=some u->cs[i]?=some c->OpenRel gv lo hi w I u c):OpenV gv lo hi w I isBox (.agg us) (.agg cs)
 | ptr (n b:Nat) (h1:lo<=n) (h2:n<hi) (hb:isBox n) (hv:gv n=.pointer (some ⟨b,0,none⟩)):OpenV gv lo hi w I isBox (.pointer (some ⟨b,0,none⟩)) (.ptr n 0 0)
def BoxIn(ws:List (Nat×Option AO))(n:Nat):Prop:=∃ cells,(n,some (.box cells))∈ws
theorem OpenV.mono{gv gv':Nat->Value}{lo hi lo' hi':Nat}{B B':Nat->Prop}{u:Value}{c:AV}(h:OpenV gv lo hi w I B u c)(hv:∀ n,lo<=n->n<hi->gv' n=gv n)(hl:lo'<=lo)(hh:hi<=hi')(hB:∀ n,B n->B' n):OpenV gv' lo' hi' w I B' u c:=by
 cases h with
 | one u c h=>exact .one u c (h.mono hv hl hh)
 | agg us cs hl' h=>exact .agg us cs hl' fun i u c hu hc=>(h i u c hu hc).mono hv hl hh
 | ptr n b h1 h2 hb hv'=>exact .ptr n b (by omega) (by omega) (hB n hb) (by rw[hv n h1 h2];exact hv')
theorem Zj8{v:Value}{c:AV}{S:Nat->Prop}(h:Shut w I N v c S)(gv0:Nat->Value)(gf0:Nat->Nat->Prop)(key:Nat) :
  ∃ gv gf,Agree gv0 gv key (openV key c).2.length/\Agree gf0 gf key (openV key c).2.length/\Seg w I N gv gf key (openV key c).2 S/\OpenV gv key (key+(openV key c).2.length) w I (BoxIn (openV key c).2) v (openV key c).1:=by
 cases h with
 | one v c S h hN =>
  have hc:openV key c=open1 key c:=by
   cases h<;>rfl
  rw[hc]
  obtain⟨gv,gf,h1,h2,h3,h4⟩:=Zj4 h hN gv0 gf0 key
  exact⟨gv,gf,h1,h2,h3,.one _ _ h4⟩
 | agg vs cs fs S h hS =>
  obtain⟨gv,gf,h1,h2,h3,h4⟩:=Zd2 h gv0 gf0 key
  exact⟨gv,gf,h1,h2,h3.weak fun x hx=>(hS x).2 hx,.agg _ _ (by rw[Zc1];simpa using h.size) fun i u c hu hc=>h4 i u c (by simpa using hu) hc⟩
 | cellp b cur e cs fs S hh h hb hS =>
  obtain⟨gv,gf,h1,h2,h3,h4⟩:=Zd2 h (upd gv0 key (.pointer (some ⟨b,0,none⟩))) (upd gf0 key fun x=>x=b) (key+1)
  have hlen:(openV key (.cellp cs)).2.length=1+(openL (key+1) cs).2.length:=by simp[openV];omega
  have ek:gv key=.pointer (some ⟨b,0,none⟩):=by rw[h1 key (.inl (by omega))];simp[upd]
  have ef:gf key=fun x=>x=b:=by rw[h2 key (.inl (by omega))];simp[upd]
  refine⟨gv,gf,?_,?_,?_,?_⟩
  ·rw[hlen]
   refine Agree.append (f':=upd gv0 key (.pointer (some ⟨b,0,none⟩))) (fun n hn=>?_) h1
   simp only[upd];rw[if_neg (by omega)]
  ·rw[hlen]
   refine Agree.append (f':=upd gf0 key fun x=>x=b) (fun n hn=>?_) h2
   simp only[upd];rw[if_neg (by omega)]
  ·refine⟨fun j p hj=>?_,fun p hp=>?_,fun p hp x hx=>?_,fun p hp q hq x hx hx'=>?_⟩
   ·simp only[openV]at hj
    cases j with
    | zero=>simp only[List.getElem?_cons_zero,Option.some.injEq]at hj;rw[<- hj];rfl
    | succ j=>have:=h3.nums j p (by simpa using hj);omega
   ·simp only[openV,List.mem_cons]at hp
    rw[hlen]
    rcases hp with rfl|hp
    ·rw[ek,ef]
     refine⟨_,rfl,b,cur,e,rfl,hh,by rw[Zc1];simpa using h.size,fun x=>Iff.rfl,hb,fun i u c hu hc=>?_⟩
     exact (h4 i u c (by simpa using hu) hc).mono (fun _ _ _=>rfl) (by omega) (by omega)
    ·obtain⟨o,h5,h6⟩:=h3.obj p hp
     exact⟨o,h5,h6.mono (fun _ _ _=>rfl) (by omega) (by omega)⟩
   ·simp only[openV,List.mem_cons]at hp
    rcases hp with rfl|hp
    ·rw[ef]at hx;exact (hS x).2 (.inl hx)
    ·exact (hS x).2 (.inr (h3.inF p hp x hx))
   ·simp only[openV,List.mem_cons]at hp hq
    have hbn:∀ p∈(openL (key+1) cs).2,¬ gf p.1 b:=fun p hp hx=>by
     obtain⟨i,hi,hx⟩:=h3.inF p hp b hx
     exact hb (h.inN i b hi hx)
    rcases hp with rfl|hp<;>rcases hq with rfl|hq
    ·rfl
    ·rw[ef]at hx;exact absurd (hx ▸ hx') (hbn q hq)
    ·rw[ef]at hx';exact absurd (hx' ▸ hx) (hbn p hp)
    ·exact h3.dis p hp q hq x hx hx'
  ·refine .ptr key b (Nat.le_refl _) (by rw[hlen];omega) ⟨_,by simp[openV];exact .inl rfl⟩ ek
theorem Zkc(key:Nat):∀ cs:List AV,(openT key cs).1.length=cs.length:=by
 intro cs
 induction cs generalizing key with
 | nil=>rfl
 | cons c cs ih=>simp[openT,ih]
theorem Zki:∀ {us:List Value} {cs:List AV} {fs:Nat->Nat->Prop},ShutL w I N us cs fs->∀ (gv0:Nat->Value) (gf0:Nat->Nat->Prop) (key:Nat),
  ∃ gv gf,Agree gv0 gv key (openT key cs).2.length/\Agree gf0 gf key (openT key cs).2.length/\Seg w I N gv gf key (openT key cs).2 (fun x=>∃ i,i<cs.length/\fs i x) /\
   ∀ (i:Nat) (u:Value) (c:AV),us[i]?=some u->(openT key cs).1[i]?=some c->OpenV gv key (key+(openT key cs).2.length) w I (BoxIn (openT key cs).2) u c
 | [],[],fs,_,gv0,gf0,key=>⟨gv0,gf0,Agree.refl _ _ _,Agree.refl _ _ _,Seg.nil _ _ _ _,fun i u c hu=>by simp at hu⟩
 | [],_::_,_,h,_,_,_=>by have:=h.size;simp at this
 | _::_,[],_,h,_,_,_=>by have:=h.size;simp at this
 | u::us,c::cs,fs,h,gv0,gf0,key=>by
  obtain⟨gv1,gf1,a1,b1,s1,r1⟩:=Zj8 (h.sh 0 u c rfl rfl) gv0 gf0 key
  have ht:ShutL w I N us cs (fun i=>fs (i+1)):=⟨by have:=h.size;simpa using this,fun i v d hv hd=>h.sh (i+1) v d (by simpa using hv) (by simpa using hd),
   fun i j x hi hj h1 h2=>by have:=h.dis (i+1) (j+1) x (by simp;omega) (by simp;omega) h1 h2;omega⟩
  obtain⟨gv2,gf2,a2,b2,s2,r2⟩:=Zki ht gv1 gf1 (key+(openV key c).2.length)
  have hlen:(openT key (c::cs)).2.length=(openV key c).2.length+(openT (key+(openV key c).2.length) cs).2.length:=by simp[openT]
  refine⟨gv2,gf2,by rw[hlen];exact a1.append a2,by rw[hlen];exact b1.append b2,?_,?_⟩
  ·refine (s1.append s2 a2 b2 (fun x hx=>?_)).weak ?_
   ·rintro⟨i,hi,hx2⟩
    have:=h.dis 0 (i+1) x (by simp) (by simp;omega) hx hx2
    omega
   ·rintro x (hx|⟨i,hi,hx⟩)
    ·exact⟨0,by simp,hx⟩
    ·exact⟨i+1,by simp;omega,hx⟩
  ·intro i v d hv hd
   rw[hlen]
   cases i with
   | zero =>
    simp only[openT,List.getElem?_cons_zero,Option.some.injEq]at hv hd
    subst hv;subst hd
    exact r1.mono (fun n h1 h2=>a2 n (.inl h2)) (Nat.le_refl _) (by omega) (fun n ⟨cells,hc⟩=>⟨cells,by simp only[openT,List.mem_append];exact .inl hc⟩)
   | succ i =>
    exact (r2 i v d (by simpa using hv) (by simpa [openT] using hd)).mono (fun _ _ _=>rfl) (by omega) (by omega) (fun n ⟨cells,hc⟩=>⟨cells,by simp only[openT,List.mem_append];exact .inr hc⟩)
inductive OpenT (gv:Nat->Value) (lo hi:Nat) (w:World) (I:Nat->Prop) (isBox:Nat->Prop):Value->AV->Prop
 | one (u:Value) (c:AV) (h:OpenV gv lo hi w I isBox u c):OpenT gv lo hi w I isBox u c
 | tup (us:Array Value) (cs:List AV) (hl:us.size=cs.length) (h:∀ (i:Nat) (u:Value) (c:AV),us[i]?=some u->cs[i]?=some c->OpenV gv lo hi w I isBox u c):OpenT gv lo hi w I isBox (.tuple us) (.tup cs)
theorem Zpn{v:Value}{c:AV}{S:Nat->Prop}(h:ResRel w I N v c S)(gv0:Nat->Value)(gf0:Nat->Nat->Prop)(key:Nat) :
  ∃ gv gf,Agree gv0 gv key (openR key c).2.length/\Agree gf0 gf key (openR key c).2.length/\Seg w I N gv gf key (openR key c).2 S/\OpenT gv key (key+(openR key c).2.length) w I (BoxIn (openR key c).2) v (openR key c).1:=by
 cases h with
 | one v c S h ht =>
  have hc:openR key c=openV key c:=by
   cases c<;>first|rfl|(simp[AV.isTup]at ht)
  rw[hc]
  obtain⟨gv,gf,h1,h2,h3,h4⟩:=Zj8 h gv0 gf0 key
  exact⟨gv,gf,h1,h2,h3,.one _ _ h4⟩
 | tup vs cs fs S h hS =>
  obtain⟨gv,gf,h1,h2,h3,h4⟩:=Zki h gv0 gf0 key
  exact⟨gv,gf,h1,h2,h3.weak fun x hx=>(hS x).2 hx,.tup _ _ (by rw[Zkc];simpa using h.size) fun i u c hu hc=>h4 i u c (by simpa using hu) hc⟩
theorem OpenV.srel{gv:Nat->Value}{lo hi:Nat}{B:Nat->Prop}{u:Value}{c:AV}(h:OpenV gv lo hi w I B u c){num:Nat->Option FuncId}{R:Nat->Prop}{g:Gh}{hp:Nat->Option AO}{ep:Nat}
  (hv:∀ n,lo<=n->n<hi->g.v n=gv n/\g.used n) (hI:∀ b,I b->g.I b) (hB:∀ n,B n->∀ o,hp n=some o->∃ cells,o=.box cells):SRel num w R g hp ep u c:=by
 cases h with
 | one u c h=>exact (h.srel hv hI).2
 | agg us cs hl h =>
  refine .agg _ _ hl (fun i v hv'=>?_) (fun i v c hv' hc=>((h i v c hv' hc).srel hv hI).2)
  have hi2:=(Array.getElem?_eq_some_iff.1 hv').1
  exact ((h i v _ hv' (List.getElem?_eq_getElem (by omega))).srel (num:=num) (R:=R) (hp:=hp) (ep:=ep) hv hI).1
 | ptr n b h1 h2 hb hv' =>
  obtain⟨h5,h6⟩:=hv n h1 h2
  refine .ptr _ _ _ _ rfl h6 (fun o ho=>?_)
  obtain⟨cells,rfl⟩:=hB n hb o ho
  exact⟨b,by rw[h5,hv'],rfl⟩
theorem OpenT.srel{gv:Nat->Value}{lo hi:Nat}{B:Nat->Prop}{u:Value}{c:AV}(h:OpenT gv lo hi w I B u c){num:Nat->Option FuncId}{R:Nat->Prop}{g:Gh}{hp:Nat->Option AO}{ep:Nat}
  (hv:∀ n,lo<=n->n<hi->g.v n=gv n/\g.used n) (hI:∀ b,I b->g.I b) (hB:∀ n,B n->∀ o,hp n=some o->∃ cells,o=.box cells):SRel num w R g hp ep u c:=by
 cases h with
 | one u c h=>exact h.srel hv hI hB
 | tup us cs hl h=>exact .tup _ _ hl (fun i v c hv' hc=>(h i v c hv' hc).srel hv hI hB)
end
end Go.Proofs.YtfemiipgkhekiaaGreatDoor
