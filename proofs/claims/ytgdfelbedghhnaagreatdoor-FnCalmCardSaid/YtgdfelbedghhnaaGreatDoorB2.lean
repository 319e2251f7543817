/- The program's data as plain values, and their cells; texts' order; numbers' wrap. And what follows from it, part by part, as the proof needs it. -/
import Derived.Test.YtgdfelbedghhnaaGreatDoorB1
import Derived.Test.YtgdfelbedghhnaaGreatDoorCode
import Derived.WalkKit
import Derived.ProofKit
import Derived.Below
import Derived.Laws.AppendOwn
import Derived.Calls
import Derived.Laws.Cells
import Derived.Laws.Slices
import Derived.Laws.StructEq
import Derived.Laws.OwnMore
import Derived.Laws.MakeOwn
namespace Go.Proofs.YtgdfelbedghhnaaGreatDoor
open Go
set_option linter.unusedSimpArgs false
noncomputable def F:Callee:=P.lim
theorem Zae{k:Nat}{c:CFn}{args:List AV}{objs:List AO}{r:AV×List (Option AO)}(hc:P.fn k=some c)(hl:Nat.ble args.length c.nt=true)
  (h:fin c.res objs.length (X F [.code c.body] (.normal,⟨startSlots args 0,startHeap objs 0,0,objs.length,objs.length⟩))=some r):F k args objs=some r:=Zse hc (Nat.le_of_ble_eq_true hl) h
abbrev T:=ByteArray
structure Want where
 copy:T
 version:Int
 hold:T
 pull:Int
 start:Int
 dies:Int
 grace:Int
structure Run where
 want:Want
 state:Int
 left:Int
 falls:Int
 til:Int
structure Ask where
 hold:T
 copy:T
 first:Int
 at_:Int
structure Mate where
 name:T
 up:Bool
 clock:Int
 known:Bool
 seen:Int
 wants:List Want
 runs:List Run
 asks:List Ask
 gives:List Ask
structure Parcel where
 kind:Int
 berth:T
 seen:Int
 wants:List Want
 hold:T
 copy:T
 at_:Int
structure Grant where
 hold:T
 berth:T
 copy:T
 at_:Int
 til:Int
structure Place where
 berth:T
 seen:Int
 wants:List Want
structure Land where
 time:Int
 grants:List Grant
 places:List Place
structure Wld where
 land:Land
 mates:List Mate
 flight:List T
structure Event where
 kind:Int
 a:Int
 b:Int
 wants:List Want
 rates:List Int
def Want.c(w:Want):List AV:=[.str w.copy,.int .i64 w.version,.str w.hold,.int .i64 w.pull,.int .i64 w.start,.int .i64 w.dies,.int .i64 w.grace]
def Run.c(r:Run):List AV:=[.str r.want.copy,.int .i64 r.want.version,.str r.want.hold,.int .i64 r.want.pull,.int .i64 r.want.start,.int .i64 r.want.dies,.int .i64 r.want.grace,.int .i64 r.state,.int .i64 r.left,.int .i64 r.falls,.int .i64 r.til]
def Ask.c(a:Ask):List AV:=[.str a.hold,.str a.copy,.int .i64 a.first,.int .i64 a.at_]
def Mate.c(m:Md)(x:Mate):List AV:=[.str x.name,.bool x.up,.int .i64 x.clock,.bool x.known,.int .i64 x.seen,.sl m 7 (x.wants.map Want.c),.sl m 11 (x.runs.map Run.c),.sl m 4 (x.asks.map Ask.c),.sl m 4 (x.gives.map Ask.c)]
def Parcel.c(m:Md)(p:Parcel):List AV:=[.int .i64 p.kind,.str p.berth,.int .i64 p.seen,.sl m 7 (p.wants.map Want.c),.str p.hold,.str p.copy,.int .i64 p.at_]
def Grant.c(g:Grant):List AV:=[.str g.hold,.str g.berth,.str g.copy,.int .i64 g.at_,.int .i64 g.til]
def Place.c(m:Md)(p:Place):List AV:=[.str p.berth,.int .i64 p.seen,.sl m 7 (p.wants.map Want.c)]
def Land.c(m m':Md)(l:Land):List AV:=[.int .i64 l.time,.sl m 5 (l.grants.map Grant.c),.sl m 3 (l.places.map (Place.c m'))]
def Wld.c(m m':Md)(w:Wld):List AV:=[.int .i64 w.land.time,.sl m 5 (w.land.grants.map Grant.c),.sl m 3 (w.land.places.map (Place.c m')),.sl m 9 (w.mates.map (Mate.c m')),.sl m 1 (w.flight.map fun s=>[.str s])]
def Event.c(m:Md)(e:Event):List AV:=[.int .i64 e.kind,.int .i64 e.a,.int .i64 e.b,.sl m 7 (e.wants.map Want.c),.sl m 1 (e.rates.map fun n=>[.int .i64 n])]
attribute [simp] Want.c Run.c Ask.c Mate.c Parcel.c Grant.c Place.c Land.c Wld.c Event.c
@[simp] theorem Want.eta(w:Want):(⟨w.copy,w.version,w.hold,w.pull,w.start,w.dies,w.grace⟩:Want)=w:=rfl
@[simp] theorem Run.eta(r:Run):(⟨r.want,r.state,r.left,r.falls,r.til⟩:Run)=r:=rfl
@[simp] theorem Ask.eta(a:Ask):(⟨a.hold,a.copy,a.first,a.at_⟩:Ask)=a:=rfl
@[simp] theorem Grant.eta(g:Grant):(⟨g.hold,g.berth,g.copy,g.at_,g.til⟩:Grant)=g:=rfl
end Go.Proofs.YtgdfelbedghhnaaGreatDoor
namespace Go.Proofs.YtgdfelbedghhnaaGreatDoor
open Go Go.RowKit
def cellAt(xs:List (List AV))(i j:Nat):Option AV:=(xs[i]?).bind (·[j]?)
theorem Zab{xs:List (List AV)}{i j:Nat}{c:AV}:cellAt xs i j=some c↔∃ row,xs[i]?=some row/\row[j]?=some c:=by
 unfold cellAt
 cases h:xs[i]?<;>simp
def Same(w w':World)(S:Nat->Prop):Prop:=∀ b,S b->w'.heap[b]?=w.heap[b]?
theorem Same.refl(w:World)(S:Nat->Prop):Same w w S:=fun _ _=>rfl
theorem Same.mono{w w':World}{S T:Nat->Prop}(h:Same w w' S)(hs:∀ b,T b->S b):Same w w' T:=fun b hb=>h b (hs b hb)
theorem Same.trans{a b c:World}{S:Nat->Prop}(h:Same a b S)(k:Same b c S):Same a c S:=fun x hx=>(k x hx).trans (h x hx)
theorem Same.cell{w w':World}{S:Nat->Prop}(h:Same w w' S){a:Addr}(ha:S a.block):w'.cell? a=w.cell? a:=World.cell?_of_block (h _ ha)
/-! ### What is on loan -/
inductive Bor (w:World) (R:Nat->Prop):Value->AV->Prop
 | any (v:Value) (h:v.oneCell'=true):Bor w R v .any
 | bool (b:Bool):Bor w R (.bool b) (.bool b)
 | int (k:IntKind) (n:Int):Bor w R (.int k n) (.int k n)
 | str (s:ByteArray):Bor w R (.string s) (.str s)
 | nil (m:Md) (sz:Nat) (a:Option Addr) (cap:Nat):Bor w R (.slice a 0 cap) (.sl m sz [])
 | sl (m:Md) (sz:Nat) (xs:List (List AV)) (b o cap:Nat) (us:Nat->Nat->Value) (hcap:xs.length<=cap) (hb:R b) (hrow:∀ row∈xs,row.length=sz)
   (hcell:∀ i j c,cellAt xs i j=some c->w.cell? ⟨b,o+i*sz+j,none⟩=some (us i j)) (hin:∀ i j c,cellAt xs i j=some c->Bor w R (us i j) c) :
   Bor w R (.slice (some ⟨b,o,none⟩) xs.length cap) (.sl m sz xs)
theorem Bor.mono{w w':World}{R R':Nat->Prop}{v:Value}{c:AV}(h:Bor w R v c)(hs:Same w w' R)(hr:∀ b,R b->R' b):Bor w' R' v c:=by
 induction h with
 | any v h=>exact .any v h
 | bool b=>exact .bool b
 | int k n=>exact .int k n
 | str s=>exact .str s
 | nil m sz a cap=>exact .nil m sz a cap
 | sl m sz xs b o cap us hcap hb hrow hcell _ ih=>exact .sl m sz xs b o cap us hcap (hr b hb) hrow (fun i j c hc=>by rw[hs.cell (by exact hb)];exact hcell i j c hc) ih
theorem Bor.one{w:World}{R:Nat->Prop}{v:Value}{c:AV}(h:Bor w R v c):v.oneCell'=true:=by
 cases h<;>first|rfl|assumption
theorem Bor.md{w:World}{R:Nat->Prop}{v:Value}{m m':Md}{sz:Nat}{xs:List (List AV)}(h:Bor w R v (.sl m sz xs)):Bor w R v (.sl m' sz xs):=by
 cases h with
 | nil m sz a cap=>exact .nil _ _ _ _
 | sl m sz xs b o cap us hcap hb hrow hcell hin=>exact .sl _ _ _ b o cap us hcap hb hrow hcell hin
theorem Bor.lend{w:World}{R:Nat->Prop}{v:Value}{c:AV}(m:Md)(h:Bor w R v c):Bor w R v (c.lend m):=by
 cases c<;>first|exact h|exact h.md
/-! ### What is owned, with its blocks -/
inductive Cl (w:World) (I:Nat->Prop):Value->AV->(Nat->Prop)->Prop
 | any (v:Value) (S:Nat->Prop) (h:v.oneCell'=true) (hS:∀ b,¬ S b):Cl w I v .any S
 | bool (b:Bool) (S:Nat->Prop) (hS:∀ b,¬ S b):Cl w I (.bool b) (.bool b) S
 | int (k:IntKind) (n:Int) (S:Nat->Prop) (hS:∀ b,¬ S b):Cl w I (.int k n) (.int k n) S
 | str (s:ByteArray) (S:Nat->Prop) (hS:∀ b,¬ S b):Cl w I (.string s) (.str s) S
 | imm (v:Value) (sz:Nat) (xs:List (List AV)) (S:Nat->Prop) (h:Bor w I v (.sl .imm sz xs)) (hS:∀ b,¬ S b):Cl w I v (.sl .imm sz xs) S
 | nil (sz:Nat) (S:Nat->Prop) (hS:∀ b,¬ S b):Cl w I (.slice none 0 0) (.sl .own sz []) S
 | own (sz:Nat) (xs:List (List AV)) (b cap:Nat) (cur:Array Value) (e:TypeId) (us:Nat->Nat->Value) (fs:Nat->Nat->Nat->Prop) (S:Nat->Prop)
   (hheap:w.heap[b]?=some (.cells cur e (0,0))) (hcap:xs.length<=cap) (hmax:cap<=maxLen) (hcur:cap*sz<=cur.size) (hrow:∀ row∈xs,row.length=sz)
   (hcell:∀ i j c,cellAt xs i j=some c->cur[i*sz+j]?=some (us i j)) (hin:∀ i j c,cellAt xs i j=some c->Cl w I (us i j) c (fs i j))
   (hdis:∀ i j c i' j' c' x,cellAt xs i j=some c->cellAt xs i' j'=some c'->fs i j x->fs i' j' x->i=i'/\j=j')
   (hnot:∀ i j c,cellAt xs i j=some c->¬ fs i j b) (hS:∀ x,S x↔x=b\/∃ i j c,cellAt xs i j=some c/\fs i j x) :
   Cl w I (.slice (some ⟨b,0,none⟩) xs.length cap) (.sl .own sz xs) S
theorem Cl.one{w:World}{I:Nat->Prop}{v:Value}{c:AV}{S:Nat->Prop}(h:Cl w I v c S):v.oneCell'=true:=by
 cases h with
 | imm _ _ _ _ h=>exact h.one
 | _=>first|rfl|assumption
theorem Cl.mono{w w':World}{I I':Nat->Prop}{v:Value}{c:AV}{S:Nat->Prop}(h:Cl w I v c S)(hs:Same w w' S)(hi:Same w w' I)(hI:∀ b,I b->I' b):Cl w' I' v c S:=by
 induction h with
 | any v S h hS=>exact .any v S h hS
 | bool b S hS=>exact .bool b S hS
 | int k n S hS=>exact .int k n S hS
 | str s S hS=>exact .str s S hS
 | imm v sz xs S h hS=>exact .imm v sz xs S (h.mono hi hI) hS
 | nil sz S hS=>exact .nil sz S hS
 | own sz xs b cap cur e us fs S hheap hcap hmax hcur hrow hcell _ hdis hnot hS ih =>
  refine .own sz xs b cap cur e us fs S ?_ hcap hmax hcur hrow hcell ?_ hdis hnot hS
  ·rw[hs b ((hS b).2 (.inl rfl))];exact hheap
  ·exact fun i j c hc=>ih i j c hc (hs.mono fun x hx=>(hS x).2 (.inr ⟨i,j,c,hc,hx⟩))
theorem Cl.blocks{w:World}{I:Nat->Prop}{v:Value}{c:AV}{S S':Nat->Prop}(h:Cl w I v c S)(hs:∀ b,S' b↔S b):Cl w I v c S':=by
 have he:S'=S:=funext fun b=>propext (hs b)
 rw[he];exact h
theorem Cl.lt{w:World}{I:Nat->Prop}{v:Value}{c:AV}{S:Nat->Prop}(h:Cl w I v c S):∀ b,S b->b<w.heap.size:=by
 induction h with
 | own sz xs b cap cur e us fs S hheap hcap hmax hcur hrow hcell _ hdis hnot hS ih =>
  intro x hx
  rcases (hS x).1 hx with rfl|⟨i,j,c,hc,hf⟩
  ·exact (Xab.1 hheap).1
  ·exact ih i j c hc x hf
 | any _ S _ hS=>exact fun b hb=>absurd hb (hS b)
 | bool _ S hS=>exact fun b hb=>absurd hb (hS b)
 | int _ _ S hS=>exact fun b hb=>absurd hb (hS b)
 | str _ S hS=>exact fun b hb=>absurd hb (hS b)
 | imm _ _ _ S _ hS=>exact fun b hb=>absurd hb (hS b)
 | nil _ S hS=>exact fun b hb=>absurd hb (hS b)
theorem Zaf{w:World}{b o:Nat}{cur:Array Value}{e:TypeId}{f:Nat×Nat}(h:w.heap[b]?=some (.cells cur e f)):w.cell? ⟨b,o,none⟩=cur[o]?:=by
 simp[World.cell?,h]
theorem Cl.bor{w:World}{I R:Nat->Prop}{v:Value}{c:AV}{S:Nat->Prop}(h:Cl w I v c S)(hs:∀ b,S b->R b)(hi:∀ b,I b->R b):Bor w R v c:=by
 induction h with
 | any v S h hS=>exact .any v h
 | bool b S hS=>exact .bool b
 | int k n S hS=>exact .int k n
 | str s S hS=>exact .str s
 | imm v sz xs S h hS=>exact h.mono (Same.refl _ _) hi
 | nil sz S hS=>exact .nil _ _ _ _
 | own sz xs b cap cur e us fs S hheap hcap hmax hcur hrow hcell _ hdis hnot hS ih =>
  refine .sl _ _ _ b 0 cap us hcap (hs b ((hS b).2 (.inl rfl))) hrow ?_ ?_
  ·intro i j c hc
   rw[Zaf hheap,Xbe]
   exact hcell i j c hc
  ·exact fun i j c hc=>ih i j c hc (fun x hx=>hs x ((hS x).2 (.inr ⟨i,j,c,hc,hx⟩)))
/-! ### The ghost: which value each number stands for, and its blocks -/
structure Gh where
 v:Nat->Value
 fp:Nat->Nat->Prop
 I:Nat->Prop
 N:Nat->Prop
 used:Nat->Prop
def rdSet(R:Nat->Prop)(g:Gh):Md->Nat->Prop
 | .own=>fun _=>False
 | .imm=>g.I
 | .bor=>R
 | .snap _=>g.N
def SliceAt(gv:Value)(sz lo len:Nat)(v:Value):Prop :=
 ∃ a cap,v=.slice a len cap/\len<=cap/\(len≠0->∃ b n c,gv=.slice (some ⟨b,0,none⟩) n c/\a=some ⟨b,lo*sz,none⟩)
def CutAt(gv:Value)(n:Nat)(v:Value):Prop :=
 (∃ b len cap,gv=.slice (some ⟨b,0,none⟩) len cap/\v=.slice (some ⟨b,0,none⟩) n n)\/(gv=.slice none 0 0/\n=0/\v=.slice none 0 0)
def PtrAt(gv:Value)(i off:Nat)(v:Value):AO->Prop
 | .box _=>∃ b,gv=.pointer (some ⟨b,0,none⟩)/\v=.pointer (some ⟨b,off,none⟩)
 | .arr sz _=>∃ b n c,gv=.slice (some ⟨b,0,none⟩) n c/\v=.pointer (some ⟨b,i*sz+off,none⟩)
 | .map _ _=>True
def keyV(kb:Bool)(k:ByteArray):Value:=if kb then .bool (sEq k (bkey true)) else .string k
def keyIs(kb:Bool)(k:ByteArray):Prop:=kb=true->k=bkey true\/k=bkey false
def AO.alike:AO->AO->Prop
 | .box _,.box _=>True
 | .arr sz _,.arr sz' _=>sz=sz'
 | .map kb _,.map kb' _=>kb=kb'
 | _,_=>False
theorem AO.alike_refl(o:AO):o.alike o:=by cases o<;>simp[AO.alike]
theorem AO.alike.trans{o p q:AO}(h:o.alike p)(k:p.alike q):o.alike q:=by cases o<;>cases p<;>cases q<;>simp_all[AO.alike]
inductive SRel (num:Nat->Option FuncId) (w:World) (R:Nat->Prop) (g:Gh) (h:Nat->Option AO) (ep:Nat):Value->AV->Prop
 | any (v:Value):SRel num w R g h ep v .any
 | bool (b:Bool):SRel num w R g h ep (.bool b) (.bool b)
 | int (k:IntKind) (n:Int):SRel num w R g h ep (.int k n) (.int k n)
 | str (s:ByteArray):SRel num w R g h ep (.string s) (.str s)
 | nil (sz:Nat):SRel num w R g h ep (.slice none 0 0) (.sl .own sz [])
 | sl (v:Value) (m:Md) (sz:Nat) (xs:List (List AV)) (h1:v.oneCell'=true) (hm:m.ok ep=true->Bor w (rdSet R g m) v (.sl m sz xs)) (hlim:∀ e,m=.snap e->e<=ep) (hown:m≠.own):SRel num w R g h ep v (.sl m sz xs)
 | ref (id:Nat) (v:Value) (h1:v.oneCell'=true) (hu:g.used id) (hv:∀ o,h id=some o->v=g.v id):SRel num w R g h ep v (.ref id)
 | view (id lo len:Nat) (v:Value) (h1:v.oneCell'=true) (hu:g.used id) (hv:∀ sz xs,h id=some (.arr sz xs)->SliceAt (g.v id) sz lo len v):SRel num w R g h ep v (.view id lo len)
 | ptr (id i off:Nat) (v:Value) (h1:v.oneCell'=true) (hu:g.used id) (hv:∀ o,h id=some o->PtrAt (g.v id) i off v o):SRel num w R g h ep v (.ptr id i off)
 | bptr (m:Md) (row:List AV) (off:Nat) (v:Value) (h1:v.oneCell'=true)
   (hlim:∀ e,m=.snap e->e<=ep)
   (hm:m.ok ep=true->∃ (b o:Nat) (us:Nat->Value),v=.pointer (some ⟨b,o,none⟩)/\rdSet R g m b/\∀ (j:Nat) (c:AV),row[off+j]?=some c->w.cell? ⟨b,o+j,none⟩=some (us j)/\Bor w (rdSet R g m) (us j) c) :
   SRel num w R g h ep v (.bptr m row off)
 | mapr (id:Nat) (v:Value) (h1:v.oneCell'=true) (hu:g.used id) (hv:∀ o,h id=some o->v=g.v id):SRel num w R g h ep v (.mapr id)
 | fn (k:Nat) (f:FuncId) (hk:num k=some f):SRel num w R g h ep (.func (.func f) #[] #[]) (.fn k)
 | inn (e id i off:Nat) (v:Value) (h1:v.oneCell'=true) (hu:g.used id) (hle:e<=ep)
   (hv:e=ep->∀ sz xs,h id=some (.arr sz xs)->∃ b n c,g.v id=.slice (some ⟨b,0,none⟩) n c/\g.N b/\w.cell? ⟨b,i*sz+off,none⟩=some v):SRel num w R g h ep v (.inn e id i off)
 | inp (e id i off j sz:Nat) (v:Value) (h1:v.oneCell'=true) (hu:g.used id) (hle:e<=ep)
   (hv:e=ep->∀ sz1 xs,h id=some (.arr sz1 xs)->∃ b n c b2 n2 c2,g.v id=.slice (some ⟨b,0,none⟩) n c/\g.N b/\w.cell? ⟨b,i*sz1+off,none⟩=some (.slice (some ⟨b2,0,none⟩) n2 c2)/\v=.pointer (some ⟨b2,j*sz,none⟩)):SRel num w R g h ep v (.inp e id i off j sz)
 | ifs (kl id:Nat) (v:Value) (h1:v.oneCell'=true) (hu:g.used id) (hv:∀ o,h id=some o->∃ t,num (1000+kl)=some t/\v=.iface t (g.v id)):SRel num w R g h ep v (.ifs kl id)
 | clo (kl id:Nat) (v:Value) (h1:v.oneCell'=true) (hu:g.used id) (hv:∀ o,h id=some o->∃ f b,num kl=some f/\g.v id=.pointer (some ⟨b,0,none⟩)/\v=.func (.func f) #[] #[.pointer (some ⟨b,0,none⟩)]):SRel num w R g h ep v (.clo kl id)
 | cut (id n:Nat) (v:Value) (h1:v.oneCell'=true) (hu:g.used id) (hv:∀ o,h id=some o->CutAt (g.v id) n v):SRel num w R g h ep v (.cut id n)
 | agg (vs:Array Value) (cs:List AV) (hl:vs.size=cs.length) (h1:∀ (i:Nat) (v:Value),vs[i]?=some v->v.oneCell'=true) (hc:∀ (i:Nat) (v:Value) (c:AV),vs[i]?=some v->cs[i]?=some c->SRel num w R g h ep v c) :
   SRel num w R g h ep (.agg vs) (.agg cs)
 | tup (vs:Array Value) (cs:List AV) (hl:vs.size=cs.length) (hc:∀ (i:Nat) (v:Value) (c:AV),vs[i]?=some v->cs[i]?=some c->SRel num w R g h ep v c):SRel num w R g h ep (.tuple vs) (.tup cs)
structure Keeps(w:World)(R:Nat->Prop)(g:Gh)(h:Nat->Option AO)(ep:Nat)(w':World)(g':Gh)(h':Nat->Option AO)(ep':Nat):Prop where
 R:Same w w' R
 I:Same w w' g.I
 Iup:∀ b,g.I b->g'.I b
 N:ep'=ep->Same w w' g.N
 Nup:∀ b,g.N b->g'.N b
 epup:ep<=ep'
 used:∀ id,g.used id->g'.used id
 objs:∀ id o',g.used id->h' id=some o'->∃ o,h id=some o/\o.alike o'/\g'.v id=g.v id
theorem Md.ok_later{m:Md}{ep ep':Nat}(hlim:∀ e,m=.snap e->e<=ep)(hep:ep<=ep')(h:m.ok ep'=true):m.ok ep=true/\(∀ e,m=.snap e->ep'=ep):=by
 cases m with
 | own=>simp[Md.ok]at h
 | imm=>exact⟨rfl,fun e he=>by cases he⟩
 | bor=>exact⟨rfl,fun e he=>by cases he⟩
 | snap e =>
  simp only[Md.ok,Xan]at h
  have:=hlim e rfl
  have he:ep'=ep:=by omega
  exact⟨by simp[Md.ok];omega,fun _ _=>he⟩
section
variable {num:Nat->Option FuncId} {w:World} {R:Nat->Prop} {g:Gh} {h:Nat->Option AO} {ep:Nat} {w':World} {g':Gh} {h':Nat->Option AO} {ep':Nat}
theorem Keeps.same(k:Keeps w R g h ep w' g' h' ep'){m:Md}(hm:m.ok ep'=true)(he:∀ e,m=.snap e->ep'=ep):Same w w' (rdSet R g m)/\∀ b,rdSet R g m b->rdSet R g' m b:=by
 cases m with
 | own=>simp[Md.ok]at hm
 | imm=>exact⟨k.I,k.Iup⟩
 | bor=>exact⟨k.R,fun _ h=>h⟩
 | snap e=>exact⟨k.N (he e rfl),k.Nup⟩
theorem SRel.mono{v:Value}{c:AV}(hr:SRel num w R g h ep v c)(k:Keeps w R g h ep w' g' h' ep'):SRel num w' R g' h' ep' v c:=by
 induction hr with
 | any v=>exact .any v
 | bool b=>exact .bool b
 | int k n=>exact .int k n
 | str s=>exact .str s
 | nil sz=>exact .nil sz
 | sl v m sz xs h1 hm hlim hown =>
  refine .sl v m sz xs h1 (fun hok=>?_) (fun e he=>Xac (hlim e he) k.epup) hown
  obtain⟨ho,he⟩:=Md.ok_later hlim k.epup hok
  obtain⟨hs,hup⟩:=k.same hok he
  exact (hm ho).mono hs hup
 | ref id v h1 hu hv =>
  refine .ref id v h1 (k.used id hu) (fun o' ho'=>?_)
  obtain⟨o,ho,_,hg⟩:=k.objs id o' hu ho'
  rw[hg];exact hv o ho
 | view id lo len v h1 hu hv =>
  refine .view id lo len v h1 (k.used id hu) (fun sz xs ho'=>?_)
  obtain⟨o,ho,ha,hg⟩:=k.objs id _ hu ho'
  rw[hg]
  cases o with
  | arr sz' xs'=>simp only[AO.alike]at ha;subst ha;exact hv _ _ ho
  | box _=>exact ha.elim
  | map _ _=>exact ha.elim
 | ptr id i off v h1 hu hv =>
  refine .ptr id i off v h1 (k.used id hu) (fun o' ho'=>?_)
  obtain⟨o,ho,ha,hg⟩:=k.objs id _ hu ho'
  have hp:=hv o ho
  rw[hg]
  cases o<;>cases o'<;>simp only[AO.alike]at ha<;>first|exact hp|(subst ha;exact hp)
 | bptr m row off v h1 hlim hm =>
  refine .bptr m row off v h1 (fun e he=>Xac (hlim e he) k.epup) (fun hok=>?_)
  obtain⟨ho,he⟩:=Md.ok_later hlim k.epup hok
  obtain⟨hs,hup⟩:=k.same hok he
  obtain⟨b,o,us,hv,hb,hc⟩:=hm ho
  refine⟨b,o,us,hv,hup b hb,fun j c hj=>?_⟩
  obtain⟨h1,h2⟩:=hc j c hj
  exact⟨by rw[hs.cell (by exact hb)];exact h1,h2.mono hs hup⟩
 | mapr id v h1 hu hv =>
  refine .mapr id v h1 (k.used id hu) (fun o' ho'=>?_)
  obtain⟨o,ho,_,hg⟩:=k.objs id o' hu ho'
  rw[hg];exact hv o ho
 | fn k f hk=>exact .fn k f hk
 | inn e id i off v h1 hu hle hv =>
  refine .inn e id i off v h1 (k.used id hu) (Xac hle k.epup) (fun he sz xs ho'=>?_)
  have h3:=k.epup
  have h4:ep'=ep:=by omega
  obtain⟨o,ho,ha,hg⟩:=k.objs id _ hu ho'
  cases o with
  | arr sz' xs' =>
   simp only[AO.alike]at ha;subst ha
   obtain⟨b,n,c,h5,h6,h7⟩:=hv (by omega) _ _ ho
   exact⟨b,n,c,hg.trans h5,k.Nup b h6,((k.N h4).cell (by exact h6)).trans h7⟩
  | box _=>exact ha.elim
  | map _ _=>exact ha.elim
 | inp e id i off j sz2 v h1 hu hle hv =>
  refine .inp e id i off j sz2 v h1 (k.used id hu) (Xac hle k.epup) (fun he sz xs ho'=>?_)
  have h3:=k.epup
  have h4:ep'=ep:=by omega
  obtain⟨o,ho,ha,hg⟩:=k.objs id _ hu ho'
  cases o with
  | arr sz' xs' =>
   simp only[AO.alike]at ha;subst ha
   obtain⟨b,n,c,b2,n2,c2,h5,h6,h7,h8⟩:=hv (by omega) _ _ ho
   exact⟨b,n,c,b2,n2,c2,hg.trans h5,k.Nup b h6,((k.N h4).cell (by exact h6)).trans h7,h8⟩
  | box _=>exact ha.elim
  | map _ _=>exact ha.elim
 | ifs kl id v h1 hu hv =>
  refine .ifs kl id v h1 (k.used id hu) (fun o' ho'=>?_)
  obtain⟨o,ho,_,hg⟩:=k.objs id o' hu ho'
  rw[hg];exact hv o ho
 | clo kl id v h1 hu hv =>
  refine .clo kl id v h1 (k.used id hu) (fun o' ho'=>?_)
  obtain⟨o,ho,_,hg⟩:=k.objs id o' hu ho'
  rw[hg];exact hv o ho
 | cut id n v h1 hu hv =>
  refine .cut id n v h1 (k.used id hu) (fun o' ho'=>?_)
  obtain⟨o,ho,_,hg⟩:=k.objs id o' hu ho'
  rw[hg];exact hv o ho
 | agg vs cs hl h1 _ ih=>exact .agg vs cs hl h1 ih
 | tup vs cs hl _ ih=>exact .tup vs cs hl ih
theorem SRel.one{v:Value}{c:AV}(hr:SRel num w R g h ep v c)(hp:c.parts=some [c]):v.oneCell'=true:=by
 cases hr<;>first|rfl|assumption|(simp[AV.parts]at hp;done)|(simp only[AV.parts,Xb]at hp;have:=Xct SizeOf.sizeOf hp;simp at this;omega)
/-! ### The objects -/
def ORel(num:Nat->Option FuncId)(w:World)(R:Nat->Prop)(g:Gh)(h:Nat->Option AO)(ep:Nat)(v:Value)(S:Nat->Prop):AO->Prop
 | .box cells=>∃ b cur e,v=.pointer (some ⟨b,0,none⟩)/\w.heap[b]?=some (.cells cur e (0,0))/\cur.size=cells.length/\(∀ x,S x↔x=b)/\¬ g.N b /\
   ∀ (i:Nat) (u:Value) (c:AV),cur[i]?=some u->cells[i]?=some c->u.oneCell'=true/\SRel num w R g h ep u c
 | .arr sz xs=>Cl w g.I v (.sl .own sz xs) S/\∀ x,S x->g.N x
 | .map kb kvs=>∃ (b:Nat) (es:Array MapEntry) (clock:Nat) (l:List (ByteArray×AV)),v=.map (some b)/\w.heap[b]?=some (.map es clock)/\(∀ x,S x↔x=b)/\¬ g.N b/\(∀ k,listGet k l=kvs k)/\es.size=l.length /\
   ∀ (i:Nat) (m:MapEntry) (k:ByteArray) (c:AV),es[i]?=some m->l[i]?=some (k,c)->m.key=keyV kb k/\keyIs kb k/\c.plain=true/\SRel num w R g h ep m.val c
theorem ORel.mono{v:Value}{S:Nat->Prop}{o:AO}(hr:ORel num w R g h ep v S o)(k:Keeps w R g h ep w' g' h' ep')(hs:Same w w' S)(hN:∀ b,S b->g'.N b->g.N b):ORel num w' R g' h' ep' v S o:=by
 cases o with
 | box cells =>
  obtain⟨b,cur,e,hv,hh,hsz,hS,hn,hc⟩:=hr
  have hb:=(hS b).2 rfl
  exact⟨b,cur,e,hv,(hs b hb).trans hh,hsz,hS,fun h=>hn (hN b hb h),fun i u c hu hi=>⟨(hc i u c hu hi).1,(hc i u c hu hi).2.mono k⟩⟩
 | arr sz xs=>exact⟨hr.1.mono hs k.I k.Iup,fun x hx=>k.Nup x (hr.2 x hx)⟩
 | map kb kvs =>
  obtain⟨b,es,cl,l,hv,hh,hS,hn,hkl,hsz,hc⟩:=hr
  have hb:=(hS b).2 rfl
  exact⟨b,es,cl,l,hv,(hs b hb).trans hh,hS,fun h=>hn (hN b hb h),hkl,hsz,fun i m k' c hm hi=>⟨(hc i m k' c hm hi).1,(hc i m k' c hm hi).2.1,(hc i m k' c hm hi).2.2.1,(hc i m k' c hm hi).2.2.2.mono k⟩⟩
theorem ORel.lt{v:Value}{S:Nat->Prop}{o:AO}(hr:ORel num w R g h ep v S o):∀ b,S b->b<w.heap.size:=by
 cases o with
 | box cells =>
  obtain⟨b,cur,e,hv,hh,hsz,hS,hn,hc⟩:=hr
  intro x hx
  rw[(hS x).1 hx]
  exact (Xab.1 hh).1
 | arr sz xs=>exact hr.1.lt
 | map kb kvs =>
  obtain⟨b,es,cl,l,hv,hh,hS,hn,hkl,hsz,hc⟩:=hr
  intro x hx
  rw[(hS x).1 hx]
  exact (Xab.1 hh).1
theorem ORel.one{v:Value}{S:Nat->Prop}{o:AO}(hr:ORel num w R g h ep v S o):v.oneCell'=true:=by
 cases o with
 | box cells=>obtain⟨b,cur,e,rfl,_⟩:=hr;rfl
 | arr sz xs=>exact hr.1.one
 | map kb kvs=>obtain⟨b,es,cl,l,rfl,_⟩:=hr;rfl
end
/-! ### A call's frame, and all of its memory -/
structure FrameW(w w':World)(M:Nat->Prop):Prop where
 os:w'.os=w.os
 tape:w'.tape=w.tape
 output:w'.output=w.output
 size:w.heap.size<=w'.heap.size
 block:∀ b,b<w.heap.size->¬ M b->w'.heap[b]?=w.heap[b]?
theorem FrameW.refl(w:World)(M:Nat->Prop):FrameW w w M:=⟨rfl,rfl,rfl,Xo _,fun _ _ _=>rfl⟩
structure Cx where
 P:Program
 num:Nat->Option FuncId
 R:Nat->Prop
 M:Nat->Prop
 I0:Nat->Prop
 N0:Nat->Prop
 w0:World
 base:Nat
 h0:Nat->Option AO
 v0:Nat->Value
 fz:List (Nat×Obj)
def Callable(P:Program)(f:FuncId)(vs:Array Value)(w:World)(R:Value->World->Prop):Prop :=
 ∀ (o:Oper) (a:Act) (next:Act->World->Prop) (Q:Exit->Act->World->Prop),(∀ v w',R v w'->next (a.put o.dst v) w')->o.upon P a next Q ((callFunc f vs).run P w)
def SortOk(P:Program)(fs f:FuncId)(t:TypeId)(o c sz:Nat):Prop :=
 ∀ (w:World) (blk cap Bs n:Nat) (cur:Array Value) (e:TypeId) (us:Nat->Nat->Value) (ks:Nat->ByteArray),
  w.heap[blk]?=some (.cells cur e (0,0))->1<=n->n<4611686018427387904->n<=cap->cap<=maxLen->cap*sz<=cur.size->(∀ i j,i<n->j<sz->cur[i*sz+j]?=some (us i j)/\(us i j).oneCell'=true) ->
  c<sz->(∀ i,i<n->us i c=.string (ks i))->Bs≠blk->Bs<w.heap.size->w.cell? ⟨Bs,o,none⟩=some (.slice (some ⟨blk,0,none⟩) n cap) ->
  Callable P fs #[.iface t (.slice (some ⟨blk,0,none⟩) n cap),.func (.func f) #[] #[.pointer (some ⟨Bs,0,none⟩)]] w fun v w' =>
   v=.tuple #[]/\∃ (p:List Nat) (cur':Array Value),p.Perm (List.range n)/\p.Pairwise (fun a b=>sLt (ks b) (ks a)=false)/\w'.os=w.os/\w'.tape=w.tape/\w'.output=w.output/\w.heap.size<=w'.heap.size /\
    (∀ b,b<w.heap.size->b≠blk->w'.heap[b]?=w.heap[b]?)/\w'.heap[blk]?=some (.cells cur' e (0,0))/\cur'.size=cur.size/\∀ i j a,p[i]?=some a->j<sz->cur'[i*sz+j]?=some (us a j)
def kSort:Nat:=310
def SrtAll(P:Program)(num:Nat->Option FuncId):Prop :=
 ∀ kl o c sz,sortTab.contains (kl,o,c,sz)=true->∀ f t fs,num kl=some f->num (1000+kl)=some t->num kSort=some fs->SortOk P fs f t o c sz
structure Mem(cx:Cx)(h:Nat->Option AO)(ep:Nat)(g:Gh)(w:World):Prop where
 objs:∀ id o,h id=some o->ORel cx.num w cx.R g h ep (g.v id) (g.fp id) o
 used:∀ id o,h id=some o->g.used id
 disj:∀ id id' o o' b,h id=some o->h id'=some o'->g.fp id b->g.fp id' b->id=id'
 mine:∀ id o b,h id=some o->g.fp id b->(cx.M b\/cx.w0.heap.size<=b)/\¬ g.I b
 I_lt:∀ b,g.I b->b<w.heap.size
 I_up:∀ b,cx.I0 b->g.I b
 I_new:∀ b,g.I b->cx.I0 b\/(cx.M b\/cx.w0.heap.size<=b)
 I_N:∀ b,g.I b->g.N b
 N_up:∀ b,cx.N0 b->g.N b
 N_new:∀ b,g.N b->cx.N0 b\/cx.w0.heap.size<=b
 usedB:∀ id,id<cx.base->g.used id
 given:∀ id o',id<cx.base->h id=some o'->∃ o,cx.h0 id=some o/\o.alike o'/\g.v id=cx.v0 id
 N_lt:∀ b,g.N b->b<w.heap.size
 R_old:∀ b,cx.R b->b<cx.w0.heap.size/\¬ cx.M b
 I_old:∀ b,cx.I0 b->b<cx.w0.heap.size/\¬ cx.M b
 frame:FrameW cx.w0 w cx.M
 fz:∀ p∈cx.fz,cx.R p.1/\cx.w0.heap[p.1]?=some p.2
 srt:SrtAll cx.P cx.num
structure Corr(cx:Cx)(nt:Nat)(s:St)(g:Gh)(a:Act)(w:World):Prop where
 size:a.tmps.size=nt
 defers:a.defers=[]
 slots:∀ t,SRel cx.num w cx.R g s.heap s.ep (a.tmps.getD t undef) (s.slots t)
 mem:Mem cx s.heap s.ep g w
section
variable {cx:Cx} {h h':Nat->Option AO} {ep ep':Nat} {g g':Gh} {w w':World}
def Of(T:Nat->Prop)(h:Nat->Option AO)(g:Gh)(b:Nat):Prop:=∃ id o,T id/\h id=some o/\g.fp id b
theorem Mem.fz_now{cx:Cx}{h:Nat->Option AO}{ep:Nat}{g:Gh}{w:World}(m:Mem cx h ep g w){p:Nat×Obj}(hp:p∈cx.fz):p.1<w.heap.size/\w.heap[p.1]?=some p.2/\∀ id o,h id=some o->¬ g.fp id p.1:=by
 obtain⟨h1,h2⟩:=m.fz p hp
 obtain⟨h3,h4⟩:=m.R_old p.1 h1
 refine⟨Xaw h3 m.frame.size,by rw[m.frame.block p.1 h3 h4];exact h2,fun id o ho hf=>?_⟩
 rcases (m.mine id o p.1 ho hf).1 with h5|h5
 ·exact h4 h5
 ·omega
structure Touch(cx:Cx)(T:Nat->Prop)(h:Nat->Option AO)(ep:Nat)(g:Gh)(w:World)(h':Nat->Option AO)(ep':Nat)(g':Gh)(w':World):Prop where
 os:w'.os=w.os
 tape:w'.tape=w.tape
 output:w'.output=w.output
 size:w.heap.size<=w'.heap.size
 epup:ep<=ep'
 rest:∀ id,¬ T id->h' id=h id/\(h id≠none->g'.v id=g.v id/\g'.fp id=g.fp id)
 block:∀ b,b<w.heap.size->¬ Of T h g b->w'.heap[b]?=w.heap[b]?
 used:∀ id,g.used id->g'.used id
 used':∀ id o,T id->h' id=some o->g'.used id
 alive:∀ id o',T id->g.used id->h' id=some o'->∃ o,h id=some o/\o.alike o'/\g'.v id=g.v id
 fps:∀ id o b,T id->h' id=some o->g'.fp id b->(w.heap.size<=b\/Of T h g b)/\¬ g'.I b
 dis:∀ id id' o o' b,T id->T id'->h' id=some o->h' id'=some o'->g'.fp id b->g'.fp id' b->id=id'
 Iup:∀ b,g.I b->g'.I b
 Inew:∀ b,g'.I b->g.I b\/Of T h g b\/(w.heap.size<=b/\b<w'.heap.size)
 IN:∀ b,g'.I b->g'.N b
 Nup:∀ b,g.N b->g'.N b
 Nnew:∀ b,g'.N b->g.N b\/(w.heap.size<=b/\b<w'.heap.size)
 Nsame:ep'=ep->Same w w' g.N
theorem Touch.keeps{T:Nat->Prop}(t:Touch cx T h ep g w h' ep' g' w')(m:Mem cx h ep g w):Keeps w cx.R g h ep w' g' h' ep':=by
 refine⟨?_,?_,t.Iup,t.Nsame,t.Nup,t.epup,t.used,?_⟩
 ·intro b hb
  obtain⟨h1,h2⟩:=m.R_old b hb
  refine t.block b (Xaw h1 m.frame.size) ?_
  rintro⟨id,o,_,ho,hf⟩
  rcases (m.mine id o b ho hf).1 with h3|h3
  ·exact h2 h3
  ·omega
 ·intro b hb
  refine t.block b (m.I_lt b hb) ?_
  rintro⟨id,o,_,ho,hf⟩
  exact (m.mine id o b ho hf).2 hb
 ·intro id o' hu ho'
  by_cases hT:T id
  ·exact t.alive id o' hT hu ho'
  ·obtain⟨h1,h2⟩:=t.rest id hT
   rw[h1]at ho'
   exact⟨o',ho',AO.alike_refl _,(h2 (by rw[ho'];simp)).1⟩
theorem Touch.mem{T:Nat->Prop}(t:Touch cx T h ep g w h' ep' g' w')(m:Mem cx h ep g w)
  (hobj:∀ id o,T id->h' id=some o->ORel cx.num w' cx.R g' h' ep' (g'.v id) (g'.fp id) o):Mem cx h' ep' g' w':=by
 have k:=t.keeps m
 have hrest:∀ id o,¬ T id->h' id=some o->h id=some o/\g'.v id=g.v id/\g'.fp id=g.fp id:=fun id o hT ho=>by
  obtain⟨h1,h2⟩:=t.rest id hT
  rw[h1]at ho
  exact⟨ho,h2 (by rw[ho];simp)⟩
 have hapart:∀ id o b,¬ T id->h id=some o->g.fp id b->¬ Of T h g b:=by
  rintro id o b hT ho hf ⟨id0,o0,hT0,ho0,hf0⟩
  exact hT (m.disj id id0 o o0 b ho ho0 hf hf0 ▸ hT0)
 have hsame:∀ id o,¬ T id->h id=some o->Same w w' (g.fp id):=fun id o hT ho b hb =>
  t.block b ((m.objs id o ho).lt b hb) (hapart id o b hT ho hb)
 refine⟨?_,?_,?_,?_,?_,?_,?_,t.IN,fun b hb=>t.Nup b (m.N_up b hb),?_,fun id hid=>t.used id (m.usedB id hid),?_,?_,m.R_old,m.I_old,?_,m.fz,m.srt⟩
 ·intro id o ho
  by_cases hT:T id
  ·exact hobj id o hT ho
  ·obtain⟨h1,h2,h3⟩:=hrest id o hT ho
   rw[h2,h3]
   refine (m.objs id o h1).mono k (hsame id o hT h1) (fun b hb hn=>?_)
   rcases t.Nnew b hn with h4|h4
   ·exact h4
   ·have:=(m.objs id o h1).lt b hb
    omega
 ·intro id o ho
  by_cases hT:T id
  ·exact t.used' id o hT ho
  ·exact t.used id (m.used id o (hrest id o hT ho).1)
 ·intro id id' o o' b ho ho' hf hf'
  by_cases hT:T id<;>by_cases hT':T id'
  ·exact t.dis id id' o o' b hT hT' ho ho' hf hf'
  ·obtain⟨h1,h2,h3⟩:=hrest id' o' hT' ho'
   rw[h3]at hf'
   rcases (t.fps id o b hT ho hf).1 with h4|h4
   ·have:=(m.objs id' o' h1).lt b hf'
    omega
   ·exact absurd h4 (hapart id' o' b hT' h1 hf')
  ·obtain⟨h1,h2,h3⟩:=hrest id o hT ho
   rw[h3]at hf
   rcases (t.fps id' o' b hT' ho' hf').1 with h4|h4
   ·have:=(m.objs id o h1).lt b hf
    omega
   ·exact absurd h4 (hapart id o b hT h1 hf)
  ·obtain⟨h1,h2,h3⟩:=hrest id o hT ho
   obtain⟨h1',h2',h3'⟩:=hrest id' o' hT' ho'
   rw[h3]at hf
   rw[h3']at hf'
   exact m.disj id id' o o' b h1 h1' hf hf'
 ·intro id o b ho hf
  by_cases hT:T id
  ·obtain⟨h1,h2⟩:=t.fps id o b hT ho hf
   refine⟨?_,h2⟩
   rcases h1 with h1|⟨id0,o0,_,ho0,hf0⟩
   ·exact .inr (Xac m.frame.size h1)
   ·exact (m.mine id0 o0 b ho0 hf0).1
  ·obtain⟨h1,h2,h3⟩:=hrest id o hT ho
   rw[h3]at hf
   refine⟨(m.mine id o b h1 hf).1,fun hi=>?_⟩
   rcases t.Inew b hi with h4|h4|h4
   ·exact (m.mine id o b h1 hf).2 h4
   ·exact hapart id o b hT h1 hf h4
   ·have:=(m.objs id o h1).lt b hf
    omega
 ·intro b hb
  rcases t.Inew b hb with h1|⟨id,o,_,ho,hf⟩|h1
  ·exact Xaw (m.I_lt b h1) t.size
  ·exact Xaw ((m.objs id o ho).lt b hf) t.size
  ·exact h1.2
 ·exact fun b hb=>t.Iup b (m.I_up b hb)
 ·intro b hb
  rcases t.Inew b hb with h1|⟨id,o,_,ho,hf⟩|h1
  ·exact m.I_new b h1
  ·exact .inr (m.mine id o b ho hf).1
  ·exact .inr (.inr (Xac m.frame.size h1.1))
 ·intro b hb
  rcases t.Nnew b hb with h1|h1
  ·exact m.N_new b h1
  ·exact .inr (Xac m.frame.size h1.1)
 ·intro id o' hid ho'
  obtain⟨o,ho,ha,hv⟩:=k.objs id o' (m.usedB id hid) ho'
  obtain⟨o0,ho0,ha0,hv0⟩:=m.given id o hid ho
  exact⟨o0,ho0,ha0.trans ha,hv.trans hv0⟩
 ·intro b hb
  rcases t.Nnew b hb with h1|h1
  ·exact Xaw (m.N_lt b h1) t.size
  ·exact h1.2
 ·refine⟨t.os.trans m.frame.os,t.tape.trans m.frame.tape,t.output.trans m.frame.output,Xac m.frame.size t.size,fun b hb hM=>?_⟩
  rw[t.block b (Xaw hb m.frame.size) ?_]
  ·exact m.frame.block b hb hM
  ·rintro⟨id,o,_,ho,hf⟩
   rcases (m.mine id o b ho hf).1 with h3|h3
   ·exact hM h3
   ·omega
theorem Keeps.refl(w:World)(R:Nat->Prop)(g:Gh)(h:Nat->Option AO)(ep:Nat):Keeps w R g h ep w g h ep :=
 ⟨Same.refl _ _,Same.refl _ _,fun _ h=>h,fun _=>Same.refl _ _,fun _ h=>h,Xo _,fun _ h=>h,fun _ o' _ ho=>⟨o',ho,AO.alike_refl _,rfl⟩⟩
end
/-! ### Slots -/
theorem Zeh(a:Array Value)(d t:Nat)(v:Value)(hd:d<a.size):(a.setIfInBounds d v).getD t undef=if t=d then v else a.getD t undef:=by
 simp only[Xaz,Array.getElem?_setIfInBounds]
 by_cases h:t=d
 ·subst h
  simp[hd]
 ·rw[Xu (fun e=>h e.symm),Xu h]
theorem Corr.put{cx:Cx}{nt:Nat}{s:St}{g:Gh}{a:Act}{w:World}{h':Nat->Option AO}{ep':Nat}{g':Gh}{w':World}{nx bs:Nat}(c:Corr cx nt s g a w)(k:Keeps w cx.R g s.heap s.ep w' g' h' ep')(m:Mem cx h' ep' g' w')
  (dst:Option Nat) (hd:∀ d,dst=some d->d<nt) (v:Value) (x:AV) (hv:SRel cx.num w' cx.R g' h' ep' v x):Corr cx nt ⟨putTo s.slots dst x,h',ep',nx,bs⟩ g' (a.put dst v) w':=by
 cases dst with
 | none=>exact⟨c.size,c.defers,fun t=>(c.slots t).mono k,m⟩
 | some d =>
  have hd':d<a.tmps.size:=by rw[c.size];exact hd d rfl
  refine⟨by simp[Act.put,c.size],c.defers,fun t=>?_,m⟩
  simp only[Act.put,putTo,upd,Zeh _ _ _ _ hd']
  split
  ·exact hv
  ·exact (c.slots t).mono k
end Go.Proofs.YtgdfelbedghhnaaGreatDoor
namespace Go.Proofs.YtgdfelbedghhnaaGreatDoor
open Go Go.RowKit
set_option linter.unusedSimpArgs false
def Done(cx:Cx)(s:St)(g:Gh)(a:Act)(w:World)(o:Oper)(key:Nat)(out:Out):Prop :=
 ∃ n v w' g',(execOp a.eval o).run cx.P w=.ok n w'/\(n=.value v\/n=.skip/\v=undef) /\
  Keeps w cx.R g s.heap s.ep w' g' (wsOn s.heap out.ws) (if out.bump then s.ep+1 else s.ep)/\Mem cx (wsOn s.heap out.ws) (if out.bump then s.ep+1 else s.ep) g' w' /\
  SRel cx.num w' cx.R g' (wsOn s.heap out.ws) (if out.bump then s.ep+1 else s.ep) v out.v/\(∀ id,g'.used id->g.used id\/(key<=id/\id<key+64))
section
variable {cx:Cx} {nt:Nat} {s:St} {g:Gh} {a:Act} {w:World} {o:Oper} {key:Nat} {out:Out} {cl:Callee}
theorem Zai(m:Mem cx s.heap s.ep g w){v:Value}{x:AV}(hrun:(execOp a.eval o).run cx.P w=.ok (.value v) w)(hr:SRel cx.num w cx.R g s.heap s.ep v x)
  (ho:Out.val x=some out):Done cx s g a w o key out:=by
 obtain rfl:=Xf ho
 exact⟨_,v,w,g,hrun,.inl rfl,Keeps.refl _ _ _ _ _,m,hr,fun _ h=>.inl h⟩
theorem Zm1(m:Mem cx s.heap s.ep g w){x:Operand}{y:Opd}(ho:o.op=.move x\/o.op=.assign x)(hx:SRel cx.num w cx.R g s.heap s.ep (a.eval x) (y.ev s.slots))
  (h:sem cl (.mov y) key s.slots s.heap s.ep=some out):Done cx s g a w o key out:=by
 refine Zai m (v:=a.eval x) ?_ hx h
 rcases ho with ho|ho<;>simp[execOp,ho]
theorem Zo5(m:Mem cx s.heap s.ep g w){x1 x2 x3:Operand}{y1 y2 y3:Opd}(ho:o.op=.pick x1 x2 x3)(h1:SRel cx.num w cx.R g s.heap s.ep (a.eval x1) (y1.ev s.slots))
  (h2:SRel cx.num w cx.R g s.heap s.ep (a.eval x2) (y2.ev s.slots)) (h3:SRel cx.num w cx.R g s.heap s.ep (a.eval x3) (y3.ev s.slots))
  (h:sem cl (.pick y1 y2 y3) key s.slots s.heap s.ep=some out):Done cx s g a w o key out:=by
 simp only[sem]at h
 generalize e1:y1.ev s.slots=c1 at h h1
 cases c1<;>simp only[reduceCtorEq]at h
 rename_i t
 generalize e:a.eval x1=v1 at h1
 cases h1
 refine Zai m (v:=if t then a.eval x2 else a.eval x3) ?_ ?_ h
 ·simp[execOp,ho,e,asBool]
 ·cases t
  ·exact h3
  ·exact h2
theorem Zoj{P:Program}{w:World}{op:BinOp}{k:IntKind}{t:TypeId}{x y:Int}{r:AV}(h:binInt op k x y=some r) :
  ∃ v,(binOp op t (.int k x) (.int k y)).run P w=.ok v w/\((∃ n,v=.int k n/\r=.int k n)\/(∃ b,v=.bool b/\r=.bool b)):=by
 cases op<;>simp only[binInt,reduceCtorEq,Xb]at h
 case quo =>
  split at h
  ·cases h
  ·obtain rfl:=Xf h
   rename_i hy
   exact⟨_,by simp[binOp,Op.intDiv,hy],.inl ⟨_,rfl,rfl⟩⟩
 case rem =>
  split at h
  ·cases h
  ·obtain rfl:=Xf h
   rename_i hy
   exact⟨_,by simp[binOp,Op.intDiv,hy],.inl ⟨_,rfl,rfl⟩⟩
 all_goals subst h
 case add=>exact⟨_,by simp[binOp,Op.intArith],.inl ⟨_,rfl,rfl⟩⟩
 case sub=>exact⟨_,by simp[binOp,Op.intArith],.inl ⟨_,rfl,rfl⟩⟩
 case mul=>exact⟨_,by simp[binOp,Op.intArith],.inl ⟨_,rfl,rfl⟩⟩
 case xor=>exact⟨_,by simp[binOp,Op.intBits],.inl ⟨_,rfl,rfl⟩⟩
 all_goals exact⟨_,by simp[binOp,Op.intCmp],.inr ⟨_,rfl,rfl⟩⟩
theorem Zok{P:Program}{w:World}{op:BinOp}{t:TypeId}{x y:ByteArray}{r:AV}(h:binStr op x y=some r) :
  ∃ v,(binOp op t (.string x) (.string y)).run P w=.ok v w/\((∃ s,v=.string s/\r=.str s)\/(∃ b,v=.bool b/\r=.bool b)):=by
 cases op<;>simp only[binStr,reduceCtorEq,Xb]at h
 case add =>
  split at h
  ·obtain rfl:=Xf h
   rename_i hs
   refine⟨_,?_,.inl ⟨_,rfl,rfl⟩⟩
   have hn:¬ (((x.size+y.size:Nat):Int) > IntKind.i64.max):=by
    have:IntKind.i64.max=9223372036854775807:=by decide
    rw[this]
    omega
   simp only[binOp,Op.stringOp]
   rw[Xu hn]
   rfl
  ·cases h
 all_goals subst h
 all_goals exact⟨_,by simp[binOp,Op.stringOp,sEq,sLt],.inr ⟨_,rfl,rfl⟩⟩
theorem Zb3{P:Program}{w:World}(op:BinOp)(t:TypeId)(x y:Operand)(k k':IntKind)(n m:Int):(eqGuard op t x y (.int k n) (.int k' m)).run P w=.ok () w:=by
 cases op<;>rfl
theorem Zhu{P:Program}{w:World}(op:BinOp)(t:TypeId)(x y:Operand)(n m:ByteArray):(eqGuard op t x y (.string n) (.string m)).run P w=.ok () w:=by
 cases op<;>rfl
theorem Zgk{P:Program}{w:World}(op:BinOp)(t:TypeId)(x y:Operand)(n m:Bool):(eqGuard op t x y (.bool n) (.bool m)).run P w=.ok () w:=by
 cases op<;>rfl
theorem Zqz(m:Mem cx s.heap s.ep g w){x1 x2:Operand}{t t':TypeId}{op:BinOp}{y1 y2:Opd}(ho:o.op=.binOp op t x1 x2 t')(h1:SRel cx.num w cx.R g s.heap s.ep (a.eval x1) (y1.ev s.slots))
  (h2:SRel cx.num w cx.R g s.heap s.ep (a.eval x2) (y2.ev s.slots)) (h:sem cl (.bin op y1 y2) key s.slots s.heap s.ep=some out):Done cx s g a w o key out:=by
 simp only[sem]at h
 generalize y1.ev s.slots=c1 at h h1
 generalize y2.ev s.slots=c2 at h h2
 generalize e1:a.eval x1=v1 at h1
 generalize e2:a.eval x2=v2 at h2
 have key1:∀ (r:AV) (v:Value),binAV op c1 c2=some r->(execOp a.eval o).run cx.P w=.ok (.value v) w->SRel cx.num w cx.R g s.heap s.ep v r->Done cx s g a w o key out:=by
  intro r v hb hrun hr
  rw[hb]at h
  exact Zai m hrun hr h
 have h0:=h
 cases c1<;>cases c2<;>simp only[binAV,Out.opt,reduceCtorEq]at h
 ·rename_i k n k' n'
  cases h1
  cases h2
  by_cases hsl:op=.shl
  ·subst hsl
   by_cases hneg:n'<0
   ·simp[hneg,Out.opt]at h
   ·simp only[hneg,Xaj,Out.opt]at h
    refine Zai m ?_ (.int _ _) h
    simp[execOp,ho,e1,e2,Zb3,binOp,Op.shift,hneg]
  by_cases hsr:op=.shr
  ·subst hsr
   by_cases hneg:n'<0
   ·simp[hneg,Out.opt]at h
   ·simp only[hneg,Xaj,Out.opt]at h
    refine Zai m ?_ (.int _ _) h
    simp[execOp,ho,e1,e2,Zb3,binOp,Op.shift,hneg]
  have hb:binAV op (.int k n) (.int k' n')=if k=k' then binInt op k n n' else none:=by
   cases op<;>first|rfl|exact absurd rfl hsl|exact absurd rfl hsr
  by_cases hk:k=k'
  ·subst hk
   rw[Xr rfl]at hb
   cases hbi:binInt op k n n' with
   | none =>
    rw[hb,hbi]at h0
    cases h0
   | some r =>
    obtain⟨v,hrun,hr⟩:=Zoj (P:=cx.P) (w:=w) (t:=t) hbi
    refine key1 r v (by rw[hb,hbi]) ?_ ?_
    ·simp[execOp,ho,e1,e2,Zb3,hrun]
    ·rcases hr with ⟨_,rfl,rfl⟩|⟨_,rfl,rfl⟩
     ·exact .int _ _
     ·exact .bool _
  ·rw[Xu hk]at hb
   rw[hb]at h0
   cases h0
 ·cases h1
  cases h2
  rename_i x y
  cases hbi:binStr op x y with
  | none =>
   rw[hbi]at h
   cases h
  | some r =>
   obtain⟨v,hrun,hr⟩:=Zok (P:=cx.P) (w:=w) (t:=t) hbi
   refine key1 r v (by simp only[binAV,hbi]) ?_ ?_
   ·simp[execOp,ho,e1,e2,Zhu,hrun]
   ·rcases hr with ⟨_,rfl,rfl⟩|⟨_,rfl,rfl⟩
    ·exact .str _
    ·exact .bool _
theorem Zif{P:Program}{w:World}{t:TypeId}(ht:P.underlying t=some .bool)(x y:Bool):(Op.equal t (.bool x) (.bool y)).run P w=.ok (x == y) w:=by
 have h:∀ d:Nat,(Op.equalIn (d+1) t (.bool x) (.bool y)).run P w=.ok (x == y) w:=fun d=>by simp[Op.equalIn,run_underlying ht]
 exact h 9999
theorem Zqy(m:Mem cx s.heap s.ep g w){x1 x2:Operand}{t t':TypeId}{op:BinOp}{neg:Bool}{y1 y2:Opd}(ho:o.op=.binOp op t x1 x2 t')(hop:op=if neg then .neq else .eql)
  (ht:cx.P.underlying t=some .bool) (h1:SRel cx.num w cx.R g s.heap s.ep (a.eval x1) (y1.ev s.slots)) (h2:SRel cx.num w cx.R g s.heap s.ep (a.eval x2) (y2.ev s.slots))
  (h:sem cl (.beq neg y1 y2) key s.slots s.heap s.ep=some out):Done cx s g a w o key out:=by
 simp only[sem]at h
 generalize y1.ev s.slots=c1 at h h1
 generalize y2.ev s.slots=c2 at h h2
 generalize e1:a.eval x1=v1 at h1
 generalize e2:a.eval x2=v2 at h2
 cases c1<;>cases c2<;>simp only[reduceCtorEq]at h
 cases h1
 cases h2
 refine Zai m ?_ (.bool _) h
 subst hop
 cases neg<;>simp[execOp,ho,e1,e2,Zgk,binOp,Zif ht]
theorem Zr8(m:Mem cx s.heap s.ep g w){x:Operand}{t:TypeId}{op:UnOp}{y:Opd}(ho:o.op=.unOp op t x)(h1:SRel cx.num w cx.R g s.heap s.ep (a.eval x) (y.ev s.slots))
  (h:sem cl (.un op y) key s.slots s.heap s.ep=some out):Done cx s g a w o key out:=by
 simp only[sem]at h
 generalize y.ev s.slots=c1 at h h1
 generalize e1:a.eval x=v1 at h1
 cases op<;>cases c1<;>simp only[reduceCtorEq]at h
 ·cases h1
  exact Zai m (by simp[execOp,ho,e1,Op.unary,Op.intArith]) (.int _ _) h
 ·cases h1
  exact Zai m (by simp[execOp,ho,e1,Op.unary]) (.bool _) h
theorem Zo2(m:Mem cx s.heap s.ep g w){x:Operand}{t t':TypeId}{k:IntKind}{y:Opd}(ho:o.op=.convert t t' x)(ht:(cx.P.underlying t).isSome=true)(ht':cx.P.underlying t'=some (.int k))
  (h1:SRel cx.num w cx.R g s.heap s.ep (a.eval x) (y.ev s.slots)) (h:sem cl (.conv k y) key s.slots s.heap s.ep=some out):Done cx s g a w o key out:=by
 simp only[sem]at h
 generalize y.ev s.slots=c1 at h h1
 generalize e1:a.eval x=v1 at h1
 cases c1<;>simp only[reduceCtorEq]at h
 cases h1
 obtain⟨d,hd⟩:=Option.isSome_iff_exists.1 ht
 refine Zai m ?_ (.int _ _) h
 simp[execOp,ho,e1,convert,run_underlying hd,run_underlying ht',Conv.intToInt]
theorem Zr7(m:Mem cx s.heap s.ep g w){x1 x2:Operand}{t t':TypeId}{hi:Bool}{y1 y2:Opd}(ho:o.op=.call { callee:=.builtin (if hi then .max else .min),args:=#[x1,x2],argTypes:=#[t,t'] })(h1:SRel cx.num w cx.R g s.heap s.ep (a.eval x1) (y1.ev s.slots))
  (h2:SRel cx.num w cx.R g s.heap s.ep (a.eval x2) (y2.ev s.slots)) (h:sem cl (.mx hi y1 y2) key s.slots s.heap s.ep=some out):Done cx s g a w o key out:=by
 simp only[sem]at h
 generalize y1.ev s.slots=c1 at h h1
 generalize y2.ev s.slots=c2 at h h2
 generalize e1:a.eval x1=v1 at h1
 generalize e2:a.eval x2=v2 at h2
 cases c1<;>cases c2<;>simp only[reduceCtorEq]at h
 cases h1;cases h2
 cases hi
 ·simp only[Xq,Xaj]at h ho
  refine Zai m ?_ (.int _ _) h
  simp[execOp,ho,resolve,invoke,builtin,e1,e2,Builtin.min_,Builtin.min2]
 ·simp only[Xag]at h ho
  refine Zai m ?_ (.int _ _) h
  simp[execOp,ho,resolve,invoke,builtin,e1,e2,Builtin.max_,Builtin.max2]
theorem Znt(m:Mem cx s.heap s.ep g w){x:Operand}{y:Opd}(ho:o.op=.nilCheck x)(h1:SRel cx.num w cx.R g s.heap s.ep (a.eval x) (y.ev s.slots))
  (h:sem cl (.nilck y) key s.slots s.heap s.ep=some out):Done cx s g a w o key out:=by
 simp only[sem]at h
 generalize y.ev s.slots=c1 at h h1
 generalize e1:a.eval x=v1 at h1
 have fin:∀ (p:Addr) (r:AV),v1=.pointer (some p)->SRel cx.num w cx.R g s.heap s.ep v1 r->Out.val r=some out->Done cx s g a w o key out:=by
  intro p r hp hr hv
  subst hp
  exact Zai m (by simp[execOp,ho,e1]) hr hv
 cases c1<;>simp only[reduceCtorEq]at h
 ·rename_i id i off
  cases hh:s.heap id with
  | none=>rw[hh]at h;cases h
  | some ob =>
   rw[hh]at h
   have h1':=h1
   cases h1 with
   | ptr _ _ _ _ _ _ hv =>
    have hp:=hv ob hh
    cases ob with
    | box _=>obtain⟨b,_,he⟩:=hp;exact fin _ _ he h1' h
    | arr _ _=>obtain⟨b,_,_,_,he⟩:=hp;exact fin _ _ he h1' h
    | map _ _=>cases h
 ·rename_i md row off
  split at h
  ·rename_i hok
   have h1':=h1
   cases h1 with
   | bptr _ _ _ _ _ _ hm =>
    obtain⟨b,o',us,he,_⟩:=hm hok
    exact fin _ _ he h1' h
  ·cases h
theorem Zno(m:Mem cx s.heap s.ep g w){x:Operand}{t:TypeId}{fi:Nat}{fs:Array Field}{f:Field}{i0:TypeInfo}{y:Opd}(ho:o.op=.fieldAddr t x fi)(ht:cx.P.underlying t=some (.struct fs))
  (hf:fs[fi]?=some f) (hi:cx.P.info? f.type=some i0) (hsz:i0.size≠0) (h1:SRel cx.num w cx.R g s.heap s.ep (a.eval x) (y.ev s.slots))
  (h:sem cl (.faddr y f.offset) key s.slots s.heap s.ep=some out):Done cx s g a w o key out:=by
 simp only[sem]at h
 generalize y.ev s.slots=c1 at h h1
 generalize e1:a.eval x=v1 at h1
 have fin:∀ (b off:Nat) (r:AV),v1=.pointer (some ⟨b,off,none⟩)->SRel cx.num w cx.R g s.heap s.ep (.pointer (some ⟨b,off+f.offset,none⟩)) r->Out.val r=some out->Done cx s g a w o key out:=by
  intro b off r hp hr hv
  subst hp
  refine Zai m ?_ hr hv
  have ha:(⟨b,off,none⟩:Addr).add f.offset=⟨b,off+f.offset,none⟩:=by
   unfold Addr.add
   split
   ·rename_i h0;rw[h0];rfl
   ·rfl
  simp[execOp,ho,e1,Instr.fieldAt,run_underlying ht,hf,Instr.sureAddr,fieldPlace,sizeOf,typeInfo,hi,hsz,ha]
 cases c1<;>simp only[reduceCtorEq]at h
 ·rename_i id i off
  cases hh:s.heap id with
  | none=>rw[hh]at h;cases h
  | some ob =>
   rw[hh]at h
   cases h1 with
   | ptr _ _ _ _ _ hu hv =>
    have hp:=hv ob hh
    cases ob with
    | box cs =>
     obtain⟨b,hg,he⟩:=hp
     refine fin b off _ he (.ptr _ _ _ _ rfl hu fun o' ho'=>?_) h
     rw[hh]at ho'
     obtain rfl:=Xf ho'
     exact⟨b,hg,rfl⟩
    | arr sz xs =>
     obtain⟨b,n,cp,hg,he⟩:=hp
     refine fin b _ _ he (.ptr _ _ _ _ rfl hu fun o' ho'=>?_) h
     rw[hh]at ho'
     obtain rfl:=Xf ho'
     exact⟨b,n,cp,hg,by rw[Xb0]⟩
    | map _ _=>cases h
 ·rename_i md row off
  split at h
  ·rename_i hok
   cases h1 with
   | bptr _ _ _ _ _ hlim hm =>
    obtain⟨b,o',us,he,hb,hc⟩:=hm hok
    refine fin b o' _ he (.bptr _ _ _ _ rfl hlim fun _=>⟨b,o'+f.offset,fun j=>us (f.offset+j),rfl,hb,fun j c hj=>?_⟩) h
    have:=hc (f.offset+j) c (by rw[<- Xb0];exact hj)
    rw[Xb0]
    exact this
  ·cases h
theorem Zbq(b off n:Nat):(⟨b,off,none⟩:Addr).add n=⟨b,off+n,none⟩:=by
 unfold Addr.add
 split
 ·rename_i h0;rw[h0];rfl
 ·rfl
theorem Zav{P:Program}{w:World}{t:TypeId}{i0:TypeInfo}(hi:P.info? t=some i0):(sizeOf t).run P w=.ok i0.size w:=by
 simp[sizeOf,typeInfo,hi]
theorem Zig{P:Program}{w:World}{t e:TypeId}{i0:TypeInfo}(ht:P.underlying t=some (.slice e))(hi:P.info? e=some i0)(b off len cap:Nat)(k:IntKind)(n:Int)(h0:0<=n)(h1:n.toNat<len) :
  (Instr.indexAt t (.slice (some ⟨b,off,none⟩) len cap) (.int k n)).run P w=.ok (.pointer (some ⟨b,off+n.toNat*i0.size,none⟩)) w:=by
 have he:P.elem t=e:=by simp[Program.elem,ht]
 rw[run_indexAt_slice w t _ len cap k n (by rw[he];exact ht),Xr ⟨h0,by omega⟩,he,Zav hi]
 simp[Zbq]
theorem Cl.open_own{w:World}{I:Nat->Prop}{v:Value}{sz:Nat}{xs:List (List AV)}{S:Nat->Prop}(h:Cl w I v (.sl .own sz xs) S) :
  (v=.slice none 0 0/\xs=[])\/∃ b cap cur e,v=.slice (some ⟨b,0,none⟩) xs.length cap/\w.heap[b]?=some (.cells cur e (0,0))/\S b/\xs.length<=cap/\cap<=maxLen/\cap*sz<=cur.size /\
   (∀ row∈xs,row.length=sz)/\∀ i j c,cellAt xs i j=some c->∃ u T,cur[i*sz+j]?=some u/\Cl w I u c T/\∀ x,T x->S x:=by
 cases h with
 | nil=>exact .inl ⟨rfl,rfl⟩
 | own _ _ b cap cur e us fs _ hheap hcap hmax hcur hrow hcell hin hdis hnot hS =>
  exact .inr ⟨b,cap,cur,e,rfl,hheap,(hS b).2 (.inl rfl),hcap,hmax,hcur,hrow,fun i j c hc=>⟨_,_,hcell i j c hc,hin i j c hc,fun x hx=>(hS x).2 (.inr ⟨i,j,c,hc,hx⟩)⟩⟩
theorem Znp(m:Mem cx s.heap s.ep g w){x j:Operand}{t e:TypeId}{i0:TypeInfo}{y z:Opd}(ho:o.op=.indexAddr t x j)(ht:cx.P.underlying t=some (.slice e))(hi:cx.P.info? e=some i0)
  (h1:SRel cx.num w cx.R g s.heap s.ep (a.eval x) (y.ev s.slots)) (h2:SRel cx.num w cx.R g s.heap s.ep (a.eval j) (z.ev s.slots))
  (h:sem cl (.iaddr i0.size y z) key s.slots s.heap s.ep=some out):Done cx s g a w o key out:=by
 simp only[sem]at h
 generalize y.ev s.slots=c1 at h h1
 generalize z.ev s.slots=c2 at h h2
 generalize e1:a.eval x=v1 at h1
 generalize e2:a.eval j=v2 at h2
 cases c2<;>simp only[reduceCtorEq]at h
 rename_i k n
 cases h2
 split at h
 case isFalse=>cases h
 rename_i h0
 have fin:∀ (b off len cap:Nat) (r:AV),v1=.slice (some ⟨b,off,none⟩) len cap->n.toNat<len->SRel cx.num w cx.R g s.heap s.ep (.pointer (some ⟨b,off+n.toNat*i0.size,none⟩)) r ->
   Out.val r=some out->Done cx s g a w o key out:=by
  intro b off len cap r hp hn hr hv
  subst hp
  refine Zai m ?_ hr hv
  have hrun:=Zig (w:=w) ht hi b off len cap k n h0 hn
  simp[execOp,ho,e1,e2,hrun]
 cases c1<;>simp only[reduceCtorEq]at h
 case inn ee id kk off =>
  split at h
  case isFalse=>cases h
  rename_i hee
  subst hee
  cases hh:s.heap id with
  | none=>rw[hh]at h;cases h
  | some ob =>
   rw[hh]at h
   cases ob<;>simp only[reduceCtorEq]at h
   rename_i sz1 xs
   cases hx:xs[kk]? with
   | none=>rw[hx]at h;cases h
   | some row =>
    rw[hx]at h
    simp only at h
    split at h
    case h_2=>cases h
    rename_i sz2 ys hro
    split at h
    case isFalse=>cases h
    rename_i hlt
    obtain⟨hlt,rfl⟩:=hlt
    cases h1 with
    | inn _ _ _ _ _ _ hu _ hv =>
     obtain⟨b,nn,c,hg,hNb,hcell⟩:=hv rfl _ _ hh
     rcases (m.objs id _ hh).1.open_own with ⟨_,h5⟩|⟨b',cap,cur,e',h5,hheap,_,_,_,_,_,hcells⟩
     ·rw[h5]at hx;simp at hx
     ·have hg0:=hg
      rw[hg]at h5
      simp only[Value.slice.injEq,Xb,Addr.mk.injEq,Xbv]at h5
      obtain⟨rfl,_⟩:=h5
      obtain⟨u,T,hu',hcl',hT⟩:=hcells kk off _ (Zab.2 ⟨row,hx,hro⟩)
      have huv:u=v1:=by
       rw[Zaf hheap,hu']at hcell
       exact Xf hcell
      subst huv
      rcases hcl'.open_own with ⟨_,h6⟩|⟨b2,cap2,cur2,e2',h6,_⟩
      ·rw[h6]at hlt;simp at hlt
      ·refine fin b2 0 _ cap2 _ h6 hlt (.inp _ _ _ _ _ _ _ rfl hu (Xo _) fun _ sz3 xs3 h3=>?_) h
       rw[hh]at h3
       simp only[Xb,AO.arr.injEq]at h3
       obtain⟨rfl,rfl⟩:=h3
       exact⟨b,nn,c,b2,_,cap2,hg0,hNb,by rw[hcell,h6],by simp⟩
 ·rename_i md sz' xs
  split at h
  case isFalse=>cases h
  rename_i hok
  obtain⟨hok,rfl⟩:=hok
  cases hx:xs[n.toNat]? with
  | none=>rw[hx]at h;cases h
  | some row =>
   rw[hx]at h
   have hlt:=(Xa.1 hx).1
   cases h1 with
   | nil=>simp at hlt
   | sl _ _ _ _ _ hm hlim hown =>
    have hb:=hm hok
    cases hb with
    | nil=>simp at hlt
    | sl _ _ _ b off cap us hcap hb hrow hcell hin =>
     refine fin b off _ cap _ rfl hlt (.bptr _ _ _ _ rfl hlim fun _=>⟨b,off+n.toNat*i0.size,fun j=>us n.toNat j,rfl,hb,fun j c hj=>?_⟩) h
     have hc:cellAt xs n.toNat j=some c:=Zab.2 ⟨row,hx,by simpa using hj⟩
     exact⟨hcell _ _ _ hc,hin _ _ _ hc⟩
 ·rename_i id
  cases hh:s.heap id with
  | none=>rw[hh]at h;cases h
  | some ob =>
   rw[hh]at h
   cases ob<;>simp only[reduceCtorEq]at h
   rename_i sz' xs
   split at h
   case isFalse=>cases h
   rename_i hlt
   obtain⟨hlt,rfl⟩:=hlt
   cases h1 with
   | ref _ _ _ hu hv =>
    have hv':=hv _ hh
    rcases (m.objs id _ hh).1.open_own with ⟨_,h5⟩|⟨b,cap,cur,e',h5,_⟩
    ·rw[h5]at hlt;simp at hlt
    ·refine fin b 0 _ cap _ (hv'.trans h5) hlt (.ptr _ _ _ _ rfl hu fun o' ho'=>?_) h
     rw[hh]at ho'
     obtain rfl:=Xf ho'
     exact⟨b,_,cap,h5,by simp⟩
 ·rename_i id lo len
  cases hh:s.heap id with
  | none=>rw[hh]at h;cases h
  | some ob =>
   rw[hh]at h
   cases ob<;>simp only[reduceCtorEq]at h
   rename_i sz' xs
   split at h
   case isFalse=>cases h
   rename_i hlt
   obtain⟨hlt,hle,rfl⟩:=hlt
   cases h1 with
   | view _ _ _ _ _ hu hv =>
    obtain⟨a',cap,h5,_,h6⟩:=hv _ _ hh
    obtain⟨b,n',c',h7,h8⟩:=h6 (by omega)
    rw[h8]at h5
    refine fin b _ _ cap _ h5 hlt (.ptr _ _ _ _ rfl hu fun o' ho'=>?_) h
    rw[hh]at ho'
    obtain rfl:=Xf ho'
    exact⟨b,n',c',h7,by rw[Xa2];rfl⟩
theorem Zo6(m:Mem cx s.heap s.ep g w){x j:Operand}{t:TypeId}{y z:Opd}(ho:o.op=.index t x j)(ht:cx.P.underlying t=some .string)
  (h1:SRel cx.num w cx.R g s.heap s.ep (a.eval x) (y.ev s.slots)) (h2:SRel cx.num w cx.R g s.heap s.ep (a.eval j) (z.ev s.slots))
  (h:sem cl (.sidx y z) key s.slots s.heap s.ep=some out):Done cx s g a w o key out:=by
 simp only[sem]at h
 generalize y.ev s.slots=c1 at h h1
 generalize z.ev s.slots=c2 at h h2
 generalize e1:a.eval x=v1 at h1
 generalize e2:a.eval j=v2 at h2
 cases c1<;>cases c2<;>simp only[reduceCtorEq]at h
 rename_i b k n
 cases h1
 cases h2
 split at h
 case isFalse=>cases h
 rename_i h0
 cases hb:b.data.toList[n.toNat]? with
 | none=>rw[hb]at h;cases h
 | some u =>
  rw[hb]at h
  refine Zai m ?_ (.int _ _) h
  have hb':b[n.toNat]?=some u:=by
   have hlt:n.toNat<b.size:=by
    have:=(Xa.1 hb).1
    simpa using this
   have hget:=(Xa.1 hb).2
   rw[getElem?_pos b n.toNat hlt]
   simp only[Xb]
   rw[<- hget]
   rfl
  simp[execOp,ho,e1,e2,Instr.index,asIntOf,run_underlying ht,h0,hb']
theorem Zq2(m:Mem cx s.heap s.ep g w){x:Operand}{i:Nat}{y:Opd}(ho:o.op=.extract x i)(h1:SRel cx.num w cx.R g s.heap s.ep (a.eval x) (y.ev s.slots))
  (h:sem cl (.ext y i) key s.slots s.heap s.ep=some out):Done cx s g a w o key out:=by
 simp only[sem]at h
 generalize y.ev s.slots=c1 at h h1
 generalize e1:a.eval x=v1 at h1
 cases c1<;>simp only[reduceCtorEq]at h
 rename_i cs
 cases h1 with
 | tup vs _ hl hc =>
  cases hci:cs[i]? with
  | none=>rw[hci]at h;cases h
  | some c =>
   rw[hci]at h
   have hlt:=(Xa.1 hci).1
   have hv:vs[i]?=some vs[i]:=Xz (by omega)
   refine Zai m ?_ (hc i _ c hv hci) h
   simp[execOp,ho,e1,Instr.extract,hv]
theorem Zln(m:Mem cx s.heap s.ep g w){v:Value}{x:AV}{sz:Nat}{xs:List (List AV)}(hr:SRel cx.num w cx.R g s.heap s.ep v x)(h:content s.heap s.ep x=some (sz,xs)) :
  ∃ ad cap,v=.slice ad xs.length cap/\xs.length<=cap:=by
 cases x<;>simp only[content,reduceCtorEq]at h
 ·rename_i md sz' ys
  cases hr with
  | nil=>simp only[Xb,Xk]at h;obtain⟨_,rfl⟩:=h;exact⟨none,0,rfl,Xo _⟩
  | sl _ _ _ _ _ hm hlim hown =>
   have h':md.ok s.ep=true/\ys=xs:=by
    cases md<;>cases ys<;>simp_all[Md.ok]<;>(split at h<;>simp_all)
   obtain⟨hok,rfl⟩:=h'
   have hb:=hm hok
   cases hb with
   | nil=>exact⟨_,_,rfl,Xp _⟩
   | sl _ _ _ b off cap us hcap=>exact⟨_,_,rfl,hcap⟩
 ·rename_i id
  cases hh:s.heap id with
  | none=>rw[hh]at h;cases h
  | some ob =>
   rw[hh]at h
   cases ob<;>simp only[reduceCtorEq,Xb,Xk]at h
   obtain⟨rfl,rfl⟩:=h
   cases hr with
   | ref _ _ _ hu hv =>
    rw[hv _ hh]
    rcases (m.objs id _ hh).1.open_own with ⟨h5,h6⟩|⟨b,cap,cur,e',h5,_,_,h6,_⟩
    ·rw[h5,h6];exact⟨none,0,rfl,Xo _⟩
    ·exact⟨_,cap,h5,h6⟩
 ·rename_i id lo len
  cases hh:s.heap id with
  | none=>rw[hh]at h;cases h
  | some ob =>
   rw[hh]at h
   cases ob<;>simp only[reduceCtorEq]at h
   split at h
   case isFalse=>cases h
   rename_i hle
   simp only[Xb,Xk]at h
   obtain⟨rfl,rfl⟩:=h
   cases hr with
   | view _ _ _ _ _ hu hv =>
    obtain⟨a',cap,h5,h6,_⟩:=hv _ _ hh
    have hlen:(List.take len (List.drop lo ‹_›)).length=len:=by simp;omega
    rw[hlen]
    exact⟨a',cap,h5,h6⟩
theorem Zq3(m:Mem cx s.heap s.ep g w){x:Operand}{t e:TypeId}{y:Opd}(ho:o.op=.call { callee:=.builtin .len,args:=#[x],argTypes:=#[t] })(ht:cx.P.underlying t=some (.slice e))
  (h1:SRel cx.num w cx.R g s.heap s.ep (a.eval x) (y.ev s.slots)) (h:sem cl (.len false y) key s.slots s.heap s.ep=some out):Done cx s g a w o key out:=by
 simp only[sem]at h
 cases hc:content s.heap s.ep (y.ev s.slots) with
 | none=>rw[hc]at h;cases h
 | some p =>
  rw[hc]at h
  obtain⟨sz,xs⟩:=p
  obtain⟨ad,cap,hv,_⟩:=Zln m h1 hc
  refine Zai m ?_ (.int _ _) h
  simp[execOp,ho,resolve,invoke,builtin,hv,Builtin.len_,run_underlying ht,goInt]
theorem Zo7(m:Mem cx s.heap s.ep g w){x:Operand}{t:TypeId}{y:Opd}(ho:o.op=.call { callee:=.builtin .len,args:=#[x],argTypes:=#[t] })(ht:cx.P.underlying t=some .string)
  (h1:SRel cx.num w cx.R g s.heap s.ep (a.eval x) (y.ev s.slots)) (h:sem cl (.len true y) key s.slots s.heap s.ep=some out):Done cx s g a w o key out:=by
 simp only[sem]at h
 generalize y.ev s.slots=c1 at h h1
 generalize e1:a.eval x=v1 at h1
 cases c1<;>simp only[reduceCtorEq]at h
 cases h1
 refine Zai m ?_ (.int _ _) h
 simp[execOp,ho,resolve,invoke,builtin,e1,Builtin.len_,run_underlying ht,goInt]
theorem Zga{P:Program}{w:World}{isSlice:Bool}{lo hi:Option Value}{lo' hi':Option AV}{len cap p q:Nat}(hlc:len<=cap)(hlo:∀ u c,lo=some u->lo'=some c->∀ k n,c=.int k n->u=.int k n)
  (hhi:∀ u c,hi=some u->hi'=some c->∀ k n,c=.int k n->u=.int k n) (h1:lo.isSome=lo'.isSome) (h2:hi.isSome=hi'.isSome) (h:slBounds lo' hi' len=some (p,q)) :
  (Instr.sliceBounds isSlice len cap lo hi none).run P w=.ok (p,q,cap) w/\p<=q/\q<=len:=by
 cases lo<;>cases lo'<;>simp at h1<;>cases hi<;>cases hi'<;>simp at h2
 ·simp only[slBounds,Xb,Xk]at h
  obtain⟨rfl,rfl⟩:=h
  exact⟨by simp[Instr.sliceBounds],Xp _,Xo _⟩
 ·rename_i u c
  cases c<;>simp only[slBounds,reduceCtorEq]at h
  rename_i k n
  obtain rfl:=hhi u _ rfl rfl k n rfl
  split at h
  case isFalse=>cases h
  rename_i hb
  simp only[Xb,Xk]at h
  obtain⟨rfl,rfl⟩:=h
  refine⟨?_,Xp _,by omega⟩
  have hc:n<=(cap:Int):=by omega
  simp[Instr.sliceBounds,Instr.sliceBound,asIntOf,hb.1,hc]
 ·rename_i u c
  cases c<;>simp only[slBounds,reduceCtorEq]at h
  rename_i k n
  obtain rfl:=hlo u _ rfl rfl k n rfl
  split at h
  case isFalse=>cases h
  rename_i hb
  simp only[Xb,Xk]at h
  obtain⟨rfl,rfl⟩:=h
  refine⟨?_,by omega,Xo _⟩
  simp[Instr.sliceBounds,Instr.sliceBound,asIntOf,hb.1,hb.2]
 ·rename_i u c u' c'
  cases c'<;>simp only[slBounds,reduceCtorEq]at h
  rename_i k' n'
  cases c<;>simp only[reduceCtorEq]at h
  rename_i k n
  obtain rfl:=hlo u _ rfl rfl k n rfl
  obtain rfl:=hhi u' _ rfl rfl k' n' rfl
  split at h
  case isFalse=>cases h
  rename_i hb
  simp only[Xb,Xk]at h
  obtain⟨rfl,rfl⟩:=h
  refine⟨?_,by omega,by omega⟩
  have hc:n'<=(cap:Int):=by omega
  have h0:0<=n':=by omega
  have h3:n<=((n'.toNat:Nat):Int):=by omega
  simp[Instr.sliceBounds,Instr.sliceBound,asIntOf,hb.1,hc,h0,h3]
  intro hgt
  exfalso
  omega
def OptRel(a:Act)(g:Nat->AV)(R:Value->AV->Prop):Option Operand->Option Opd->Prop
 | none,none=>True
 | some x,some y=>R (a.eval x) (y.ev g)
 | _,_=>False
theorem OptRel.some{R:Value->AV->Prop}{x:Option Operand}{y:Option Opd}{gs:Nat->AV}(h:OptRel a gs R x y):(x.map a.eval).isSome=(y.map (·.ev gs)).isSome /\
  ∀ u c,x.map a.eval=some u->y.map (·.ev gs)=some c->R u c:=by
 cases x<;>cases y<;>simp_all[OptRel]
theorem SRel.int_of{num:Nat->Option FuncId}{w:World}{R:Nat->Prop}{g:Gh}{h:Nat->Option AO}{ep:Nat}{u:Value}{c:AV}(hr:SRel num w R g h ep u c):∀ k n,c=.int k n->u=.int k n:=by
 rintro k n rfl
 cases hr
 rfl
theorem Zls(m:Mem cx s.heap s.ep g w){x:Operand}{lo hi:Option Operand}{t:TypeId}{y:Opd}{lo' hi':Option Opd}(ho:o.op=.slice t x lo hi none)(ht:cx.P.underlying t=some .string)
  (h1:SRel cx.num w cx.R g s.heap s.ep (a.eval x) (y.ev s.slots)) (h2:OptRel a s.slots (SRel cx.num w cx.R g s.heap s.ep) lo lo') (h3:OptRel a s.slots (SRel cx.num w cx.R g s.heap s.ep) hi hi')
  (h:sem cl (.sslice y lo' hi') key s.slots s.heap s.ep=some out):Done cx s g a w o key out:=by
 simp only[sem]at h
 generalize y.ev s.slots=c1 at h h1
 generalize e1:a.eval x=v1 at h1
 cases c1<;>simp only[reduceCtorEq]at h
 rename_i b
 cases h1
 cases hb:slBounds (lo'.map (·.ev s.slots)) (hi'.map (·.ev s.slots)) b.size with
 | none=>rw[hb]at h;cases h
 | some pq =>
  obtain⟨p,q⟩:=pq
  rw[hb]at h
  obtain⟨hl1,hl2⟩:=h2.some
  obtain⟨hh1,hh2⟩:=h3.some
  obtain⟨hrun,hpq,hq⟩:=Zga (P:=cx.P) (w:=w) (isSlice:=false) (Xo b.size) (fun u c hu hc=>(hl2 u c hu hc).int_of) (fun u c hu hc=>(hh2 u c hu hc).int_of) hl1 hh1 hb
  refine Zai m ?_ (.str _) h
  simp[execOp,ho,e1,Instr.sliceAt,Instr.slice,run_underlying ht,hrun]
theorem Zo3(m:Mem cx s.heap s.ep g w){x hi mx:Operand}{t e:TypeId}{i0:TypeInfo}{y hi' mx':Opd}(ho:o.op=.slice t x none (some hi) (some mx))(ht:cx.P.underlying t=some (.slice e))(hi0:cx.P.info? e=some i0)
  (h1:SRel cx.num w cx.R g s.heap s.ep (a.eval x) (y.ev s.slots)) (h2:SRel cx.num w cx.R g s.heap s.ep (a.eval hi) (hi'.ev s.slots)) (h3:SRel cx.num w cx.R g s.heap s.ep (a.eval mx) (mx'.ev s.slots))
  (h:sem cl (.cut3 i0.size y hi' mx') key s.slots s.heap s.ep=some out):Done cx s g a w o key out:=by
 simp only[sem]at h
 generalize y.ev s.slots=c1 at h h1
 generalize hi'.ev s.slots=c2 at h h2
 generalize mx'.ev s.slots=c3 at h h3
 generalize e1:a.eval x=v1 at h1
 generalize e2:a.eval hi=v2 at h2
 generalize e3:a.eval mx=v3 at h3
 cases c1<;>try (cases h;done)
 rename_i id
 simp only at h
 cases hh:s.heap id with
 | none=>rw[hh]at h;cases h
 | some ob =>
  rw[hh]at h
  cases ob<;>simp only[reduceCtorEq]at h
  rename_i sz' xs
  cases c2<;>try (cases h;done)
  cases c3<;>try (cases h;done)
  rename_i k2 n k3 n3
  simp only at h
  split at h
  case isFalse=>cases h
  rename_i hb
  obtain⟨rfl,rfl,hb0,hb1⟩:=hb
  cases h2;cases h3
  cases h1 with
  | ref _ _ _ hu hv =>
   have hv':=hv _ hh
   subst hv'
   have ho2:=(m.objs id _ hh).1
   obtain⟨k,rfl⟩:∃ k:Nat,n=k:=⟨n.toNat,by omega⟩
   have hkn:((k:Int)).toNat=k:=rfl
   rw[hkn]at h
   generalize hgv:g.v id=gv at *
   cases ho2 with
   | nil =>
    have hk0:k=0:=by simp at hb1;omega
    subst hk0
    refine Zai m ?_ (.cut id 0 (.slice none 0 0) rfl hu fun _ _=>.inr ⟨hgv,rfl,rfl⟩) h
    simp[execOp,ho,e1,e2,e3,Instr.sliceAt,Instr.slice,run_underlying ht,Instr.sliceBounds,Instr.sliceBound,asIntOf,Zav hi0]
   | own _ _ b cap cur e us fs S hheap hcap hmax hcur hrow hcell hin hdis hnot hS =>
    have hc:(k:Int)<=(cap:Int):=by omega
    refine Zai m (v:=.slice (some ⟨b,0,none⟩) k k) ?_ (.cut id k _ rfl hu fun _ _=>.inl ⟨b,_,cap,hgv,rfl⟩) h
    by_cases hk0:k=0
    ·subst hk0
     simp[execOp,ho,e1,e2,e3,Instr.sliceAt,Instr.slice,run_underlying ht,Instr.sliceBounds,Instr.sliceBound,asIntOf,Zav hi0]
    ·simp[execOp,ho,e1,e2,e3,Instr.sliceAt,Instr.slice,run_underlying ht,Instr.sliceBounds,Instr.sliceBound,asIntOf,Zav hi0,hc,hk0,Addr.add]
     intro hlt
     omega
theorem Zim(m:Mem cx s.heap s.ep g w){x:Operand}{lo hi:Option Operand}{t e:TypeId}{i0:TypeInfo}{y:Opd}{lo' hi':Option Opd}(ho:o.op=.slice t x lo hi none)(ht:cx.P.underlying t=some (.slice e))(hi0:cx.P.info? e=some i0)
  (h1:SRel cx.num w cx.R g s.heap s.ep (a.eval x) (y.ev s.slots)) (h2:OptRel a s.slots (SRel cx.num w cx.R g s.heap s.ep) lo lo') (h3:OptRel a s.slots (SRel cx.num w cx.R g s.heap s.ep) hi hi')
  (h:sem cl (.slice i0.size y lo' hi') key s.slots s.heap s.ep=some out):Done cx s g a w o key out:=by
 simp only[sem]at h
 generalize y.ev s.slots=c1 at h h1
 generalize e1:a.eval x=v1 at h1
 obtain⟨hl1,hl2⟩:=h2.some
 obtain⟨hh1,hh2⟩:=h3.some
 -- the run,and where the piece lies
 have fin:∀ (ad:Option Addr) (len cap p q:Nat) (r:AV),v1=.slice ad len cap->len<=cap->slBounds (lo'.map (·.ev s.slots)) (hi'.map (·.ev s.slots)) len=some (p,q) ->
   (p<=q->q<=len->SRel cx.num w cx.R g s.heap s.ep (.slice (if cap=p then ad else ad.map (·.add (p*i0.size))) (q-p) (cap-p)) r)->Out.val r=some out->Done cx s g a w o key out:=by
  intro ad len cap p q r hp hlc hb hr hv
  subst hp
  obtain⟨hrun,hpq,hq⟩:=Zga (P:=cx.P) (w:=w) (isSlice:=true) hlc (fun u c hu hc=>(hl2 u c hu hc).int_of) (fun u c hu hc=>(hh2 u c hu hc).int_of) hl1 hh1 hb
  refine Zai m ?_ (hr hpq hq) hv
  simp[execOp,ho,e1,Instr.sliceAt,Instr.slice,run_underlying ht,hrun,Zav hi0]
 cases c1<;>try simp only[reduceCtorEq]at h
 ·rename_i md sz' xs
  by_cases hn:md=.own/\xs=[]
  ·obtain⟨rfl,rfl⟩:=hn
   simp only at h
   split at h
   case isFalse=>cases h
   rename_i hsz
   subst hsz
   cases hb:slBounds (lo'.map (·.ev s.slots)) (hi'.map (·.ev s.slots)) 0 with
   | none=>rw[hb]at h;cases h
   | some pq =>
    obtain⟨p,q⟩:=pq
    rw[hb]at h
    cases h1 with
    | nil _ =>
     refine fin none 0 0 p q _ rfl (Xo _) hb (fun hpq hq=>?_) h
     have hq0:q=0:=by omega
     have hp0:p=0:=by omega
     subst hq0;subst hp0
     exact .nil _
    | sl _ _ _ _ _ hm hlim hown=>exact absurd rfl hown
  have h:=(show (if md.ok s.ep/\sz'=i0.size then match slBounds (lo'.map (·.ev s.slots)) (hi'.map (·.ev s.slots)) xs.length with
   | some (a,b)=>Out.val (.sl md sz' ((xs.drop a).take (b-a)))
   | none=>none
   else none)=some out by
    cases md with
    | own=>cases xs with
     | nil=>exact absurd ⟨rfl,rfl⟩ hn
     | cons _ _=>exact h
    | _=>exact h)
  split at h
  case isFalse=>cases h
  rename_i hok
  obtain⟨hok,rfl⟩:=hok
  cases hb:slBounds (lo'.map (·.ev s.slots)) (hi'.map (·.ev s.slots)) xs.length with
  | none=>rw[hb]at h;cases h
  | some pq =>
   obtain⟨p,q⟩:=pq
   rw[hb]at h
   cases h1 with
   | nil=>simp[Md.ok]at hok
   | sl _ _ _ _ _ hm hlim hown =>
    have hbor:=hm hok
    have hlen:∀ p q,q<=xs.length->(List.take (q-p) (List.drop p xs)).length=q-p:=fun p q hq=>by simp;omega
    cases hbor with
    | nil _ _ ad cap =>
     refine fin ad 0 cap p q _ rfl (Xp _) hb (fun hpq hq=>?_) h
     have hq0:q=0:=by simpa using hq
     have hp0:p=0:=by omega
     subst hq0;subst hp0
     exact .sl _ _ _ _ rfl (fun _=>.nil _ _ _ _) hlim hown
    | sl _ _ _ b off cap us hcap hbk hrow hcell hin =>
     refine fin _ _ cap p q _ rfl hcap hb (fun hpq hq=>?_) h
     refine .sl _ _ _ _ rfl (fun _=>?_) hlim hown
     by_cases hz:q-p=0
     ·have:List.take (q-p) (List.drop p xs)=[]:=by rw[hz];rfl
      rw[this,hz]
      exact .nil _ _ _ _
     ·rw[Xu (by omega)]
      have hl:=hlen p q hq
      have hc2:q-p<=cap-p:=by omega
      have e0:(some (⟨b,off,none⟩:Addr)).map (·.add (p*i0.size))=some ⟨b,off+p*i0.size,none⟩:=by simp[Zbq]
      rw[e0]
      have hat:∀ i j c,cellAt (List.take (q-p) (List.drop p xs)) i j=some c->cellAt xs (p+i) j=some c:=by
       intro i j c hc
       obtain⟨row,hr1,hr2⟩:=Zab.1 hc
       refine Zab.2 ⟨row,?_,hr2⟩
       rw[Xal]at hr1
       split at hr1
       ·rwa [Xaq]at hr1
       ·cases hr1
      have:=Bor.sl (w:=w) (R:=rdSet cx.R g md) md i0.size (List.take (q-p) (List.drop p xs)) b (off+p*i0.size) (cap-p) (fun i j=>us (p+i) j) (by rw[hl];exact hc2) hbk
       (fun row hr=>hrow row (Xbq (Xbf hr)))
       (fun i j c hc=>by rw[show off+p*i0.size+i*i0.size+j=off+(p+i)*i0.size+j by rw[Xa2];omega];exact hcell _ _ _ (hat i j c hc)) (fun i j c hc=>hin _ _ _ (hat i j c hc))
      rwa [hl]at this
 ·rename_i id
  cases hh:s.heap id with
  | none=>rw[hh]at h;cases h
  | some ob =>
   rw[hh]at h
   cases ob<;>simp only[reduceCtorEq]at h
   rename_i sz' xs
   split at h
   case isFalse=>cases h
   rename_i hsz
   subst hsz
   cases hb:slBounds (lo'.map (·.ev s.slots)) (hi'.map (·.ev s.slots)) xs.length with
   | none=>rw[hb]at h;cases h
   | some pq =>
    obtain⟨p,q⟩:=pq
    rw[hb]at h
    cases h1 with
    | ref _ _ _ hu hv =>
     have hv':=hv _ hh
     rcases (m.objs id _ hh).1.open_own with ⟨h5,h6⟩|⟨b,cap,cur,e',h5,_,_,hcap,_⟩
     ·subst h6
      refine fin none 0 0 p q _ (hv'.trans h5) (Xo _) hb (fun hpq hq=>?_) h
      have hq0:q=0:=by simpa using hq
      refine .view _ _ _ _ rfl hu fun _ _ _=>⟨_,_,rfl,by omega,fun hne=>by omega⟩
     ·refine fin _ _ cap p q _ (hv'.trans h5) hcap hb (fun hpq hq=>?_) h
      refine .view _ _ _ _ rfl hu fun sz2 xs2 ho2=>⟨_,_,rfl,by omega,fun hne=>⟨b,_,cap,h5,?_⟩⟩
      rw[hh]at ho2
      simp only[Xb,AO.arr.injEq]at ho2
      rw[Xu (by omega),<- ho2.1]
      simp[Zbq]
 ·rename_i id lo0 len0
  cases hh:s.heap id with
  | none=>rw[hh]at h;cases h
  | some ob =>
   rw[hh]at h
   cases ob<;>simp only[reduceCtorEq]at h
   rename_i sz' xs
   split at h
   case isFalse=>cases h
   rename_i hsz
   obtain⟨hle,rfl⟩:=hsz
   cases hb:slBounds (lo'.map (·.ev s.slots)) (hi'.map (·.ev s.slots)) len0 with
   | none=>rw[hb]at h;cases h
   | some pq =>
    obtain⟨p,q⟩:=pq
    rw[hb]at h
    cases h1 with
    | view _ _ _ _ _ hu hv =>
     obtain⟨ad,cap,h5,h6,h7⟩:=hv _ _ hh
     refine fin ad len0 cap p q _ h5 h6 hb (fun hpq hq=>?_) h
     refine .view _ _ _ _ rfl hu fun sz2 xs2 ho2=>⟨_,_,rfl,by omega,fun hne=>?_⟩
     rw[hh]at ho2
     simp only[Xb,AO.arr.injEq]at ho2
     obtain⟨b,n',c',h8,h9⟩:=h7 (by omega)
     refine⟨b,n',c',h8,?_⟩
     rw[Xu (by omega),h9,<- ho2.1]
     simp[Zbq,Xa2]
/-! ### Reading memory -/
def aggB:TypeDesc->Bool
 | .struct _=>true
 | .array _ _=>true
 | _=>false
theorem Zet{P:Program}{w:World}{t:TypeId}{d:TypeDesc}(ht:P.underlying t=some d):(isAgg t).run P w=.ok (aggB d) w:=by
 simp only[isAgg,Sem.run_bind,run_underlying ht,Result.andThen]
 cases d<;>rfl
theorem Zc5{P:Program}{w:World}{t:TypeId}{d:TypeDesc}{i0:TypeInfo}(ht:P.underlying t=some d)(hi:P.info? t=some i0)(b off:Nat)(us:Nat->Value)
  (hc:∀ j,j<i0.size->w.cell? ⟨b,off+j,none⟩=some (us j)) (h1:aggB d=false->i0.size=1) :
  (loadVar t ⟨b,off,none⟩).run P w=.ok (if aggB d then .agg ((List.range i0.size).map us).toArray else us 0) w:=by
 cases hd:aggB d with
 | true =>
  have hl:=run_loadCells (P:=P) w ⟨b,off,none⟩ i0.size us (fun j hj=>by rw[Zbq];exact hc j hj)
  simp[loadVar,Zet ht,hd,Zav hi,hl]
 | false =>
  have h0:=hc 0 (by rw[h1 hd];omega)
  simp only[Nat.add_zero]at h0
  simp[loadVar,Zet ht,hd,h0]
theorem Zbm(m:Mem cx s.heap s.ep g w){x:Operand}{t:TypeId}{d:TypeDesc}{i0:TypeInfo}(ho:o.op=.load t x)(ht:cx.P.underlying t=some d)(hi:cx.P.info? t=some i0)(hsz:aggB d=false->i0.size=1)
  {b off:Nat} (hx:a.eval x=.pointer (some ⟨b,off,none⟩)) {cs:List AV} {r:AV} (F:AV->AV)
  (hcell:∀ j c,cs[j]?=some c->∃ u,w.cell? ⟨b,off+j,none⟩=some u/\u.oneCell'=true/\SRel cx.num w cx.R g s.heap s.ep u (F c))
  (hr:r=if aggB d then .agg ((cs.take i0.size).map F) else F (cs.getD 0 .any)) (hlen:i0.size<=cs.length) (h:Out.val r=some out):Done cx s g a w o key out:=by
 have hex:∃ us:Nat->Value,∀ j c,cs[j]?=some c->w.cell? ⟨b,off+j,none⟩=some (us j)/\(us j).oneCell'=true/\SRel cx.num w cx.R g s.heap s.ep (us j) (F c):=by
  have hj:∀ j,∃ u,∀ c,cs[j]?=some c->w.cell? ⟨b,off+j,none⟩=some u/\u.oneCell'=true/\SRel cx.num w cx.R g s.heap s.ep u (F c):=by
   intro j
   cases hj:cs[j]? with
   | none=>exact⟨undef,fun c hc=>by cases hc⟩
   | some c0 =>
    obtain⟨u,hu⟩:=hcell j c0 hj
    exact⟨u,fun c hc=>by rw[<- Xf hc];exact hu⟩
  exact⟨fun j=>(hj j).choose,fun j=>(hj j).choose_spec⟩
 obtain⟨us,hus⟩:=hex
 have hcs:∀ j,j<i0.size->w.cell? ⟨b,off+j,none⟩=some (us j):=fun j hj=>(hus j _ (Xd (Xaw hj hlen))).1
 have hrun:=Zc5 (w:=w) ht hi b off us hcs hsz
 subst hr
 cases hd:aggB d with
 | true =>
  rw[hd]at h hrun
  simp only[Xag]at h hrun
  refine Zai m (v:=.agg ((List.range i0.size).map us).toArray) ?_ ?_ h
  ·simp[execOp,ho,hx,Instr.loadAt,Instr.sureAddr,hrun]
  ·refine .agg _ _ (by simp;omega) ?_ ?_
   ·intro j v hv
    simp only[Xbd,Xam]at hv
    cases hj:(List.range i0.size)[j]? with
    | none=>rw[hj]at hv;cases hv
    | some j' =>
     rw[hj]at hv
     simp only[Xw,Xb]at hv
     have hj2:=Xa.1 hj
     obtain⟨hlt,he⟩:=hj2
     simp only[Xb5]at hlt
     simp only[Xce]at he
     subst he
     subst hv
     exact (hus j _ (Xd (Xaw hlt hlen))).2.1
   ·intro j v c hv hc
    simp only[Xbd,Xam]at hv hc
    cases hj:(List.range i0.size)[j]? with
    | none=>rw[hj]at hv;cases hv
    | some j' =>
     rw[hj]at hv
     simp only[Xw,Xb]at hv
     have hj2:=Xa.1 hj
     obtain⟨hlt,he⟩:=hj2
     simp only[Xb5]at hlt
     simp only[Xce]at he
     subst he
     subst hv
     have hcj:cs[j]?=some cs[j]:=Xd (Xaw hlt hlen)
     have htk:(List.take i0.size cs)[j]?=some cs[j]:=by rw[Xal,Xr hlt,hcj]
     rw[htk]at hc
     simp only[Xw,Xb]at hc
     subst hc
     exact (hus j _ hcj).2.2
 | false =>
  rw[hd]at h hrun
  simp only[Xq,Xaj]at h hrun
  have h0:0<cs.length:=by have:=hsz hd;omega
  have hc0:cs[0]?=some cs[0]:=Xd h0
  refine Zai m (v:=us 0) ?_ ?_ h
  ·simp[execOp,ho,hx,Instr.loadAt,Instr.sureAddr,hrun]
  ·have:=(hus 0 _ hc0).2.2
   have he:cs.getD 0 .any=cs[0]:=by simp[List.getD,hc0]
   rw[he]
   exact this
theorem Za3{cs:List AV}{off sz:Nat}{agg:Bool}{r:AV}(hsz:agg=false->sz=1)(h:loadFrom cs off sz agg=some r) :
  off+sz<=cs.length/\r=if agg then .agg ((cs.drop off).take sz) else (cs.drop off).getD 0 .any:=by
 cases agg with
 | true =>
  simp only[loadFrom,Xag]at h
  split at h
  ·simp only[Xb]at h
   exact⟨‹_›,h.symm⟩
  ·cases h
 | false =>
  simp only[loadFrom,Xq,Xaj]at h
  have:=(Xa.1 h).1
  rw[hsz rfl]
  refine⟨by omega,?_⟩
  simp[List.getD,h]
theorem SRel.of_cl{num:Nat->Option FuncId}{w:World}{R:Nat->Prop}{g:Gh}{h:Nat->Option AO}{ep:Nat}{v:Value}{c:AV}{S:Nat->Prop}(hc:Cl w g.I v c S)(hS:∀ x,S x->g.N x)(hI:∀ x,g.I x->g.N x) :
  SRel num w R g h ep v (c.lendO ep):=by
 have hb:=hc.bor hS hI
 have h1:=hc.one
 cases hc with
 | any=>exact .any _
 | bool=>exact .bool _
 | int=>exact .int _ _
 | str=>exact .str _
 | imm _ sz xs _ hbor _=>exact .sl _ _ _ _ h1 (fun _=>hbor) (fun e he=>by cases he) (by simp)
 | nil sz _ _=>exact .sl _ _ _ _ h1 (fun _=>hb.md) (fun e he=>by cases he;exact Xo _) (by simp)
 | own sz xs=>exact .sl _ _ _ _ h1 (fun _=>hb.md) (fun e he=>by cases he;exact Xo _) (by simp)
theorem Zm9{xs:List (List AV)}{sz:Nat}(hrow:∀ row∈xs,row.length=sz){i:Nat}{row:List AV}(h:xs[i]?=some row):row.length=sz :=
 hrow row (Xe h)
theorem SRel.of_bor{num:Nat->Option FuncId}{w:World}{R:Nat->Prop}{g:Gh}{h:Nat->Option AO}{ep:Nat}{v:Value}{c:AV}{m:Md}(hb:Bor w (rdSet R g m) v c)(hlim:∀ e,m=.snap e->e<=ep)(hown:m≠.own) :
  SRel num w R g h ep v (c.lend m):=by
 have h1:=hb.one
 cases hb with
 | any=>exact .any _
 | bool=>exact .bool _
 | int=>exact .int _ _
 | str=>exact .str _
 | nil=>exact .sl _ _ _ _ h1 (fun _=>.nil _ _ _ _) hlim hown
 | sl m' sz xs b o cap us hcap hb hrow hcell hin=>exact .sl _ _ _ _ h1 (fun _=>.sl _ _ _ b o cap us hcap hb hrow hcell hin) hlim hown
theorem Md.not_own{ep:Nat}{m:Md}(h:m.ok ep=true):m≠.own:=by rintro rfl;simp[Md.ok]at h
theorem map_id'(cs:List AV)(n:Nat):(cs.take n).map (fun c=>c)=cs.take n:=by simp
theorem Zcj(m:Mem cx s.heap s.ep g w){x:Operand}{t:TypeId}{d:TypeDesc}{i0:TypeInfo}{y:Opd}(ho:o.op=.load t x)(ht:cx.P.underlying t=some d)(hi:cx.P.info? t=some i0)(hsz:aggB d=false->i0.size=1)
  (h1:SRel cx.num w cx.R g s.heap s.ep (a.eval x) (y.ev s.slots)) (h:sem cl (.load y i0.size (aggB d) .plain) key s.slots s.heap s.ep=some out):Done cx s g a w o key out:=by
 simp only[sem]at h
 generalize y.ev s.slots=c1 at h h1
 generalize e1:a.eval x=v1 at h1
 cases c1<;>simp only[reduceCtorEq]at h
 ·rename_i id i off
  cases hh:s.heap id with
  | none=>rw[hh]at h;cases h
  | some ob =>
   rw[hh]at h
   cases h1 with
   | ptr _ _ _ _ _ hu hv =>
    have hp:=hv ob hh
    cases ob with
    | box cells =>
     simp only at h
     split at h
     case isFalse=>cases h
     obtain⟨b,hg,he⟩:=hp
     obtain⟨b',cur,e',hg',hheap,hsize,hS,hN,hcs⟩:=m.objs id _ hh
     rw[hg]at hg'
     simp only[Value.pointer.injEq,Xb,Addr.mk.injEq,Xbv]at hg'
     subst hg'
     cases hl:loadFrom cells off i0.size (aggB d) with
     | none=>rw[hl]at h;cases h
     | some r =>
      rw[hl]at h
      obtain⟨hle,hr⟩:=Za3 hsz hl
      refine Zbm m ho ht hi hsz (e1.trans he) (cs:=cells.drop off) (fun c=>c) ?_ (by rw[map_id'];exact hr) (by simp;omega) h
      intro j c hj
      rw[Xaq]at hj
      have hlt:=(Xa.1 hj).1
      have hcur:cur[off+j]?=some (cur[off+j]'(by omega)):=Xz (by omega)
      obtain⟨h2,h3⟩:=hcs _ _ _ hcur hj
      exact⟨_,by rw[Zaf hheap];exact hcur,h2,h3⟩
    | arr sz' xs =>
     simp only at h
     obtain⟨b,n',c',hg,he⟩:=hp
     obtain⟨hcl,hN⟩:=m.objs id _ hh
     cases hx:xs[i]? with
     | none=>rw[hx]at h;cases h
     | some row =>
      rw[hx]at h
      simp only at h
      rcases hcl.open_own with ⟨_,h5⟩|⟨b',cap,cur,e',h5,hheap,_,_,_,_,hrow,hcells⟩
      ·rw[h5]at hx;simp at hx
      ·rw[hg]at h5
       simp only[Value.slice.injEq,Xb,Addr.mk.injEq,Xbv]at h5
       obtain⟨rfl,_⟩:=h5
       cases hl:loadFrom row off i0.size (aggB d) with
       | none=>rw[hl]at h;cases h
       | some r =>
        rw[hl]at h
        obtain⟨hle,hr⟩:=Za3 hsz hl
        refine Zbm m ho ht hi hsz (e1.trans he) (cs:=row.drop off) (AV.lendO s.ep) ?_ (r:=lendAO s.ep r) ?_ (by simp;omega) h
        ·intro j c hj
         rw[Xaq]at hj
         obtain⟨u,T,hu',hcl',hT⟩:=hcells i (off+j) c (Zab.2 ⟨row,hx,hj⟩)
         refine⟨u,?_,hcl'.one,SRel.of_cl hcl' (fun x hx=>hN x (hT x hx)) m.I_N⟩
         rw[Zaf hheap,Xb0]
         exact hu'
        ·rw[hr]
         cases hd:aggB d with
         | true=>simp[lendAO]
         | false =>
          have h0:off<row.length:=by have:=hsz hd;omega
          have he0:(List.drop off row).getD 0 .any=row[off]:=by simp[List.getD,Xd h0]
          simp only[Xq,Xaj,he0]
          have hcl0:∃ u T,Cl w g.I u row[off] T:=by
           obtain⟨u,T,_,h6,_⟩:=hcells i off row[off] (Zab.2 ⟨row,hx,Xd h0⟩)
           exact⟨u,T,h6⟩
          obtain⟨u,T,h6⟩:=hcl0
          cases hrc:row[off]<;>first|rfl|(rw[hrc]at h6;cases h6)
    | map _ _=>simp only[reduceCtorEq]at h
 ·rename_i md row off
  split at h
  case isFalse=>cases h
  rename_i hok
  cases hl:loadFrom row off i0.size (aggB d) with
  | none=>rw[hl]at h;cases h
  | some r =>
   rw[hl]at h
   obtain⟨hle,hr⟩:=Za3 hsz hl
   cases h1 with
   | bptr _ _ _ _ _ hlim hm =>
    obtain⟨b,o',us,he,hb,hc⟩:=hm hok
    refine Zbm m ho ht hi hsz (e1.trans he) (cs:=row.drop off) (AV.lend md) ?_ (r:=lendA md r) ?_ (by simp;omega) h
    ·intro j c hj
     rw[Xaq]at hj
     obtain⟨h2,h3⟩:=hc j c hj
     exact⟨_,h2,h3.one,SRel.of_bor h3 hlim (Md.not_own hok)⟩
    ·rw[hr]
     cases hd:aggB d with
     | true=>simp[lendA]
     | false =>
      have h0:off<row.length:=by have:=hsz hd;omega
      have he0:(List.drop off row).getD 0 .any=row[off]:=by simp[List.getD,Xd h0]
      simp only[Xq,Xaj,he0]
      have h6:=(hc 0 row[off] (Xd h0)).2
      generalize us 0=u0 at h6
      cases hrc:row[off]<;>first|rfl|(rw[hrc]at h6;cases h6)
theorem Znm(m:Mem cx s.heap s.ep g w){x:Operand}{t:TypeId}{d:TypeDesc}{i0:TypeInfo}{y:Opd}(ho:o.op=.load t x)(ht:cx.P.underlying t=some d)(hi:cx.P.info? t=some i0)(hag:aggB d=true)
  (h1:SRel cx.num w cx.R g s.heap s.ep (a.eval x) (y.ev s.slots)) (h:sem cl (.blank i0.size y) key s.slots s.heap s.ep=some out):Done cx s g a w o key out:=by
 have hl:∃ cs,sem cl (.load y i0.size (aggB d) .plain) key s.slots s.heap s.ep=Out.val (.agg cs)/\out=⟨.agg (cs.map fun _=>.any),[],false⟩:=by
  simp only[sem]at h ⊢
  rw[hag]
  generalize y.ev s.slots=c1 at h ⊢
  cases c1<;>try (cases h;done)
  rename_i id i off
  cases i with
  | succ i=>cases h
  | zero =>
   simp only at h ⊢
   cases hh:s.heap id with
   | none=>rw[hh]at h;cases h
   | some ob =>
    rw[hh]at h
    cases ob<;>simp only[reduceCtorEq]at h
    rename_i cells
    cases hf:loadFrom cells off i0.size true with
    | none=>rw[hf]at h;cases h
    | some v =>
     rw[hf]at h
     cases v<;>simp only[reduceCtorEq]at h
     rename_i cs
     exact⟨cs,by first|(rw[Xr rfl,hf];rfl)|(simp only[Xag,hf];rfl),(Xf h).symm⟩
 obtain⟨cs,h2,rfl⟩:=hl
 obtain⟨n,v,w',g',h3,h4,h5,h6,h7,h8⟩:=Zcj m ho ht hi (by simp[hag]) h1 h2
 refine⟨n,v,w',g',h3,h4,h5,h6,?_,h8⟩
 cases h7 with
 | agg vs _ hl h9 hc =>
  refine .agg vs _ (by simpa using hl) h9 (fun i u c hu hi=>?_)
  rw[Xam]at hi
  cases hci:cs[i]? with
  | none=>rw[hci]at hi;cases hi
  | some c0 =>
   rw[hci]at hi
   simp only[Xw,Xb]at hi
   subst hi
   exact .any _
theorem Zjj(m:Mem cx s.heap s.ep g w){x:Operand}{t:TypeId}{d:TypeDesc}{i0:TypeInfo}{y:Opd}(ho:o.op=.load t x)(ht:cx.P.underlying t=some d)(hi:cx.P.info? t=some i0)(hag:aggB d=false)(hsz:i0.size=1)
  (h1:SRel cx.num w cx.R g s.heap s.ep (a.eval x) (y.ev s.slots)) (h:sem cl (.load y i0.size (aggB d) .share) key s.slots s.heap s.ep=some out):Done cx s g a w o key out:=by
 simp only[sem]at h
 generalize y.ev s.slots=c1 at h h1
 generalize e1:a.eval x=v1 at h1
 have hs':aggB d=false->i0.size=1:=fun _=>hsz
 cases c1<;>simp only[reduceCtorEq]at h
 ·rename_i id i off
  cases hh:s.heap id with
  | none=>rw[hh]at h;cases h
  | some ob =>
   rw[hh]at h
   cases h1 with
   | ptr _ _ _ _ _ hu hv =>
    have hp:=hv ob hh
    cases ob with
    | box cells =>
     simp only at h
     split at h
     case isFalse=>cases h
     obtain⟨b,hg,he⟩:=hp
     obtain⟨b',cur,e',hg',hheap,hsize,hS,hN,hcs⟩:=m.objs id _ hh
     rw[hg]at hg'
     simp only[Value.pointer.injEq,Xb,Addr.mk.injEq,Xbv]at hg'
     subst hg'
     cases hl:loadFrom cells off i0.size (aggB d) with
     | none=>rw[hl]at h;cases h
     | some r =>
      rw[hl]at h
      obtain⟨hle,hr⟩:=Za3 hs' hl
      refine Zbm m ho ht hi hs' (e1.trans he) (cs:=cells.drop off) (fun c=>c) ?_ (by rw[map_id'];exact hr) (by simp;omega) h
      intro j c hj
      rw[Xaq]at hj
      have hlt:=(Xa.1 hj).1
      have hcur:cur[off+j]?=some (cur[off+j]'(by omega)):=Xz (by omega)
      obtain⟨h2,h3⟩:=hcs _ _ _ hcur hj
      exact⟨_,by rw[Zaf hheap];exact hcur,h2,h3⟩
    | arr sz' xs =>
     simp only at h
     obtain⟨b,n',c',hg,he⟩:=hp
     obtain⟨hcl,hN⟩:=m.objs id _ hh
     cases hx:xs[i]? with
     | none=>rw[hx]at h;cases h
     | some row =>
      rw[hx]at h
      simp only at h
      split at h
      case h_2=>cases h
      rename_i sz2 ys hro
      rcases hcl.open_own with ⟨_,h5⟩|⟨b',cap,cur,e',h5,hheap,hSb,_,_,_,hrow,hcells⟩
      ·rw[h5]at hx;simp at hx
      ·rw[hg]at h5
       simp only[Value.slice.injEq,Xb,Addr.mk.injEq,Xbv]at h5
       obtain⟨rfl,_⟩:=h5
       obtain⟨u,T,hu',hcl',hT⟩:=hcells i off _ (Zab.2 ⟨row,hx,hro⟩)
       have hcell:w.cell? ⟨b,i*sz'+off,none⟩=some u:=by rw[Zaf hheap];exact hu'
       refine Zbm m ho ht hi hs' (e1.trans he) (cs:=[.any]) (r:=.inn s.ep id i off) (fun _=>.inn s.ep id i off) ?_ (by rw[hag];rfl) (by simp[hsz]) h
       intro j c hj
       cases j with
       | succ j=>simp at hj
       | zero =>
        refine⟨u,hcell,hcl'.one,.inn _ _ _ _ _ hcl'.one hu (Xo _) (fun _ sz3 xs3 h3=>?_)⟩
        rw[hh]at h3
        simp only[Xb,AO.arr.injEq]at h3
        obtain⟨rfl,rfl⟩:=h3
        exact⟨b,n',c',hg,hN _ hSb,hcell⟩
    | map _ _=>simp only[reduceCtorEq]at h
 ·rename_i md row off
  split at h
  case isFalse=>cases h
  rename_i hok
  cases hl:loadFrom row off i0.size (aggB d) with
  | none=>rw[hl]at h;cases h
  | some r =>
   rw[hl]at h
   exact Zcj (cl:=cl) m ho ht hi hs' (by rw[e1];exact h1) (y:=.const (.bptr md row off)) (by simp only[sem,Opd.ev,hok,Xag,hl];exact h)
end
end Go.Proofs.YtgdfelbedghhnaaGreatDoor
namespace Go.Proofs.YtgdfelbedghhnaaGreatDoor
open Go Go.RowKit
set_option linter.unusedSimpArgs false
section
variable {num:Nat->Option FuncId} {w:World} {R:Nat->Prop} {g:Gh} {h:Nat->Option AO} {ep:Nat}
def CellsRel(num:Nat->Option FuncId)(w:World)(R:Nat->Prop)(g:Gh)(h:Nat->Option AO)(ep:Nat)(us:Array Value)(cs:List AV):Prop :=
 us.size=cs.length/\∀ (i:Nat) (u:Value) (c:AV),us[i]?=some u->cs[i]?=some c->u.oneCell'=true/\SRel num w R g h ep u c
theorem Zep{v:Value}{x:AV}{vs:List AV}(hr:SRel num w R g h ep v x)(hp:x.parts=some vs):CellsRel num w R g h ep v.cells vs:=by
 have one:x.parts=some [x]->(∀ us,v≠.agg us)->CellsRel num w R g h ep v.cells vs:=by
  intro hp' hna
  rw[hp']at hp
  obtain rfl:=Xf hp
  have hc:v.cells=#[v]:=by cases v<;>first|rfl|exact absurd rfl (hna _)
  rw[hc]
  refine⟨rfl,fun i u c hu hc=>?_⟩
  cases i with
  | zero =>
   simp at hu hc
   subst hu;subst hc
   exact⟨hr.one hp',hr⟩
  | succ i=>simp at hc
 cases hr with
 | any=>simp[AV.parts]at hp
 | tup=>simp[AV.parts]at hp
 | agg us cs hl h1 hc =>
  simp only[AV.parts,Xb]at hp
  subst hp
  exact⟨hl,fun i u c hu hi=>⟨h1 i u hu,hc i u c hu hi⟩⟩
 | bool=>exact one rfl (by simp)
 | int=>exact one rfl (by simp)
 | str=>exact one rfl (by simp)
 | nil=>exact one rfl (by simp)
 | sl _ _ _ _ h1=>exact one rfl (by rintro us rfl;simp[Value.oneCell']at h1)
 | ref _ _ h1=>exact one rfl (by rintro us rfl;simp[Value.oneCell']at h1)
 | view _ _ _ _ h1=>exact one rfl (by rintro us rfl;simp[Value.oneCell']at h1)
 | ptr _ _ _ _ h1=>exact one rfl (by rintro us rfl;simp[Value.oneCell']at h1)
 | bptr _ _ _ _ h1=>exact one rfl (by rintro us rfl;simp[Value.oneCell']at h1)
 | mapr _ _ h1=>exact one rfl (by rintro us rfl;simp[Value.oneCell']at h1)
 | inn _ _ _ _ _ h1=>exact one rfl (by rintro us rfl;simp[Value.oneCell']at h1)
 | inp _ _ _ _ _ _ _ h1=>exact one rfl (by rintro us rfl;simp[Value.oneCell']at h1)
 | ifs _ _ _ h1=>exact one rfl (by rintro us rfl;simp[Value.oneCell']at h1)
 | clo _ _ _ h1=>exact one rfl (by rintro us rfl;simp[Value.oneCell']at h1)
 | cut _ _ _ h1=>exact one rfl (by rintro us rfl;simp[Value.oneCell']at h1)
 | fn=>exact one rfl (by simp)
theorem CellsRel.agg{us:Array Value}{cs:List AV}(hc:CellsRel num w R g h ep us cs):SRel num w R g h ep (.agg us) (.agg cs):=by
 refine .agg us cs hc.1 (fun i v hv=>?_) (fun i v c hv hi=>(hc.2 i v c hv hi).2)
 have hlt:=(Xab.1 hv).1
 exact (hc.2 i v _ hv (Xd (by rw[<- hc.1];exact hlt))).1
theorem Zm3(vs:Array Value)(off:Nat)(us:Array Value):∀ i:Nat,(vs.zipIdx.foldl (fun cs (c,j)=>cs.setIfInBounds (off+j) c) us)[i]?=if off<=i/\i<off+vs.size/\i<us.size then vs[i-off]? else us[i]?:=by
 have key:∀ (l:List Value) (k:Nat) (us:Array Value) (i:Nat),((l.zipIdx k).foldl (fun cs (p:Value×Nat)=>cs.setIfInBounds (off+p.2) p.1) us)[i]?=if off+k<=i/\i<off+k+l.length/\i<us.size then l[i-(off+k)]? else us[i]?:=by
  intro l
  induction l with
  | nil=>intro k us i;simp;omega
  | cons v l ih =>
   intro k us i
   simp only[List.zipIdx_cons,Xbl]
   rw[ih]
   simp only[Array.size_setIfInBounds,Xaa,Array.getElem?_setIfInBounds]
   by_cases h1:i=off+k
   ·subst h1
    by_cases h2:off+k<us.size
    ·simp[h2]
     intro h3 _
     omega
    ·simp[h2]
   ·by_cases h2:off+(k+1)<=i/\i<off+(k+1)+l.length/\i<us.size
    ·rw[Xr h2,Xr ⟨by omega,by omega,h2.2.2⟩]
     rw[show i-(off+k)=(i-(off+(k+1)))+1 by omega]
     simp
    ·rw[Xu h2,Xu (by omega),Xu (by omega)]
 intro i
 rw[<- Array.foldl_toList]
 have:=key vs.toList 0 us i
 simpa using this
theorem Zeg(vs:Array Value)(off:Nat)(us:Array Value):(vs.zipIdx.foldl (fun cs (c,j)=>cs.setIfInBounds (off+j) c) us).size=us.size:=by
 have key:∀ (l:List (Value×Nat)) (us:Array Value),(l.foldl (fun cs (p:Value×Nat)=>cs.setIfInBounds (off+p.2) p.1) us).size=us.size:=by
  intro l
  induction l with
  | nil=>intro us;rfl
  | cons v l ih=>intro us;simp only[Xbl];rw[ih];simp
 rw[<- Array.foldl_toList]
 exact key _ _
theorem Zl4(cs vs:List AV)(off i:Nat)(hle:off+vs.length<=cs.length):(lay cs off vs)[i]?=if off<=i/\i<off+vs.length then vs[i-off]? else cs[i]?:=by
 unfold lay
 rw[Xa9]
 have hl:(List.take off cs).length=off:=by simp;omega
 rw[hl]
 by_cases h1:i<off
 ·rw[Xr h1,Xu (by omega),Xal,Xr h1]
 ·rw[Xu h1,Xa9]
  by_cases h2:i-off<vs.length
  ·rw[Xr h2,Xr (by omega)]
  ·rw[Xu h2,Xu (by omega),Xaq]
   congr 1
   omega
theorem Zfm(cs vs:List AV)(off:Nat)(hle:off+vs.length<=cs.length):(lay cs off vs).length=cs.length:=by
 unfold lay
 simp
 omega
theorem CellsRel.lay{us vs:Array Value}{cs ds:List AV}{off:Nat}(h1:CellsRel num w R g h ep us cs)(h2:CellsRel num w R g h ep vs ds)(hle:off+ds.length<=cs.length) :
  CellsRel num w R g h ep (vs.zipIdx.foldl (fun cs (c,j)=>cs.setIfInBounds (off+j) c) us) (lay cs off ds):=by
 refine⟨by rw[Zeg,Zfm _ _ _ hle,h1.1],fun i u c hu hc=>?_⟩
 rw[Zm3]at hu
 rw[Zl4 _ _ _ _ hle]at hc
 have hs1:=h1.1
 have hs2:=h2.1
 by_cases hin:off<=i/\i<off+ds.length
 ·rw[Xr (by omega)]at hu
  rw[Xr hin]at hc
  exact h2.2 _ _ _ hu hc
 ·rw[Xu (by omega)]at hu
  rw[Xu hin]at hc
  exact h1.2 _ _ _ hu hc
end
section
variable {cx:Cx} {s:St} {g:Gh} {a:Act} {w:World} {o:Oper} {key:Nat} {out:Out} {cl:Callee}
inductive PartsRel (cx:Cx) (s:St) (g:Gh) (a:Act) (w:World) (place:Nat->Option (Nat×Nat)):List (Nat×Value)->List (Nat×Nat×Opd)->Prop
 | nil:PartsRel cx s g a w place [] []
 | cons (i off n:Nat) (v:Value) (y:Opd) (ps:List (Nat×Value)) (qs:List (Nat×Nat×Opd)) (hp:place i=some (off,n)) (hv:SRel cx.num w cx.R g s.heap s.ep v (y.ev s.slots)) (h:PartsRel cx s g a w place ps qs) :
   PartsRel cx s g a w place ((i,v)::ps) ((off,n,y)::qs)
theorem Zq7{place:Nat->Option (Nat×Nat)}{ps:List (Nat×Value)}{qs:List (Nat×Nat×Opd)}(hp:PartsRel cx s g a w place ps qs):∀ {us:Array Value} {cs ds:List AV},CellsRel cx.num w cx.R g s.heap s.ep us cs ->
  fillParts s.slots cs qs=some ds->∃ vs,Instr.fill place us ps=some vs/\CellsRel cx.num w cx.R g s.heap s.ep vs ds:=by
 induction hp with
 | nil=>intro us cs ds hc h;simp only[fillParts,Xb]at h;subst h;exact⟨us,rfl,hc⟩
 | cons i off n v y ps qs hp hv _ ih =>
  intro us cs ds hc h
  simp only[fillParts]at h
  cases hq:(y.ev s.slots).parts with
  | none=>rw[hq]at h;cases h
  | some vs =>
   rw[hq]at h
   simp only at h
   split at h
   case isFalse=>cases h
   rename_i hle
   obtain⟨hn,hle⟩:=hle
   have hvr:=Zep hv hq
   have hsz1:=hvr.1
   have hsz2:=hc.1
   obtain⟨rs,h1,h2⟩:=ih (hc.lay hvr (off:=off) (by omega)) h
   refine⟨rs,?_,h2⟩
   simp only[Instr.fill,hp]
   rw[Xu (by simp;omega)]
   exact h1
theorem Zhv{P:Program}{w:World}(l:List Field)(hl:∀ f∈l,∃ i0,P.info? f.type=some i0) :
  (l.mapM fun f=>do pure (f.offset,<- sizeOf f.type):Sem (List (Nat×Nat))).run P w=.ok (l.map fun f=>(f.offset,((P.info? f.type).map (·.size)).getD 0)) w:=by
 induction l with
 | nil=>rfl
 | cons f l ih =>
  obtain⟨i0,hi⟩:=hl f (Xi ..)
  have ih':=ih fun f hf=>hl f (Xh _ hf)
  simp only[List.mapM_cons,Sem.run_bind,Zav hi,Result.andThen_ok,Sem.run_pure,ih',Xx,hi,Xw,Xbb]
theorem Znn(m:Mem cx s.heap s.ep g w){ps:Array (Nat×Operand)}{t:TypeId}{fs:Array Field}{i0:TypeInfo}{z:Value}{zs:List AV}{qs:List (Nat×Nat×Opd)}(ho:o.op=.build t ps)(ht:cx.P.underlying t=some (.struct fs))
  (hi:cx.P.info? t=some i0) (hz:i0.zero=some z) (hzr:CellsRel cx.num w cx.R g s.heap s.ep z.cells zs) (hfs:∀ f∈fs.toList,∃ i1,cx.P.info? f.type=some i1)
  (hps:PartsRel cx s g a w (fun i=>(fs[i]?).map fun f=>(f.offset,((cx.P.info? f.type).map (·.size)).getD 0)) (ps.toList.map fun p=>(p.1,a.eval p.2)) qs)
  (h:sem cl (.build zs qs) key s.slots s.heap s.ep=some out):Done cx s g a w o key out:=by
 simp only[sem]at h
 cases hf:fillParts s.slots zs qs with
 | none=>rw[hf]at h;cases h
 | some cs =>
  rw[hf]at h
  obtain⟨vs,h1,h2⟩:=Zq7 hps hzr hf
  refine Zai m (v:=.agg vs) ?_ h2.agg h
  have hm:=Zhv (P:=cx.P) (w:=w) fs.toList hfs
  have hm':(fs.mapM fun f=>do pure (f.offset,<- sizeOf f.type):Sem (Array (Nat×Nat))).run cx.P w=.ok (fs.map fun f=>(f.offset,((cx.P.info? f.type).map (·.size)).getD 0)) w:=by
   rw[Array.mapM_eq_mapM_toList,Sem.run_map,hm]
   simp only[Result.andThen_ok]
   congr 1
   apply Xcs
   simp
  have hpl:(fun i:Nat=>(fs.map fun f=>(f.offset,((cx.P.info? f.type).map (fun j=>j.size)).getD 0))[i]?)=fun i:Nat=>(fs[i]?).map fun f=>(f.offset,((cx.P.info? f.type).map (fun j=>j.size)).getD 0):=by
   funext i
   simp
  simp only[execOp,ho,Instr.build,Sem.run_bind,zeroValue,typeInfo,run_program,Result.andThen_ok,hi,hz,Sem.run_pure,run_underlying ht,hm']
  simp only[hpl,Array.toList_map,h1]
  rfl
/-! ### Equality of structs of plain fields -/
def szT(P:Program)(t:TypeId):Nat:=((P.info? t).map (·.size)).getD 0
def shapeFs(F:TypeId->Option (List CK))(P:Program):Nat->List Field->Option (List CK)
 | _,[]=>some []
 | off,f::fs => if f.name != "_" && f.offset == off && (P.info? f.type).isSome then match F f.type with
   | some a=>if a.length=szT P f.type/\a.length≠0 then match shapeFs F P (off+a.length) fs with
    | some b=>some (a++b)
    | none=>none
    else none
   | none=>none
  else none
def shapeTy(P:Program):Nat->TypeId->Option (List CK)
 | 0,_=>none
 | d+1,t=>match P.underlying t with
  | some (.int _)=>some [.i]
  | some .string=>some [.s]
  | some .bool=>some [.b]
  | some (.struct fs)=>if P.stoodInHeld t then none else shapeFs (shapeTy P d) P 0 fs.toList
  | _=>none
def ValRel(num:Nat->Option FuncId)(w:World)(R:Nat->Prop)(g:Gh)(h:Nat->Option AO)(ep:Nat)(agg:Bool)(v:Value)(cs:List AV):Prop :=
 if agg then ∃ us,v=.agg us/\CellsRel num w R g h ep us cs else ∃ c,cs=[c]/\SRel num w R g h ep v c
theorem Zdv:∀ {ks:List CK} {cs ds:List AV} {r:Bool},eqCells ks cs ds=some r->ks.length=cs.length/\ks.length=ds.length
 | [],[],[],_,_=>⟨rfl,rfl⟩
 | k::ks,c::cs,d::ds,r,h=>by
  simp only[eqCells]at h
  cases hc:eqCell k c d with
  | none=>rw[hc]at h;cases h
  | some b =>
   rw[hc]at h
   cases b with
   | true=>have:=Zdv h;simp[this.1,this.2];omega
   | false =>
    simp only at h
    split at h
    ·rename_i hl;simp only[Xaa];omega
    ·cases h
 | [],[],_::_,_,h=>by cases h
 | [],_::_,_,_,h=>by cases h
 | _::_,[],_,_,h=>by cases h
 | _::_,_::_,[],_,h=>by cases h
theorem Zdu:∀ {ks ls:List CK} {cs ds:List AV} {r:Bool},eqCells (ks++ls) cs ds=some r ->
  (∃ b,eqCells ks (cs.take ks.length) (ds.take ks.length)=some b/\(if b then eqCells ls (cs.drop ks.length) (ds.drop ks.length)=some r else r=false))
 | [],ls,cs,ds,r,h=>⟨true,by simp[eqCells],by simpa using h⟩
 | k::ks,ls,cs,ds,r,h=>by
  cases cs with
  | nil=>simp[eqCells]at h
  | cons c cs=>cases ds with
   | nil=>simp[eqCells]at h
   | cons d ds =>
    simp only[Xa1,eqCells,Xaa,List.take_succ_cons,List.drop_succ_cons]at h ⊢
    cases hc:eqCell k c d with
    | none=>rw[hc]at h;cases h
    | some b =>
     rw[hc]at h
     cases b with
     | true=>exact Zdu h
     | false =>
      simp only at h ⊢
      split at h
      ·rename_i hl
       simp only[Xs]at hl
       refine⟨false,?_,by simpa using h.symm⟩
       rw[Xr]
       simp
       omega
      ·cases h
theorem Zna{P:Program}{w:World}{t:TypeId}{d:TypeDesc}{i0:TypeInfo}(ht:P.underlying t=some d)(hi:P.info? t=some i0)(us:Array Value)(off:Nat)(u:Value)(hu:aggB d=false->us[off]?=some u) :
  (part t us off).run P w=.ok (if aggB d then .agg (us.extract off (off+i0.size)) else u) w:=by
 cases hd:aggB d with
 | true=>simp[part,Zet ht,hd,Zav hi]
 | false=>simp[part,Zet ht,hd,hu hd]
theorem CellsRel.cut{num:Nat->Option FuncId}{w:World}{R:Nat->Prop}{g:Gh}{h:Nat->Option AO}{ep:Nat}{us:Array Value}{cs:List AV}(hc:CellsRel num w R g h ep us cs)(off n:Nat)(hle:off+n<=cs.length) :
  CellsRel num w R g h ep (us.extract off (off+n)) ((cs.drop off).take n):=by
 have hs:=hc.1
 refine⟨by simp;omega,fun i u c hu hi=>?_⟩
 rw[Xal]at hi
 split at hi
 case isFalse=>cases hi
 rename_i hlt
 rw[Xaq]at hi
 rw[Array.getElem?_extract]at hu
 split at hu
 ·exact hc.2 _ _ _ hu hi
 ·cases hu
section
variable {P:Program} {num:Nat->Option FuncId} {w:World} {R:Nat->Prop} {g:Gh} {h:Nat->Option AO} {ep:Nat}
theorem Zjd{d:Nat}{t:TypeId}{ks:List CK}(hs:shapeTy P d t=some ks):∃ td,P.underlying t=some td/\(aggB td=false->ks.length=1):=by
 cases d with
 | zero=>cases hs
 | succ d =>
  simp only[shapeTy]at hs
  cases ht:P.underlying t with
  | none=>rw[ht]at hs;cases hs
  | some td =>
   rw[ht]at hs
   refine⟨td,rfl,fun hf=>?_⟩
   cases td<;>simp only[reduceCtorEq,Xb]at hs<;>first|(subst hs;rfl)|simp[aggB]at hf
theorem Zfy(d:Nat)(F:TypeId->Option (List CK)) (hF:∀ t ks,F t=some ks->(∃ td,P.underlying t=some td/\(aggB td=false->ks.length=1))/\∀ td,P.underlying t=some td->∀ (u v:Value) (cs ds:List AV) (b:Bool),
   ValRel num w R g h ep (aggB td) u cs->ValRel num w R g h ep (aggB td) v ds->eqCells ks cs ds=some b->(Op.equalIn d t u v).run P w=.ok b w)
  (xs ys:Array Value) (cs ds:List AV) (hx:CellsRel num w R g h ep xs cs) (hy:CellsRel num w R g h ep ys ds) :
  ∀ (fs:List Field) (off:Nat) (ks:List CK) (b:Bool),shapeFs F P off fs=some ks->eqCells ks (cs.drop off) (ds.drop off)=some b->(Op.eqFields d xs ys fs).run P w=.ok b w
 | [],off,ks,b,hs,he=>by
  simp only[shapeFs,Xb]at hs
  subst hs
  cases hc:cs.drop off<;>cases hd:ds.drop off<;>rw[hc,hd]at he<;>simp[eqCells]at he
  subst he
  simp[Op.eqFields]
 | f::fs,off,ks,b,hs,he=>by
  simp only[shapeFs]at hs
  split at hs
  case isFalse=>cases hs
  rename_i hcond
  simp only[Xc,bne_iff_ne,ne_eq,Xan]at hcond
  obtain⟨⟨hname,hoff⟩,hinfo⟩:=hcond
  obtain⟨i0,hi⟩:=Option.isSome_iff_exists.1 hinfo
  cases hfk:F f.type with
  | none=>rw[hfk]at hs;cases hs
  | some ka =>
   rw[hfk]at hs
   simp only at hs
   split at hs
   case isFalse=>cases hs
   rename_i hka
   obtain⟨hka,hne⟩:=hka
   have hi0:i0.size=ka.length:=by rw[hka];simp[szT,hi]
   cases hrest:shapeFs F P (off+ka.length) fs with
   | none=>rw[hrest]at hs;cases hs
   | some kb =>
    rw[hrest]at hs
    simp only[Xb]at hs
    subst hs
    obtain⟨⟨td,htd,hone⟩,hrun⟩:=hF f.type ka hfk
    have hlen:=Zdv he
    simp only[Xs,Xb3]at hlen
    obtain⟨b0,hb0,hbr⟩:=Zdu he
    have hpx:∀ u,(aggB td=false->xs[off]?=some u)->(part f.type xs f.offset).run P w=.ok (if aggB td then .agg (xs.extract off (off+i0.size)) else u) w:=fun u hu=>by rw[hoff];exact Zna htd hi xs off u hu
    have hpy:∀ u,(aggB td=false->ys[off]?=some u)->(part f.type ys f.offset).run P w=.ok (if aggB td then .agg (ys.extract off (off+i0.size)) else u) w:=fun u hu=>by rw[hoff];exact Zna htd hi ys off u hu
    have hsx:=hx.1
    have hsy:=hy.1
    have hpiece:∃ u v,(part f.type xs f.offset).run P w=.ok u w/\(part f.type ys f.offset).run P w=.ok v w/\ValRel num w R g h ep (aggB td) u ((cs.drop off).take ka.length)/\ValRel num w R g h ep (aggB td) v ((ds.drop off).take ka.length):=by
     cases hag:aggB td with
     | true =>
      have h1:=hpx undef (fun hf=>by rw[hag]at hf;cases hf)
      have h2:=hpy undef (fun hf=>by rw[hag]at hf;cases hf)
      rw[hag]at h1 h2
      rw[hi0]at h1 h2
      exact⟨_,_,h1,h2,⟨_,rfl,hx.cut off ka.length (by omega)⟩,⟨_,rfl,hy.cut off ka.length (by omega)⟩⟩
     | false =>
      have hl1:=hone hag
      have hxo:xs[off]?=some (xs[off]'(by omega)):=Xz (by omega)
      have hyo:ys[off]?=some (ys[off]'(by omega)):=Xz (by omega)
      have h1:=hpx _ (fun _=>hxo)
      have h2:=hpy _ (fun _=>hyo)
      rw[hag]at h1 h2
      have hco:cs[off]?=some (cs[off]'(by omega)):=Xd (by omega)
      have hdo:ds[off]?=some (ds[off]'(by omega)):=Xd (by omega)
      refine⟨_,_,h1,h2,⟨cs[off]'(by omega),?_,(hx.2 _ _ _ hxo hco).2⟩,⟨ds[off]'(by omega),?_,(hy.2 _ _ _ hyo hdo).2⟩⟩
      ·rw[hl1,Xah (by omega)];rfl
      ·rw[hl1,Xah (by omega)];rfl
    obtain⟨u,v,hu,hv,hur,hvr⟩:=hpiece
    have heq:=hrun td htd u v _ _ b0 hur hvr hb0
    simp only[Op.eqFields,hname,not_false_eq_true,ne_eq,Xag,Sem.run_bind,hu,hv,heq,Result.andThen_ok]
    cases b0 with
    | false=>simp only[Xq,Xaj]at hbr;subst hbr;simp
    | true =>
     simp only[Xag,List.drop_drop]at hbr
     simp only[Xbz,Xq,Xaj]
     exact Zfy d F hF xs ys cs ds hx hy fs (off+ka.length) kb b hrest hbr
theorem Zkc:∀ (d k:Nat) (t:TypeId) (ks:List CK),shapeTy P d t=some ks->∀ td,P.underlying t=some td->∀ (u v:Value) (cs ds:List AV) (b:Bool),
   ValRel num w R g h ep (aggB td) u cs->ValRel num w R g h ep (aggB td) v ds->eqCells ks cs ds=some b->(Op.equalIn (d+k) t u v).run P w=.ok b w
 | 0,_,_,_,hs=>by cases hs
 | d+1,k,t,ks,hs=>by
  intro td htd u v cs ds b hu hv he
  rw[show d+1+k=(d+k)+1 by omega]
  simp only[shapeTy,htd]at hs
  have scalar:∀ kk:CK,some [kk]=some ks->aggB td=false->∃ c c',cs=[c]/\ds=[c']/\SRel num w R g h ep u c/\SRel num w R g h ep v c'/\eqCell kk c c'=some b:=by
   intro kk hkk hag
   obtain rfl:=Xf hkk
   rw[hag]at hu hv
   obtain⟨c,rfl,hc⟩:=hu
   obtain⟨c',rfl,hc'⟩:=hv
   refine⟨c,c',rfl,rfl,hc,hc',?_⟩
   simp only[eqCells]at he
   cases hx:eqCell kk c c' with
   | none=>rw[hx]at he;cases he
   | some b0=>rw[hx]at he;cases b0<;>simpa [eqCells] using he
  cases td<;>simp only[reduceCtorEq]at hs
  ·obtain⟨c,c',rfl,rfl,hc,hc',he'⟩:=scalar _ hs rfl
   cases c<;>cases c'<;>simp only[eqCell,reduceCtorEq]at he'
   cases hc;cases hc'
   simp only[Xb]at he'
   rw[run_equalIn_bool' w _ t _ _ htd,he']
  ·obtain⟨c,c',rfl,rfl,hc,hc',he'⟩:=scalar _ hs rfl
   cases c<;>cases c'<;>simp only[eqCell,reduceCtorEq]at he'
   cases hc;cases hc'
   split at he'
   ·simp only[Xb]at he'
    rename_i hkk
    subst hkk
    rw[run_equalIn_int w _ t _ _ _ _ htd,he']
   ·cases he'
  ·obtain⟨c,c',rfl,rfl,hc,hc',he'⟩:=scalar _ hs rfl
   cases c<;>cases c'<;>simp only[eqCell,reduceCtorEq]at he'
   cases hc;cases hc'
   simp only[Xb,sEq]at he'
   rw[run_equalIn_string w _ t _ _ htd,he']
  ·rename_i fs
   split at hs
   ·cases hs
   rename_i hst
   obtain⟨xs,rfl,hx⟩:=hu
   obtain⟨ys,rfl,hy⟩:=hv
   have hfo:P.fieldsOf t=fs:=by simp[Program.fieldsOf,htd]
   rw[run_equalIn_agg w (d+k) t xs ys (by rw[hfo];exact htd) (by simpa using hst),hfo]
   refine Zfy (d+k) (shapeTy P d) ?_ xs ys cs ds hx hy fs.toList 0 ks b hs (by simpa using he)
   intro t' ks' hs'
   exact⟨Zjd hs',fun td' htd' u v cs ds b hu hv he=>Zkc d k t' ks' hs' td' htd' u v cs ds b hu hv he⟩
end
theorem Zq1(m:Mem cx s.heap s.ep g w){x1 x2:Operand}{t t':TypeId}{fs:Array Field}{op:BinOp}{neg:Bool}{ks:List CK}{y1 y2:Opd}(ho:o.op=.binOp op t x1 x2 t')(hop:op=if neg then .neq else .eql)
  (ht:cx.P.underlying t=some (.struct fs)) (hg:cx.P.eqGuardType cx.P.depth t=false) (hs:shapeTy cx.P 10 t=some ks) (h1:SRel cx.num w cx.R g s.heap s.ep (a.eval x1) (y1.ev s.slots)) (h2:SRel cx.num w cx.R g s.heap s.ep (a.eval x2) (y2.ev s.slots))
  (h:sem cl (.eqs neg ks y1 y2) key s.slots s.heap s.ep=some out):Done cx s g a w o key out:=by
 simp only[sem]at h
 generalize y1.ev s.slots=c1 at h h1
 generalize y2.ev s.slots=c2 at h h2
 generalize e1:a.eval x1=v1 at h1
 generalize e2:a.eval x2=v2 at h2
 cases c1<;>cases c2<;>simp only[reduceCtorEq]at h
 rename_i cs ds
 cases he:eqCells ks cs ds with
 | none=>rw[he]at h;cases h
 | some b =>
  rw[he]at h
  cases h1 with
  | agg xs _ hl1 ho1 hc1=>cases h2 with
   | agg ys _ hl2 ho2 hc2 =>
    have hrun:=Zkc (P:=cx.P) (num:=cx.num) (w:=w) (R:=cx.R) (g:=g) (h:=s.heap) (ep:=s.ep) 10 9990 t ks hs _ ht (.agg xs) (.agg ys) cs ds b
     ⟨xs,rfl,hl1,fun i u c hu hi=>⟨ho1 i u hu,hc1 i u c hu hi⟩⟩ ⟨ys,rfl,hl2,fun i u c hu hi=>⟨ho2 i u hu,hc2 i u c hu hi⟩⟩ he
    have hrun':(Op.equalIn 10000 t (.agg xs) (.agg ys)).run cx.P w=.ok b w:=hrun
    refine Zai m ?_ (.bool _) h
    subst hop
    cases neg
    ·simp[execOp,ho,e1,e2,run_eqGuard_agg w _ t x1 x2 xs ys hg,run_eql_struct,hrun']
    ·simp[execOp,ho,e1,e2,run_eqGuard_agg w _ t x1 x2 xs ys hg,run_neq_struct,hrun']
end
end Go.Proofs.YtgdfelbedghhnaaGreatDoor
namespace Go.Proofs.YtgdfelbedghhnaaGreatDoor
open Go Go.RowKit
set_option linter.unusedSimpArgs false
/-! ### The heap's writes, as a function -/
theorem Ze0(h:Nat->Option AO)(is:List Nat):∀ id,wsOn h (kill is) id=if id∈is then none else h id:=by
 induction is generalizing h with
 | nil=>intro id;simp[kill,wsOn]
 | cons i is ih =>
  intro id
  simp only[kill,Xx,wsOn]at ih ⊢
  rw[ih]
  simp only[upd,Xl]
  by_cases h1:id∈is
  ·simp[h1]
  ·by_cases h2:id=i<;>simp[h1,h2]
structure Pushed(w w1:World)(ob:Obj):Prop where
 heap:w1.heap=w.heap.push ob
 os:w1.os=w.os
 tape:w1.tape=w.tape
 output:w1.output=w.output
theorem Pushed.new{w w1:World}{ob:Obj}(p:Pushed w w1 ob):w1.heap[w.heap.size]?=some ob:=by rw[p.heap];simp
theorem Pushed.old{w w1:World}{ob:Obj}(p:Pushed w w1 ob){b:Nat}(h:b<w.heap.size):w1.heap[b]?=w.heap[b]?:=by
 rw[p.heap,Array.getElem?_push,Xu (by omega)]
theorem Pushed.size{w w1:World}{ob:Obj}(p:Pushed w w1 ob):w1.heap.size=w.heap.size+1:=by rw[p.heap];simp
theorem Pushed.drewAlloc(w:World)(ob:Obj):Pushed w (w.drew.alloc ob) ob:=⟨rfl,rfl,rfl,rfl⟩
theorem Pushed.alloc(w:World)(ob:Obj):Pushed w (w.alloc ob) ob:=⟨rfl,rfl,rfl,rfl⟩
def newGh(g:Gh)(w:World)(key:Nat)(v:Value)(F:Nat->Prop)(arr:Bool):Gh :=
 ⟨upd g.v key v,upd g.fp key F,g.I,fun b=>g.N b\/(arr=true/\b=w.heap.size),fun id=>g.used id\/id=key⟩
theorem Zh3{cx:Cx}{h:Nat->Option AO}{ep ep':Nat}{g:Gh}{w w1:World}(m:Mem cx h ep g w){key:Nat}(hk:¬ g.used key){is:List Nat}(his:∀ i∈is,∃ o,h i=some o){o:AO}{v:Value}{F:Nat->Prop}{ob:Obj}{arr:Bool}
  (p:Pushed w w1 ob) (hep:ep<=ep') (hF:∀ b,F b->b=w.heap.size\/∃ i oi,i∈is/\h i=some oi/\g.fp i b) :
  Touch cx (fun id=>id=key\/id∈is) h ep g w (fun id=>if id∈is then none else if id=key then some o else h id) ep' (newGh g w key v F arr) w1:=by
 have hkey:key ∉ is:=fun hm=>by obtain⟨o',ho'⟩:=his key hm;exact hk (m.used key o' ho')
 refine⟨p.os,p.tape,p.output,by rw[p.size];omega,hep,?_,?_,fun id h=>.inl h,?_,?_,?_,?_,fun _ h=>h,fun _ h=>.inl h,fun b hb=>.inl (m.I_N b hb),fun _ h=>.inl h,?_,?_⟩
 ·intro id hT
  have h1:id≠key:=fun e=>hT (.inl e)
  have h2:id ∉ is:=fun e=>hT (.inr e)
  simp[h1,h2,newGh,upd]
 ·intro b hb _
  exact p.old hb
 ·intro id o' hT ho
  by_cases h2:id∈is
  ·simp[h2]at ho
  ·exact .inr (hT.resolve_right h2)
 ·intro id o' hT hu ho
  by_cases h2:id∈is
  ·simp[h2]at ho
  ·exact absurd (hT.resolve_right h2 ▸ hu) hk
 ·intro id o' b hT ho hf
  by_cases h2:id∈is
  ·simp[h2]at ho
  ·have he:=hT.resolve_right h2
   subst he
   have hf':F b:=by simpa [newGh,upd] using hf
   rcases hF b hf' with h3|⟨i,oi,hi,hoi,hfi⟩
   ·exact⟨.inl (by omega),fun hI=>by have:=m.I_lt b hI;omega⟩
   ·exact⟨.inr ⟨i,oi,.inr hi,hoi,hfi⟩,(m.mine i oi b hoi hfi).2⟩
 ·intro id id' o' o'' b hT hT' ho ho' _ _
  have h2:id ∉ is:=fun e=>by simp[e]at ho
  have h3:id' ∉ is:=fun e=>by simp[e]at ho'
  exact (hT.resolve_right h2).trans (hT'.resolve_right h3).symm
 ·intro b hb
  rcases hb with hb|⟨_,hb⟩
  ·exact .inl hb
  ·exact .inr ⟨by omega,by rw[p.size];omega⟩
 ·intro _ b hb
  exact p.old (m.N_lt b hb)
section
variable {cx:Cx} {s:St} {g:Gh} {a:Act} {w:World} {o:Oper} {key:Nat} {out:Out} {cl:Callee}
theorem Zgx(m:Mem cx s.heap s.ep g w)(hk:¬ g.used key){us:Array Value}{cs:List AV}{e:TypeId}(hc:CellsRel cx.num w cx.R g s.heap s.ep us cs)
  (hrun:(execOp a.eval o).run cx.P w=.ok (.value (.pointer (some ⟨w.heap.size,0,none⟩))) (w.alloc (.cells us e))) (h:out=⟨.ptr key 0 0,[(key,some (.box cs))],false⟩):Done cx s g a w o key out:=by
 subst h
 have hh:wsOn s.heap [(key,some (.box cs))]=fun id=>if id∈([]:List Nat) then none else if id=key then some (.box cs) else s.heap id:=by
  funext id;simp[wsOn,upd]
 have t:=Zh3 (ep':=s.ep) m hk (is:=[]) (by simp) (o:=.box cs) (v:=.pointer (some ⟨w.heap.size,0,none⟩)) (F:=fun b=>b=w.heap.size) (arr:=false) (Pushed.alloc w (.cells us e)) (Xo _) (fun b hb=>.inl hb)
 have k:=t.keeps m
 refine⟨_,_,_,newGh g w key (.pointer (some ⟨w.heap.size,0,none⟩)) (fun b=>b=w.heap.size) false,hrun,.inl rfl,?_,?_,?_,?_⟩
 ·simp only[hh];exact k
 ·simp only[hh]
  refine t.mem m (fun id o' hT ho=>?_)
  have he:id=key:=by simpa using hT
  subst he
  simp at ho
  subst ho
  simp only[newGh,upd,Xag]
  refine⟨w.heap.size,us,e,rfl,(Pushed.alloc w _).new,hc.1,fun x=>Iff.rfl,?_,fun i u c hu hi=>⟨(hc.2 i u c hu hi).1,(hc.2 i u c hu hi).2.mono k⟩⟩
  rintro (hN|⟨h0,_⟩)
  ·have:=m.N_lt _ hN;omega
  ·cases h0
 ·simp only[hh]
  refine .ptr _ _ _ _ rfl (.inr rfl) (fun o' ho=>?_)
  simp at ho
  subst ho
  simp only[newGh,upd,Xag]
  exact⟨_,rfl,rfl⟩
 ·intro id hu
  rcases hu with hu|rfl
  ·exact .inl hu
  ·exact .inr ⟨Xo _,by omega⟩
theorem Znl(m:Mem cx s.heap s.ep g w)(hk:¬ g.used key){t:TypeId}{i0:TypeInfo}{z:Value}{zs:List AV}(ho:o.op=.alloc t)(hi:cx.P.info? t=some i0)(hz:i0.zero=some z)(hzr:CellsRel cx.num w cx.R g s.heap s.ep z.cells zs)
  (h:sem cl (.alloc zs) key s.slots s.heap s.ep=some out):Done cx s g a w o key out:=by
 simp only[sem,Xb]at h
 refine Zgx m hk hzr (e:=t) ?_ h.symm
 simp[execOp,ho,Instr.alloc,zeroValue,typeInfo,hi,hz,newVar,newRow]
theorem Zq0(m:Mem cx s.heap s.ep g w)(hk:¬ g.used key){t:TypeId}{x:Operand}{y:Opd}(ho:o.op=.box t x)(h1:SRel cx.num w cx.R g s.heap s.ep (a.eval x) (y.ev s.slots))
  (h:sem cl (.box y) key s.slots s.heap s.ep=some out):Done cx s g a w o key out:=by
 simp only[sem]at h
 cases hp:(y.ev s.slots).parts with
 | none=>rw[hp]at h;cases h
 | some vs =>
  rw[hp]at h
  simp only[Xb]at h
  refine Zgx m hk (Zep h1 hp) (e:=t) ?_ h.symm
  simp[execOp,ho,Instr.box,newVar,newRow]
/-! ### Arrays -/
def refId:AV->List Nat
 | .ref id=>[id]
 | _=>[]
def CellIn(h:Nat->Option AO)(g:Gh)(w:World)(u:Value)(c:AV):Option Nat->Prop
 | some id=>∃ sz xs,h id=some (.arr sz xs)/\c=.sl .own sz xs/\u=g.v id
 | none=>Cl w g.I u c (fun _=>False)
theorem Zlh{num:Nat->Option FuncId}{w:World}{R:Nat->Prop}{g:Gh}{h:Nat->Option AO}{ep:Nat}{u:Value}{x c:AV}{is:List Nat}(hr:SRel num w R g h ep u x)(ha:absorb1 h x=some (c,is)) :
  is=refId x/\CellIn h g w u c (refId x).head?:=by
 cases x<;>simp only[absorb1,reduceCtorEq,Xb,Xk]at ha
 ·obtain⟨rfl,rfl⟩:=ha;cases hr;exact⟨rfl,.bool _ _ (fun _ h=>h)⟩
 ·obtain⟨rfl,rfl⟩:=ha;cases hr;exact⟨rfl,.int _ _ _ (fun _ h=>h)⟩
 ·obtain⟨rfl,rfl⟩:=ha;cases hr;exact⟨rfl,.str _ _ (fun _ h=>h)⟩
 ·rename_i md sz xs
  cases md with
  | own=>cases xs with
   | nil =>
    simp only[Xb,Xk]at ha
    obtain⟨rfl,rfl⟩:=ha
    cases hr with
    | nil=>exact⟨rfl,.nil _ _ (fun _ h=>h)⟩
    | sl _ _ _ _ _ _ _ hown=>exact absurd rfl hown
   | cons _ _=>simp at ha
  | imm =>
   have hb:c=.sl .imm sz xs/\is=[]:=by cases xs<;>simp_all
   obtain⟨rfl,rfl⟩:=hb
   cases hr with
   | sl _ _ _ _ _ hm=>exact⟨rfl,.imm _ _ _ _ (hm rfl) (fun _ h=>h)⟩
  | bor=>cases xs<;>simp at ha
  | snap e=>cases xs<;>simp at ha
 ·rename_i id
  cases hh:h id with
  | none=>rw[hh]at ha;cases ha
  | some ob =>
   rw[hh]at ha
   cases ob<;>simp only[reduceCtorEq,Xb,Xk]at ha
   obtain⟨rfl,rfl⟩:=ha
   cases hr with
   | ref _ _ _ _ hv=>exact⟨rfl,_,_,hh,rfl,hv _ hh⟩
theorem Zdj{num:Nat->Option FuncId}{w:World}{R:Nat->Prop}{g:Gh}{h:Nat->Option AO}{ep:Nat}:∀ {vs cs:List AV} {is:List Nat},absorb h vs=some (cs,is) ->
  cs.length=vs.length/\is=vs.flatMap refId/\∀ (j:Nat) (u:Value) (x c:AV),vs[j]?=some x->cs[j]?=some c->SRel num w R g h ep u x->CellIn h g w u c (refId x).head?
 | [],cs,is,ha=>by
  simp only[absorb,Xb,Xk]at ha
  obtain⟨rfl,rfl⟩:=ha
  exact⟨rfl,rfl,fun j u x c hx=>by simp at hx⟩
 | x::vs,cs,is,ha=>by
  simp only[absorb]at ha
  cases h1:absorb1 h x with
  | none=>rw[h1]at ha;cases ha
  | some p =>
   obtain⟨d,i⟩:=p
   rw[h1]at ha
   cases h2:absorb h vs with
   | none=>rw[h2]at ha;cases ha
   | some q =>
    obtain⟨ds,js⟩:=q
    rw[h2]at ha
    simp only[Xb,Xk]at ha
    obtain⟨rfl,rfl⟩:=ha
    obtain⟨hl,hj,hc⟩:=Zdj (num:=num) (w:=w) (R:=R) (g:=g) (ep:=ep) h2
    have hi:i=refId x:=by
     cases x<;>simp only[absorb1,reduceCtorEq,Xb,Xk]at h1<;>try (obtain⟨_,rfl⟩:=h1;rfl)
     ·rename_i md sz xs
      cases md<;>cases xs<;>simp_all[refId]
     ·rename_i id
      cases hh:h id with
      | none=>rw[hh]at h1;cases h1
      | some ob =>
       rw[hh]at h1
       cases ob<;>simp only[reduceCtorEq,Xb,Xk]at h1
       exact h1.2.symm
    refine⟨by simp[hl],by rw[Xai,hi,hj],fun j u y c hy hcj hr=>?_⟩
    cases j with
    | zero =>
     simp only[Xm,Xb]at hy hcj
     subst hy;subst hcj
     exact (Zlh hr h1).2
    | succ j=>exact hc j u y c (by simpa using hy) (by simpa using hcj) hr
theorem Za6:∀ {is:List Nat},distinct is=true->is.Nodup
 | [],_=>List.nodup_nil
 | i::is,h=>by
  simp only[distinct,Xc,Xv,Xch,Xa6]at h
  exact List.nodup_cons.2 ⟨h.1,Za6 h.2⟩
theorem Zm2:∀ {vs:List AV},(vs.flatMap refId).Nodup->∀ {j j' id:Nat} {x y:AV},vs[j]?=some x->vs[j']?=some y->id∈refId x->id∈refId y->j=j'
 | [],_,j,_,_,_,_,hx,_,_,_=>by simp at hx
 | v::vs,hn,j,j',id,x,y,hx,hy,hix,hiy=>by
  rw[Xai,Xby]at hn
  obtain⟨_,h2,h3⟩:=hn
  cases j with
  | zero=>cases j' with
   | zero=>rfl
   | succ j' =>
    simp only[Xm,Xb]at hx
    subst hx
    exact absurd rfl (h3 id hix id (Xbn.2 ⟨y,Xe (by simpa using hy),hiy⟩))
  | succ j=>cases j' with
   | zero =>
    simp only[Xm,Xb]at hy
    subst hy
    exact absurd rfl (h3 id hiy id (Xbn.2 ⟨x,Xe (by simpa using hx),hix⟩))
   | succ j'=>exact Xct (·+1) (Zm2 h2 (id:=id) (x:=x) (y:=y) (by simpa using hx) (by simpa using hy) hix hiy)
structure Rows(w:World)(I:Nat->Prop)(sz:Nat)(xs:List (List AV))(us:Nat->Nat->Value)(fs:Nat->Nat->Nat->Prop):Prop where
 row:∀ row∈xs,row.length=sz
 cl:∀ i j c,cellAt xs i j=some c->Cl w I (us i j) c (fs i j)
 dis:∀ i j c i' j' c' x,cellAt xs i j=some c->cellAt xs i' j'=some c'->fs i j x->fs i' j' x->i=i'/\j=j'
def Fall(xs:List (List AV))(fs:Nat->Nat->Nat->Prop)(x:Nat):Prop:=∃ i j c,cellAt xs i j=some c/\fs i j x
theorem Rows.own{w w1:World}{I:Nat->Prop}{sz:Nat}{xs:List (List AV)}{us:Nat->Nat->Value}{fs:Nat->Nat->Nat->Prop}(r:Rows w I sz xs us fs){b cap:Nat}{cur:Array Value}{e:TypeId}
  (hheap:w1.heap[b]?=some (.cells cur e (0,0))) (hcap:xs.length<=cap) (hmax:cap<=maxLen) (hcur:cap*sz<=cur.size) (hcell:∀ i j c,cellAt xs i j=some c->cur[i*sz+j]?=some (us i j))
  (hsame:Same w w1 (Fall xs fs)) (hI:Same w w1 I) (hnot:¬ Fall xs fs b):Cl w1 I (.slice (some ⟨b,0,none⟩) xs.length cap) (.sl .own sz xs) (fun x=>x=b\/Fall xs fs x) :=
 .own sz xs b cap cur e us fs _ hheap hcap hmax hcur r.row hcell (fun i j c hc=>(r.cl i j c hc).mono (fun x hx=>hsame x ⟨i,j,c,hc,hx⟩) hI (fun _ h=>h)) r.dis
  (fun i j c hc hf=>hnot ⟨i,j,c,hc,hf⟩) (fun _=>Iff.rfl)
theorem Cl.rows{w:World}{I:Nat->Prop}{v:Value}{sz:Nat}{xs:List (List AV)}{S:Nat->Prop}(h:Cl w I v (.sl .own sz xs) S) :
  (v=.slice none 0 0/\xs=[]/\∀ x,¬ S x)\/∃ b cap cur e us fs,v=.slice (some ⟨b,0,none⟩) xs.length cap/\w.heap[b]?=some (.cells cur e (0,0))/\xs.length<=cap/\cap<=maxLen/\cap*sz<=cur.size /\
   (∀ i j c,cellAt xs i j=some c->cur[i*sz+j]?=some (us i j))/\Rows w I sz xs us fs/\¬ Fall xs fs b/\∀ x,S x↔x=b\/Fall xs fs x:=by
 cases h with
 | nil _ _ hS=>exact .inl ⟨rfl,rfl,hS⟩
 | own _ _ b cap cur e us fs _ hheap hcap hmax hcur hrow hcell hin hdis hnot hS =>
  exact .inr ⟨b,cap,cur,e,us,fs,rfl,hheap,hcap,hmax,hcur,hcell,⟨hrow,hin,hdis⟩,fun ⟨i,j,c,hc,hf⟩=>hnot i j c hc hf,hS⟩
theorem Zbr{xs ys:List (List AV)}{i j:Nat}:cellAt (xs++ys) i j=if i<xs.length then cellAt xs i j else cellAt ys (i-xs.length) j:=by
 unfold cellAt
 rw[Xa9]
 split<;>rfl
theorem Zcg{xs:List (List AV)}{i j:Nat}{c:AV}(h:cellAt xs i j=some c):i<xs.length:=by
 obtain⟨row,h1,_⟩:=Zab.1 h
 exact (Xa.1 h1).1
theorem Rows.append{w:World}{I:Nat->Prop}{sz:Nat}{xs ys:List (List AV)}{us vs:Nat->Nat->Value}{fs gs:Nat->Nat->Nat->Prop}(r:Rows w I sz xs us fs)(q:Rows w I sz ys vs gs)(hd:∀ x,Fall xs fs x->¬ Fall ys gs x) :
  Rows w I sz (xs++ys) (fun i j=>if i<xs.length then us i j else vs (i-xs.length) j) (fun i j=>if i<xs.length then fs i j else gs (i-xs.length) j):=by
 refine⟨fun row h=>(Xg.1 h).elim (r.row row) (q.row row),fun i j c hc=>?_,fun i j c i' j' c' x hc hc' hf hf'=>?_⟩
 ·rw[Zbr]at hc
  by_cases hi:i<xs.length
  ·simp only[hi,Xag]at hc ⊢;exact r.cl i j c hc
  ·simp only[hi,Xaj]at hc ⊢;exact q.cl _ j c hc
 ·rw[Zbr]at hc hc'
  by_cases hi:i<xs.length<;>by_cases hi':i'<xs.length<;>simp only[hi,hi',Xag,Xaj]at hc hc' hf hf'
  ·exact r.dis i j c i' j' c' x hc hc' hf hf'
  ·exact absurd ⟨_,_,_,hc',hf'⟩ (hd x ⟨_,_,_,hc,hf⟩)
  ·exact absurd ⟨_,_,_,hc,hf⟩ (hd x ⟨_,_,_,hc',hf'⟩)
  ·obtain⟨h1,h2⟩:=q.dis _ j c _ j' c' x hc hc' hf hf'
   exact⟨by omega,h2⟩
theorem Fall.append{xs ys:List (List AV)}{fs gs:Nat->Nat->Nat->Prop}{x:Nat}(h:Fall (xs++ys) (fun i j=>if i<xs.length then fs i j else gs (i-xs.length) j) x):Fall xs fs x\/Fall ys gs x:=by
 obtain⟨i,j,c,hc,hf⟩:=h
 rw[Zbr]at hc
 by_cases hi:i<xs.length
 ·simp only[hi,Xag]at hc hf;exact .inl ⟨_,_,_,hc,hf⟩
 ·simp only[hi,Xaj]at hc hf;exact .inr ⟨_,_,_,hc,hf⟩
def flatVals(n sz:Nat)(us:Nat->Nat->Value):List Value:=(List.range (n*sz)).map fun k=>us (k / sz) (k % sz)
theorem Zam(n sz:Nat)(us:Nat->Nat->Value):(flatVals n sz us).length=n*sz:=by simp[flatVals]
theorem Zb7{n sz:Nat}{us:Nat->Nat->Value}{k:Nat}(h:k<n*sz):(flatVals n sz us)[k]?=some (us (k / sz) (k % sz)):=by
 simp[flatVals,h]
theorem Zd3{n sz:Nat}{us:Nat->Nat->Value}{i j:Nat}(hi:i<n)(hj:j<sz):(flatVals n sz us)[i*sz+j]?=some (us i j):=by
 have h1:i*sz+j<n*sz:=by
  have:(i+1)*sz<=n*sz:=Xaf _ hi
  rw[Xa2]at this
  omega
 rw[Zb7 h1]
 have h2:(i*sz+j) / sz=i:=by rw[Nat.mul_comm,Nat.mul_add_div (by omega),Nat.div_eq_of_lt hj];rfl
 have h3:(i*sz+j) % sz=j:=by rw[Nat.mul_comm,Nat.mul_add_mod,Nat.mod_eq_of_lt hj]
 rw[h2,h3]
theorem Za9{sz:Nat}{xs:List (List AV)}(hrow:∀ row∈xs,row.length=sz){i j:Nat}(hi:i<xs.length)(hj:j<sz):∃ c,cellAt xs i j=some c:=by
 have h1:xs[i]?=some xs[i]:=Xd hi
 have h2:=hrow xs[i] (Xbx hi)
 exact⟨xs[i][j],Zab.2 ⟨xs[i],h1,Xd (by omega)⟩⟩
theorem Zbh{sz:Nat}{xs:List (List AV)}(hrow:∀ row∈xs,row.length=sz){i j:Nat}{c:AV}(h:cellAt xs i j=some c):j<sz:=by
 obtain⟨row,h1,h2⟩:=Zab.1 h
 have:=Zm9 hrow h1
 have:=(Xa.1 h2).1
 omega
def plainVal:AV->Value
 | .bool b=>.bool b
 | .int k n=>.int k n
 | .str s=>.string s
 | _=>undef
theorem Zbl{xs:List (List AV)}(h:rowsPlain xs=true){i j:Nat}{c:AV}(hc:cellAt xs i j=some c):c.plain=true:=by
 obtain⟨row,h1,h2⟩:=Zab.1 hc
 unfold rowsPlain at h
 rw[Xao]at h
 have:=h row (Xe h1)
 rw[Xao]at this
 exact this c (Xe h2)
theorem Bor.plain{w:World}{R:Nat->Prop}{v:Value}{c:AV}(h:Bor w R v c)(hp:c.plain=true):v=plainVal c:=by
 cases h<;>first|rfl|simp[AV.plain]at hp
theorem Rows.plain{w:World}{I:Nat->Prop}{sz:Nat}{xs:List (List AV)}(hrow:∀ row∈xs,row.length=sz)(h:rowsPlain xs=true):Rows w I sz xs (fun i j=>((cellAt xs i j).map plainVal).getD undef) (fun _ _ _=>False):=by
 refine⟨hrow,fun i j c hc=>?_,fun _ _ _ _ _ _ _ _ _ hf=>hf.elim⟩
 have hp:=Zbl h hc
 rw[hc]
 cases c<;>simp only[AV.plain,Xq]at hp
 ·exact .bool _ _ (fun _ h=>h)
 ·exact .int _ _ _ (fun _ h=>h)
 ·exact .str _ _ (fun _ h=>h)
end
end Go.Proofs.YtgdfelbedghhnaaGreatDoor
namespace Go.Proofs.YtgdfelbedghhnaaGreatDoor
open Go Go.RowKit
set_option linter.unusedSimpArgs false
section
variable {P:Program} {w:World} {t ty e:TypeId} {i0:TypeInfo}
theorem Zdf(ht:P.underlying t=some (.slice e))(hi:P.info? e=some i0)(base ad:Option Addr)(sLen sCap c:Nat)(h:sLen<=sCap) :
  (Builtin.append_ #[t,t] ty #[.slice base sLen sCap,.slice ad 0 c]).run P w=.ok (.slice base sLen sCap) w:=by
 have hf:(Builtin.firstCells i0.size 0 (.slice ad 0 c)).run P w=.ok #[] w:=by
  cases ad<;>simp[Builtin.firstCells,loadCells,loadCellsFrom]
 cases base<;>simp[Builtin.append_,run_underlying ht,sizeOf,typeInfo,hi,Builtin.lenOf,h,hf,storeCells]
theorem Zgj(ht:P.underlying t=some (.slice e))(hi:P.info? e=some i0)(e2:TypeId)(b sLen sCap:Nat)(cur:Array Value)(hg:w.heap[b]?=some (.cells cur e2 (0,0)))
  (ad:Addr) (m c:Nat) (news:List Value) (hl:news.length=m*i0.size) (hnews:∀ j u,news[j]?=some u->w.cell? (ad.add j)=some u) (h1:∀ u∈news,u.oneCell'=true)
  (hroom:sLen+m<=sCap) (hfit:sLen*i0.size+news.length<=cur.size) :
  (Builtin.append_ #[t,t] ty #[.slice (some ⟨b,0,none⟩) sLen sCap,.slice (some ad) m c]).run P w =
   .ok (.slice (some ⟨b,0,none⟩) (sLen+m) sCap) (w.setRow b (cur.toList.take (sLen*i0.size)++news++cur.toList.drop (sLen*i0.size+news.length)).toArray):=by
 have hf:=run_firstCells_some (P:=P) w i0.size m ad m c news hl hnews
 have hst:=run_storeCells_at P b (sLen*i0.size) e2 news 0 cur w hg (by simpa using hfit) h1
 simp only[Nat.add_zero]at hst
 simp[Builtin.append_,run_underlying ht,sizeOf,typeInfo,hi,Builtin.lenOf,hroom,hf,Addr.add_lit,hst]
end
section
variable {cx:Cx} {s:St} {g:Gh} {a:Act} {w:World} {o:Oper} {key:Nat} {out:Out} {cl:Callee}
theorem Zef(m:Mem cx s.heap s.ep g w){v:Value}{x:AV}{sz:Nat}{xs:List (List AV)}(hr:SRel cx.num w cx.R g s.heap s.ep v x)(h:content s.heap s.ep x=some (sz,xs)) :
  (xs=[]/\∃ ad cap,v=.slice ad 0 cap)\/∃ (b off cap:Nat) (us:Nat->Nat->Value),v=.slice (some ⟨b,off,none⟩) xs.length cap/\(∀ row∈xs,row.length=sz) /\
   ∀ i j c,cellAt xs i j=some c->w.cell? ⟨b,off+i*sz+j,none⟩=some (us i j)/\Bor w (fun _=>True) (us i j) c:=by
 cases x<;>simp only[content,reduceCtorEq]at h
 ·rename_i md sz' ys
  cases hr with
  | nil=>simp only[Xb,Xk]at h;obtain⟨_,rfl⟩:=h;exact .inl ⟨rfl,none,0,rfl⟩
  | sl _ _ _ _ _ hm hlim hown =>
   have h':md.ok s.ep=true/\sz'=sz/\ys=xs:=by
    cases md<;>cases ys<;>simp_all[Md.ok]<;>(split at h<;>simp_all)
   obtain⟨hok,rfl,rfl⟩:=h'
   have hb:=hm hok
   cases hb with
   | nil=>exact .inl ⟨rfl,_,_,rfl⟩
   | sl _ _ _ b off cap us hcap hbk hrow hcell hin=>exact .inr ⟨b,off,cap,us,rfl,hrow,fun i j c hc=>⟨hcell i j c hc,(hin i j c hc).mono (Same.refl _ _) (fun _ _=>trivial)⟩⟩
 ·rename_i id
  cases hh:s.heap id with
  | none=>rw[hh]at h;cases h
  | some ob =>
   rw[hh]at h
   cases ob<;>simp only[reduceCtorEq,Xb,Xk]at h
   obtain⟨rfl,rfl⟩:=h
   cases hr with
   | ref _ _ _ hu hv =>
    rw[hv _ hh]
    rcases (m.objs id _ hh).1.rows with ⟨h5,h6,_⟩|⟨b,cap,cur,e',us,fs,h5,hheap,_,_,_,hcell,hrows,_⟩
    ·exact .inl ⟨h6,none,0,h5⟩
    ·exact .inr ⟨b,0,cap,us,h5,hrows.row,fun i j c hc=>⟨by rw[Zaf hheap,Xbe];exact hcell i j c hc,(hrows.cl i j c hc).bor (fun _ _=>trivial) (fun _ _=>trivial)⟩⟩
 ·rename_i id lo len
  cases hh:s.heap id with
  | none=>rw[hh]at h;cases h
  | some ob =>
   rw[hh]at h
   cases ob<;>simp only[reduceCtorEq]at h
   rename_i sz0 xs0
   split at h
   case isFalse=>cases h
   rename_i hle
   simp only[Xb,Xk]at h
   obtain⟨rfl,rfl⟩:=h
   have hlen:(List.take len (List.drop lo xs0)).length=len:=by simp;omega
   cases hr with
   | view _ _ _ _ _ hu hv =>
    obtain⟨a',cap,h5,h6,h7⟩:=hv _ _ hh
    by_cases hz:len=0
    ·subst hz
     exact .inl ⟨by simp,a',cap,h5⟩
    ·obtain⟨b,n',c',h8,h9⟩:=h7 hz
     rcases (m.objs id _ hh).1.rows with ⟨_,h6,_⟩|⟨b',cap',cur,e',us,fs,h5',hheap,_,_,_,hcell,hrows,_⟩
     ·subst h6;simp at hle;omega
     ·rw[h8]at h5'
      simp only[Value.slice.injEq,Xb,Addr.mk.injEq,Xbv]at h5'
      obtain⟨rfl,_⟩:=h5'
      have hat:∀ i j c,cellAt (List.take len (List.drop lo xs0)) i j=some c->cellAt xs0 (lo+i) j=some c:=by
       intro i j c hc
       obtain⟨row,hr1,hr2⟩:=Zab.1 hc
       refine Zab.2 ⟨row,?_,hr2⟩
       rw[Xal]at hr1
       split at hr1
       ·rwa [Xaq]at hr1
       ·cases hr1
      refine .inr ⟨b,lo*sz0,cap,fun i j=>us (lo+i) j,by rw[hlen,h5,h9],fun row hr=>hrows.row row (Xbq (Xbf hr)),fun i j c hc=>?_⟩
      have hc':=hat i j c hc
      refine⟨?_,(hrows.cl _ _ _ hc').bor (fun _ _=>trivial) (fun _ _=>trivial)⟩
      rw[Zaf hheap,show lo*sz0+i*sz0+j=(lo+i)*sz0+j by rw[Xa2]]
      exact hcell _ _ _ hc'
structure Src(cx:Cx)(h:Nat->Option AO)(g:Gh)(w:World)(v:Value)(sz:Nat)(ys:List (List AV))(ws:List (Nat×Option AO))(us:Nat->Nat->Value)(fs:Nat->Nat->Nat->Prop)(F':Nat->Prop):Prop where
 at_:(ys=[]/\∃ ad cap,v=.slice ad 0 cap)\/∃ (b off cap:Nat),v=.slice (some ⟨b,off,none⟩) ys.length cap/\∀ i j c,cellAt ys i j=some c->w.cell? ⟨b,off+i*sz+j,none⟩=some (us i j)
 rows:Rows w g.I sz ys us fs
 left:(ws=[]/\∀ x,¬ Fall ys fs x)\/∃ id sz0 xs0 o',ws=[(id,o')]/\h id=some (.arr sz0 xs0)/\(∀ x,Fall ys fs x->g.fp id x)/\(∀ x,F' x->g.fp id x/\¬ Fall ys fs x) /\
  ∀ o1,o'=some o1->∃ xs',o1=.arr sz0 xs'/\Cl w g.I (g.v id) (.sl .own sz0 xs') F'
theorem Zrj(m:Mem cx s.heap s.ep g w){v:Value}{x:AV}{flat:Bool}{sz:Nat}{ys:List (List AV)}{ws:List (Nat×Option AO)}(hr:SRel cx.num w cx.R g s.heap s.ep v x)(h:takeRows s.heap s.ep flat x=some (sz,ys,ws)) :
  ∃ us fs F',Src cx s.heap g w v sz ys ws us fs F':=by
 cases flat with
 | true =>
  simp only[takeRows]at h
  cases hc:content s.heap s.ep x with
  | none=>rw[hc]at h;cases h
  | some p =>
   obtain⟨sz1,xs⟩:=p
   rw[hc]at h
   simp only at h
   split at h
   case isFalse=>cases h
   rename_i hp
   simp only[Xb,Xk]at h
   obtain⟨rfl,rfl,rfl⟩:=h
   rcases Zef m hr hc with ⟨rfl,h5⟩|⟨b,off,cap,us,h5,hrow,hcell⟩
   ·exact⟨_,_,fun _=>False,.inl ⟨rfl,h5⟩,Rows.plain (by simp) rfl,.inl ⟨rfl,fun x ⟨_,_,_,_,hf⟩=>hf⟩⟩
   ·refine⟨_,_,fun _=>False,.inr ⟨b,off,cap,h5,fun i j c hcc=>?_⟩,Rows.plain hrow hp,.inl ⟨rfl,fun x ⟨_,_,_,_,hf⟩=>hf⟩⟩
    obtain⟨h6,h7⟩:=hcell i j c hcc
    rw[h6,hcc,h7.plain (Zbl hp hcc)]
    rfl
 | false =>
  cases x<;>unfold takeRows at h<;>try (cases h;done)
  ·rename_i md sz' xs
   cases md<;>cases xs<;>simp only[reduceCtorEq,Xb,Xk]at h
   obtain⟨rfl,rfl,rfl⟩:=h
   cases hr with
   | nil=>exact⟨fun _ _=>undef,fun _ _ _=>False,fun _=>False,.inl ⟨rfl,none,0,rfl⟩,⟨by simp,fun i j c hc=>by simp[cellAt]at hc,fun i j c _ _ _ _ hc=>by simp[cellAt]at hc⟩,.inl ⟨rfl,fun x ⟨_,_,_,_,hf⟩=>hf⟩⟩
   | sl _ _ _ _ _ _ _ hown=>exact absurd rfl hown
  ·rename_i id
   simp only at h
   cases hh:s.heap id with
   | none=>rw[hh]at h;cases h
   | some ob =>
    rw[hh]at h
    cases ob<;>simp only[reduceCtorEq,Xb,Xk]at h
    rename_i sz0 xs0
    obtain⟨rfl,rfl,rfl⟩:=h
    cases hr with
    | ref _ _ _ hu hv =>
     have hv':=hv _ hh
     rcases (m.objs id _ hh).1.rows with ⟨h5,h6,hS⟩|⟨b,cap,cur,e',us,fs,h5,hheap,_,_,_,hcell,hrows,hnb,hS⟩
     ·subst h6
      exact⟨fun _ _=>undef,fun _ _ _=>False,fun _=>False,.inl ⟨rfl,none,0,hv'.trans h5⟩,⟨by simp,fun i j c hc=>by simp[cellAt]at hc,fun i j c _ _ _ _ hc=>by simp[cellAt]at hc⟩,
       .inr ⟨id,sz0,[],none,rfl,hh,fun x ⟨_,_,_,_,hf⟩=>hf.elim,fun _ hf=>hf.elim,fun _ he=>by cases he⟩⟩
     ·exact⟨us,fs,fun _=>False,.inr ⟨b,0,cap,hv'.trans h5,fun i j c hc=>by rw[Zaf hheap,Xbe];exact hcell i j c hc⟩,hrows,
       .inr ⟨id,sz0,xs0,none,rfl,hh,fun x hx=>(hS x).2 (.inr hx),fun _ hf=>hf.elim,fun _ he=>by cases he⟩⟩
  ·rename_i id lo len
   simp only at h
   cases hh:s.heap id with
   | none=>rw[hh]at h;cases h
   | some ob =>
    rw[hh]at h
    cases ob<;>simp only[reduceCtorEq]at h
    rename_i sz0 xs0
    split at h
    case isFalse=>cases h
    rename_i hle
    simp only[Xb,Xk]at h
    obtain⟨rfl,rfl,rfl⟩:=h
    have hlen:(List.take len (List.drop lo xs0)).length=len:=by simp;omega
    have hat:∀ i j c,cellAt (List.take len (List.drop lo xs0)) i j=some c->i<len/\cellAt xs0 (lo+i) j=some c:=by
     intro i j c hc
     obtain⟨row,hr1,hr2⟩:=Zab.1 hc
     rw[Xal]at hr1
     split at hr1
     ·rename_i hi
      exact⟨hi,Zab.2 ⟨row,by rwa [Xaq]at hr1,hr2⟩⟩
     ·cases hr1
    cases hr with
    | view _ _ _ _ _ hu hv =>
     obtain⟨a',cap0,h5,h6,h7⟩:=hv _ _ hh
     rcases (m.objs id _ hh).1.rows with ⟨h8,h9,hS⟩|⟨b,cap,cur,e',us,fs,h8,hheap,hcap,hmax,hcur,hcell,hrows,hnb,hS⟩
     ·subst h9
      have hl0:len=0:=by simp at hle;omega
      have hlo:lo=0:=by simp at hle;omega
      subst hl0;subst hlo
      refine⟨fun _ _=>undef,fun _ _ _=>False,g.fp id,.inl ⟨by simp,a',cap0,h5⟩,⟨by simp,fun i j c hc=>by simp[cellAt]at hc,fun i j c _ _ _ _ hc=>by simp[cellAt]at hc⟩,
       .inr ⟨id,sz0,[],_,rfl,hh,fun x ⟨_,_,_,_,hf⟩=>hf.elim,fun x hf=>⟨hf,fun ⟨_,_,_,_,hf⟩=>hf⟩,fun o1 he=>?_⟩⟩
      obtain rfl:=Xf he
      exact⟨[],by simp,(m.objs id _ hh).1⟩
     ·refine⟨fun i j=>us (lo+i) j,fun i j=>fs (lo+i) j,fun x=>g.fp id x/\¬ Fall (List.take len (List.drop lo xs0)) (fun i j=>fs (lo+i) j) x,?_,?_,?_⟩
      ·by_cases hz:len=0
       ·subst hz;exact .inl ⟨by simp,a',cap0,h5⟩
       ·obtain⟨b',n',c',h9,h10⟩:=h7 hz
        rw[h8]at h9
        simp only[Value.slice.injEq,Xb,Addr.mk.injEq,Xbv]at h9
        obtain⟨rfl,_⟩:=h9
        refine .inr ⟨b,lo*sz0,cap0,by rw[hlen,h5,h10],fun i j c hc=>?_⟩
        rw[Zaf hheap,show lo*sz0+i*sz0+j=(lo+i)*sz0+j by rw[Xa2]]
        exact hcell _ _ _ (hat i j c hc).2
      ·refine⟨fun row hr=>hrows.row row (Xbq (Xbf hr)),fun i j c hc=>hrows.cl _ _ _ (hat i j c hc).2,fun i j c i' j' c' x hc hc' hf hf'=>?_⟩
       obtain⟨h11,h12⟩:=hrows.dis _ _ _ _ _ _ x (hat i j c hc).2 (hat i' j' c' hc').2 hf hf'
       exact⟨by omega,h12⟩
      ·refine .inr ⟨id,sz0,xs0,_,rfl,hh,fun x ⟨i,j,c,hc,hf⟩=>(hS x).2 (.inr ⟨_,_,_,(hat i j c hc).2,hf⟩),fun x hx=>hx,fun o1 he=>?_⟩
       obtain rfl:=Xf he
       refine⟨_,rfl,?_⟩
       have hl':(List.take lo xs0++(List.replicate len (List.replicate sz0 AV.any)++List.drop (lo+len) xs0)).length=xs0.length:=by simp;omega
       -- each cell of what is left is as it was,or dead
       have hcl:∀ i j c,cellAt (List.take lo xs0++(List.replicate len (List.replicate sz0 AV.any)++List.drop (lo+len) xs0)) i j=some c ->
         (lo<=i/\i<lo+len/\c=.any/\j<sz0)\/(¬ (lo<=i/\i<lo+len)/\cellAt xs0 i j=some c):=by
        intro i j c hc
        obtain⟨row,hr1,hr2⟩:=Zab.1 hc
        rw[Xa9]at hr1
        have hl1:(List.take lo xs0).length=lo:=by simp;omega
        rw[hl1]at hr1
        by_cases hi:i<lo
        ·rw[Xr hi,Xal,Xr hi]at hr1
         exact .inr ⟨by omega,Zab.2 ⟨row,hr1,hr2⟩⟩
        ·rw[Xu hi,Xa9,List.length_replicate]at hr1
         by_cases hi2:i-lo<len
         ·rw[Xr hi2,List.getElem?_replicate,Xr hi2]at hr1
          obtain rfl:=Xf hr1
          rw[List.getElem?_replicate]at hr2
          split at hr2
          ·exact .inl ⟨by omega,by omega,(Xf hr2).symm,by assumption⟩
          ·cases hr2
         ·rw[Xu hi2,Xaq]at hr1
          refine .inr ⟨by omega,Zab.2 ⟨row,?_,hr2⟩⟩
          rw[show lo+len+(i-lo-len)=i by omega]at hr1
          exact hr1
       have hdead:∀ i j,lo<=i->i<lo+len->j<sz0->∃ c0,cellAt xs0 i j=some c0:=fun i j h1 h2 h3=>Za9 hrows.row (by omega) h3
       refine (Rows.own (w1:=w) (xs:=List.take lo xs0++(List.replicate len (List.replicate sz0 AV.any)++List.drop (lo+len) xs0)) (us:=us) (fs:=fun i j x=>¬ (lo<=i/\i<lo+len)/\fs i j x) ⟨?_,?_,?_⟩ hheap (by omega) hmax hcur ?_ (Same.refl _ _) (Same.refl _ _) ?_).blocks ?_ |> fun hfin=>by rw[h8,<- hl'];exact hfin
       ·intro row hr
        rcases Xg.1 hr with hr|hr
        ·exact hrows.row row (Xbf hr)
        ·rcases Xg.1 hr with hr|hr
         ·rw[List.eq_of_mem_replicate hr];simp
         ·exact hrows.row row (Xbq hr)
       ·intro i j c hc
        rcases hcl i j c hc with ⟨h1,h2,rfl,h3⟩|⟨h1,h2⟩
        ·obtain⟨c0,hc0⟩:=hdead i j h1 h2 h3
         exact .any _ _ (hrows.cl _ _ _ hc0).one (fun x hx=>hx.1 ⟨h1,h2⟩)
        ·exact (hrows.cl _ _ _ h2).blocks (fun x=>⟨fun hx=>hx.2,fun hx=>⟨h1,hx⟩⟩)
       ·intro i j c i' j' c' x hc hc' hf hf'
        rcases hcl i j c hc with ⟨h1,h2,_⟩|⟨_,h2⟩
        ·exact absurd ⟨h1,h2⟩ hf.1
        ·rcases hcl i' j' c' hc' with ⟨h3,h4,_⟩|⟨_,h4⟩
         ·exact absurd ⟨h3,h4⟩ hf'.1
         ·exact hrows.dis _ _ _ _ _ _ x h2 h4 hf.2 hf'.2
       ·intro i j c hc
        rcases hcl i j c hc with ⟨h1,h2,rfl,h3⟩|⟨_,h2⟩
        ·obtain⟨c0,hc0⟩:=hdead i j h1 h2 h3
         exact hcell _ _ _ hc0
        ·exact hcell _ _ _ h2
       ·rintro⟨i,j,c,hc,hf⟩
        rcases hcl i j c hc with ⟨h1,h2,_⟩|⟨_,h2⟩
        ·exact hf.1 ⟨h1,h2⟩
        ·exact hnb ⟨_,_,_,h2,hf.2⟩
       ·intro x
        constructor
        ·rintro⟨hx,hn⟩
         rcases (hS x).1 hx with rfl|⟨i,j,c,hc,hf⟩
         ·exact .inl rfl
         ·by_cases hi:lo<=i/\i<lo+len
          ·refine absurd ⟨i-lo,j,c,?_,?_⟩ hn
           ·obtain⟨row,hr1,hr2⟩:=Zab.1 hc
            refine Zab.2 ⟨row,?_,hr2⟩
            rw[Xal,Xr (by omega),Xaq,show lo+(i-lo)=i by omega]
            exact hr1
           ·show fs (lo+(i-lo)) j x
            rw[show lo+(i-lo)=i by omega];exact hf
          ·refine .inr ⟨i,j,c,?_,hi,hf⟩
           obtain⟨row,hr1,hr2⟩:=Zab.1 hc
           refine Zab.2 ⟨row,?_,hr2⟩
           have hl1:(List.take lo xs0).length=lo:=by simp;omega
           rw[Xa9,hl1]
           by_cases h1:i<lo
           ·rw[Xr h1,Xal,Xr h1];exact hr1
           ·rw[Xu h1,Xa9,List.length_replicate,Xu (by omega),Xaq,show lo+len+(i-lo-len)=i by omega]
            exact hr1
        ·rintro (rfl|⟨i,j,c,hc,hf⟩)
         ·exact⟨(hS x).2 (.inl rfl),fun ⟨i,j,c,hc,hf⟩=>hnb ⟨_,_,_,(hat i j c hc).2,hf⟩⟩
         ·rcases hcl i j c hc with ⟨h1,h2,_⟩|⟨_,h2⟩
          ·exact absurd ⟨h1,h2⟩ hf.1
          ·refine⟨(hS x).2 (.inr ⟨_,_,_,h2,hf.2⟩),fun ⟨i',j',c',hc',hf'⟩=>?_⟩
           obtain⟨h3,h4⟩:=hat i' j' c' hc'
           obtain⟨h5',_⟩:=hrows.dis _ _ _ _ _ _ x h2 h4 hf.2 hf'
           exact hf.1 ⟨by omega,by omega⟩
end
theorem getElem?_pre{n k:Nat}{A B C:List Value}(hA:A.length=n)(hk:k<n):(A++(B++C))[k]?=A[k]?:=Xay (by omega)
theorem getElem?_mid{n m k:Nat}{A B C:List Value}(hA:A.length=n)(hB:B.length=m)(hk:k<m):(A++(B++C))[n+k]?=B[k]?:=by
 rw[Xar (by omega),Xay (by omega)]
 congr 1
 omega
theorem Znf{P:Program}{w:World}{I:Nat->Prop}{t ty e:TypeId}{i0:TypeInfo}{z:Value}{sz:Nat}(ht:P.underlying t=some (.slice e))(hi:P.info? e=some i0)(hz:i0.zero=some z)(hzs:z.cells.size=i0.size)(hsz:i0.size=sz)
  {v1 v2:Value} {xs ys:List (List AV)} {S0:Nat->Prop} {us:Nat->Nat->Value} {fs:Nat->Nat->Nat->Prop} (hbase:Cl w I v1 (.sl .own sz xs) S0)
  (hat:(ys=[]/\∃ ad cap,v2=.slice ad 0 cap)\/∃ (b off cap:Nat),v2=.slice (some ⟨b,off,none⟩) ys.length cap/\∀ i j c,cellAt ys i j=some c->w.cell? ⟨b,off+i*sz+j,none⟩=some (us i j))
  (hrows:ys=[]\/Rows w I sz ys us fs) (hys:ys=[]->∀ x,¬ Fall ys fs x) (hdis:∀ x,S0 x->¬ Fall ys fs x) (hIS:∀ x,S0 x->¬ I x) (hI:∀ x,I x->x<w.heap.size) (hlt:∀ x,Fall ys fs x->x<w.heap.size)
  (hb1:(xs.length+ys.length)*i0.bytes<=140737488355328) (hb2:xs.length+ys.length<=140737488355328) :
  ∃ v' w' F,(Builtin.append_ #[t,t] ty #[v1,v2]).run P w=.ok v' w'/\Cl w' I v' (.sl .own sz (xs++ys)) F/\(∀ x,F x->(w.heap.size<=x/\x<w'.heap.size)\/S0 x\/Fall ys fs x) /\
   w'.os=w.os/\w'.tape=w.tape/\w'.output=w.output/\w.heap.size<=w'.heap.size/\(∀ k,k<w.heap.size->¬ S0 k->w'.heap[k]?=w.heap[k]?):=by
 have hmx:xs.length+ys.length<=maxLen:=by unfold maxLen;omega
 by_cases hy0:ys=[]
 ·-- nothing is appended
  have h2:∃ ad cap,v2=.slice ad 0 cap:=by
   rcases hat with ⟨_,h⟩|⟨b,off,cap,h,_⟩
   ·exact h
   ·rw[hy0]at h;exact⟨_,_,h⟩
  obtain⟨ad,cap2,rfl⟩:=h2
  subst hy0
  rw[Xb6]
  rcases hbase.rows with ⟨rfl,rfl,hS⟩|⟨b,cap,cur,e',us',fs',rfl,hheap,hcap,_⟩
  ·exact⟨_,w,S0,Zdf ht hi none ad 0 0 cap2 (Xo _),hbase,fun x hx=>.inr (.inl hx),rfl,rfl,rfl,Xo _,fun _ _ _=>rfl⟩
  ·exact⟨_,w,S0,Zdf ht hi _ ad _ cap cap2 hcap,hbase,fun x hx=>.inr (.inl hx),rfl,rfl,rfl,Xo _,fun _ _ _=>rfl⟩
 have hm0:0<ys.length:=Xcn.2 hy0
 have hr:=hrows.resolve_left hy0
 obtain⟨b2,off2,cap2,rfl,hcell2⟩:=hat.resolve_left (fun h=>hy0 h.1)
 have hnl:(flatVals ys.length sz us).length=ys.length*i0.size:=by rw[Zam,hsz]
 have hkk:∀ k,k<ys.length*sz->k / sz<ys.length/\k % sz<sz/\k / sz*sz+k % sz=k:=by
  intro k hk
  have hpos:0<sz:=by
   rcases Nat.eq_zero_or_pos sz with h|h
   ·rw[h]at hk;simp at hk
   ·exact h
  exact⟨(Nat.div_lt_iff_lt_mul hpos).2 hk,Nat.mod_lt _ hpos,by rw[Nat.mul_comm];exact Nat.div_add_mod k sz⟩
 have hnews:∀ (j:Nat) (u:Value),(flatVals ys.length sz us)[j]?=some u->w.cell? ((⟨b2,off2,none⟩:Addr).add j)=some u:=by
  intro j u hu
  have hj:j<ys.length*sz:=by have:=(Xa.1 hu).1;rwa [Zam]at this
  rw[Zb7 hj]at hu
  obtain⟨h1,h2,h3⟩:=hkk j hj
  obtain⟨c,hc⟩:=Za9 hr.row h1 h2
  rw[Zbq,<- Xf hu,<- hcell2 _ _ _ hc,Xb0,h3]
 have hone:∀ u∈flatVals ys.length sz us,u.oneCell'=true:=by
  intro u hu
  obtain⟨j,hj⟩:=Xak hu
  have hj':j<ys.length*sz:=by have:=(Xa.1 hj).1;rwa [Zam]at this
  rw[Zb7 hj']at hj
  obtain⟨h1,h2,h3⟩:=hkk j hj'
  obtain⟨c,hc⟩:=Za9 hr.row h1 h2
  rw[<- Xf hj]
  exact (hr.cl _ _ _ hc).one
 -- a new array
 have fresh:∀ (us0:Nat->Nat->Value) (fs0:Nat->Nat->Nat->Prop) (old:Nat),Rows w I sz xs us0 fs0->(∀ x,Fall xs fs0 x->S0 x)->old<xs.length+ys.length ->
   ∀ (vr:Value) (w1:World),vr=.slice (some ⟨w.heap.size,0,none⟩) (xs.length+ys.length) (grownCap w (xs.length+ys.length) old e) ->
   Pushed w w1 (.cells (((flatVals xs.length sz us0).toArray++(flatVals ys.length sz us).toArray)++Builtin.zeroCells z.cells (grownCap w (xs.length+ys.length) old e-(xs.length+ys.length))) e) ->
   ∃ F,Cl w1 I vr (.sl .own sz (xs++ys)) F/\(∀ x,F x->(w.heap.size<=x/\x<w1.heap.size)\/S0 x\/Fall ys fs x):=by
  intro us0 fs0 old r0 hF0 hold vr w1 hvr p
  have hge:=grownCap_ge w (xs.length+ys.length) old e
  have rr:=r0.append hr (fun x hx=>hdis x (hF0 x hx))
  have hfall:∀ x,Fall (xs++ys) (fun i j=>if i<xs.length then fs0 i j else fs (i-xs.length) j) x->S0 x\/Fall ys fs x:=fun x hx=>(Fall.append hx).imp (hF0 x) id
  have hlt':∀ x,Fall (xs++ys) (fun i j=>if i<xs.length then fs0 i j else fs (i-xs.length) j) x->x<w.heap.size:=fun x hx=>(hfall x hx).elim (hbase.lt x) (hlt x)
  have hcl:=rr.own (w1:=w1) (b:=w.heap.size) (cap:=grownCap w (xs.length+ys.length) old e) p.new (by rw[Xs];exact hge) (grownCap_le_maxLen w _ old e hmx)
   (by simp only[Array.size_append,List.size_toArray,size_zeroCells,Zam,hzs,hsz,<- Xa2];exact Nat.le_of_eq (by congr 1;omega))
   (by
    intro i j c hc
    have hj:=Zbh rr.row hc
    have hi:=Zcg hc
    rw[Xs]at hi
    rw[<- Xbi]
    simp only[Array.toList_append,Xa7]
    by_cases h1:i<xs.length
    ·rw[Xr h1,getElem?_pre (n:=xs.length*sz) (by simp[Zam]) (by
      have:(i+1)*sz<=xs.length*sz:=Xaf _ h1
      rw[Xa2]at this;omega)]
     exact Zd3 h1 hj
    ·rw[Xu h1,show i*sz+j=xs.length*sz+((i-xs.length)*sz+j) by rw[<- Xb0,<- Xa2];congr 2;omega]
     rw[getElem?_mid (n:=xs.length*sz) (m:=ys.length*sz) (by simp[Zam]) (by simp[Zam]) (by
      have:((i-xs.length)+1)*sz<=ys.length*sz:=Xaf _ (by omega)
      rw[Xa2]at this;omega)]
     exact Zd3 (by omega) hj)
   (fun x hx=>p.old (hlt' x hx)) (fun x hx=>p.old (hI x hx)) (fun hx=>by have:=hlt' _ hx;omega)
  rw[Xs]at hcl
  refine⟨_,by rw[hvr];exact hcl,fun x hx=>?_⟩
  rcases hx with rfl|hx
  ·exact .inl ⟨Xo _,by rw[p.size];omega⟩
  ·exact .inr (hfall x hx)
 rcases hbase.rows with ⟨rfl,rfl,hS⟩|⟨b,cap,cur,e',us0,fs0,rfl,hheap,hcap,hmax,hcur,hcell,r0,hnb,hS⟩
 ·-- out of nothing
  have hrun:=run_append_nil (P:=P) w t ty e i0 z ht hi hz ⟨b2,off2,none⟩ ys.length cap2 _ hnl hnews hm0 (by simp at hb2;omega) (by simp at hb1;omega)
  obtain⟨F,h1,h2⟩:=fresh (fun _ _=>undef) (fun _ _ _=>False) 0 ⟨by simp,fun i j c hc=>by simp[cellAt]at hc,fun i j c _ _ _ _ hc=>by simp[cellAt]at hc⟩ (fun x ⟨_,_,_,_,hf⟩=>hf.elim) (by simpa using hm0)
   (.slice (some ⟨w.heap.size,0,none⟩) ys.length (grownCap w ys.length 0 e)) (w.drew.alloc (.cells ((flatVals ys.length sz us).toArray++Builtin.zeroCells z.cells (grownCap w ys.length 0 e-ys.length)) e)) (by simp)
   (by simpa [flatVals] using Pushed.drewAlloc w (.cells ((flatVals ys.length sz us).toArray++Builtin.zeroCells z.cells (grownCap w ys.length 0 e-ys.length)) e))
  refine⟨_,_,F,hrun,h1,h2,rfl,rfl,rfl,by rw[(Pushed.drewAlloc w _).size];omega,fun k hk _=>?_⟩
  exact (Pushed.drewAlloc w _).old hk
 ·have hol:(flatVals xs.length sz us0).length=xs.length*i0.size:=by rw[Zam,hsz]
  have holds:∀ (j:Nat) (u:Value),(flatVals xs.length sz us0)[j]?=some u->w.cell? ((⟨b,0,none⟩:Addr).add j)=some u:=by
   intro j u hu
   have hj:j<xs.length*sz:=by have:=(Xa.1 hu).1;rwa [Zam]at this
   rw[Zb7 hj]at hu
   have hpos:0<sz:=by
    rcases Nat.eq_zero_or_pos sz with h|h
    ·rw[h]at hj;simp at hj
    ·exact h
   have h1:j / sz<xs.length:=(Nat.div_lt_iff_lt_mul hpos).2 hj
   have h3:j / sz*sz+j % sz=j:=by rw[Nat.mul_comm];exact Nat.div_add_mod j sz
   obtain⟨c,hc⟩:=Za9 r0.row h1 (Nat.mod_lt j hpos)
   rw[Zbq,Xbe,Zaf hheap,<- Xf hu,<- hcell _ _ _ hc,h3]
  by_cases hroom:xs.length+ys.length<=cap
  ·-- in place
   have hfit:xs.length*i0.size+(flatVals ys.length sz us).length<=cur.size:=by
    rw[hnl,hsz,<- Xa2]
    exact Xac (Xaf _ hroom) hcur
   have hrun:=Zgj (ty:=ty) ht hi e' b xs.length cap cur hheap ⟨b2,off2,none⟩ ys.length cap2 _ hnl hnews hone hroom hfit
   have hd0:∀ x,Fall xs fs0 x->S0 x:=fun x hx=>(hS x).2 (.inr hx)
   have rr:=r0.append hr (fun x hx=>hdis x (hd0 x hx))
   have hSb:S0 b:=(hS b).2 (.inl rfl)
   have hother:∀ k,k≠b->∀ cs,(w.setRow b cs).heap[k]?=w.heap[k]?:=fun k hk cs=>setRow_other w b k cs hk
   have hnot:¬ Fall (xs++ys) (fun i j=>if i<xs.length then fs0 i j else fs (i-xs.length) j) b:=by
    intro hx
    rcases Fall.append hx with h1|h1
    ·exact hnb h1
    ·exact hdis b hSb h1
   have hcl:=rr.own (w1:=w.setRow b _) (b:=b) (cap:=cap) (setRow_heap w b cur (cur.toList.take (xs.length*i0.size)++flatVals ys.length sz us++cur.toList.drop (xs.length*i0.size+(flatVals ys.length sz us).length)).toArray e' (0,0) hheap)
    (by rw[Xs];exact hroom) hmax (by
     refine Xac hcur ?_
     simp only[List.size_toArray,Xs,Xbj,Xb3,Xau]
     rw[Xbt (by omega)]
     omega)
    (by
     intro i j c hc
     have hj:=Zbh rr.row hc
     have hi:=Zcg hc
     rw[Xs]at hi
     have htl:(cur.toList.take (xs.length*i0.size)).length=xs.length*sz:=by
      have hcl:cur.toList.length=cur.size:=Xau
      rw[Xbj,hcl,hsz]
      have:xs.length*sz<=cap*sz:=Xaf _ hcap
      omega
     rw[Xbd,Xa7]
     by_cases h1:i<xs.length
     ·have hlt2:i*sz+j<xs.length*sz:=by
       have:(i+1)*sz<=xs.length*sz:=Xaf _ h1
       rw[Xa2]at this;omega
      rw[Xr h1,getElem?_pre htl hlt2,Xal,hsz,Xr hlt2,Xbi]
      rw[Zbr,Xr h1]at hc
      exact hcell _ _ _ hc
     ·rw[Xu h1,show i*sz+j=xs.length*sz+((i-xs.length)*sz+j) by rw[<- Xb0,<- Xa2];congr 2;omega]
      rw[getElem?_mid htl (m:=ys.length*sz) (by simp[Zam]) (by
       have:((i-xs.length)+1)*sz<=ys.length*sz:=Xaf _ (by omega)
       rw[Xa2]at this;omega)]
      exact Zd3 (by omega) hj)
    (fun x hx=>hother x (fun e=>hnot (e ▸ hx)) _) (fun x hx=>hother x (fun e=>hIS b hSb (e ▸ hx)) _) hnot
   rw[Xs]at hcl
   refine⟨_,_,_,hrun,hcl,fun x hx=>?_,rfl,rfl,rfl,?_,fun k hk hk2=>hother k (fun e=>hk2 (e ▸ hSb)) _⟩
   ·rcases hx with rfl|hx
    ·exact .inr (.inl hSb)
    ·exact .inr ((Fall.append hx).imp (hd0 x) id)
   ·simp[World.setRow]
  ·-- it grows
   have hrun:=run_append_grow (P:=P) w t ty e i0 z ht hi hz ⟨b,0,none⟩ xs.length cap _ hol holds ⟨b2,off2,none⟩ ys.length cap2 _ hnl hnews (by omega) (by omega) (growslice_fits (by omega) hb1)
   obtain⟨F,h1,h2⟩:=fresh us0 fs0 cap r0 (fun x hx=>(hS x).2 (.inr hx)) (by omega) _ _ rfl (Pushed.drewAlloc w _)
   exact⟨_,_,F,hrun,h1,h2,rfl,rfl,rfl,by rw[(Pushed.drewAlloc w _).size];omega,fun k hk _=>(Pushed.drewAlloc w _).old hk⟩
section
variable {cx:Cx} {s:St} {g:Gh} {a:Act} {w:World} {o:Oper} {key:Nat} {out:Out} {cl:Callee}
theorem Zh8(m:Mem cx s.heap s.ep g w)(hk:¬ g.used key){v':Value}{w':World}{sz:Nat}{zs:List (List AV)}{F F':Nat->Prop}{base:List Nat}{src:List (Nat×Option AO)}
  (hrun:(execOp a.eval o).run cx.P w=.ok (.value v') w') (hcl:Cl w' g.I v' (.sl .own sz zs) F)
  (hbase:base=[]\/∃ id sz0 xs0,base=[id]/\s.heap id=some (.arr sz0 xs0)) (hsrc:src=[]\/∃ id sz0 xs0 o',src=[(id,o')]/\s.heap id=some (.arr sz0 xs0)/\(∀ i∈base,i≠id)/\(∀ x,F' x->g.fp id x/\¬ F x) /\
   ∀ o1,o'=some o1->∃ xs',o1=.arr sz0 xs'/\Cl w g.I (g.v id) (.sl .own sz0 xs') F')
  (hF:∀ x,F x->(w.heap.size<=x/\x<w'.heap.size)\/∃ id o1,(id∈base\/id∈src.map (·.1))/\s.heap id=some o1/\g.fp id x)
  (hos:w'.os=w.os) (htape:w'.tape=w.tape) (hout:w'.output=w.output) (hsize:w.heap.size<=w'.heap.size) (hsame:∀ k,k<w.heap.size->(∀ id o1,id∈base->s.heap id=some o1->¬ g.fp id k)->w'.heap[k]?=w.heap[k]?)
  (h:out=⟨.ref key,(key,some (.arr sz zs))::(kill base++src),true⟩):Done cx s g a w o key out:=by
 subst h
 -- memory behind the operation,number by number
 have hheap:∀ id,wsOn s.heap ((key,some (.arr sz zs))::(kill base++src)) id=match src with
   | [(j,o')]=>if id=j then o' else if id∈base then none else if id=key then some (.arr sz zs) else s.heap id
   | _=>if id∈base then none else if id=key then some (.arr sz zs) else s.heap id:=by
  intro id
  have happ:∀ (h:Nat->Option AO) (l:List (Nat×Option AO)),wsOn h (kill base++l)=wsOn (wsOn h (kill base)) l:=by
   intro h l
   rcases hbase with rfl|⟨id,_,_,rfl,_⟩<;>simp[kill,wsOn]
  rcases hsrc with rfl|⟨j,sz0,xs0,o',rfl,_⟩
  ·rw[wsOn,happ,wsOn,Ze0];rfl
  ·rw[wsOn,happ]
   simp only[wsOn,upd,Ze0]
 have hkb:key ∉ base:=by
  rcases hbase with rfl|⟨id,sz0,xs0,rfl,hid⟩
  ·simp
  ·intro hm
   rw[Xn.1 hm]at hk
   exact hk (m.used _ _ hid)
 have hks:∀ j o',src=[(j,o')]->key≠j:=by
  intro j o' he e
  rcases hsrc with rfl|⟨j2,sz0,xs0,o2,rfl,hj,_⟩
  ·cases he
  ·simp only[Xcv,Xk,Xbv]at he
   exact hk (m.used _ _ (e ▸ he.1 ▸ hj))
 have hmem:∀ id,id∈src.map (·.1)↔∃ o',src=[(id,o')]:=by
  intro id
  rcases hsrc with rfl|⟨j2,sz0,xs0,o2,rfl,hj,_⟩
  ·simp
  ·simp only[Xx,Xt,Xn,Xcv,Xk,Xbv]
   exact⟨fun h=>⟨o2,h.symm,rfl⟩,fun ⟨_,h,_⟩=>h.symm⟩
 have hold:∀ id,id∈base\/id∈src.map (·.1)->∃ sz0 xs0,s.heap id=some (.arr sz0 xs0):=by
  rintro id (h1|h1)
  ·rcases hbase with rfl|⟨id',sz0,xs0,rfl,hid⟩
   ·simp at h1
   ·rw[Xn.1 h1];exact⟨_,_,hid⟩
  ·obtain⟨o',ho'⟩:=(hmem id).1 h1
   rcases hsrc with rfl|⟨j2,sz0,xs0,o2,rfl,hj,_⟩
   ·cases ho'
   ·simp only[Xcv,Xk,Xbv]at ho'
    exact⟨_,_,ho'.1 ▸ hj⟩
 -- who lives on
 have hcases:∀ id o1,wsOn s.heap ((key,some (.arr sz zs))::(kill base++src)) id=some o1->(id=key/\o1=.arr sz zs)\/(src=[(id,some o1)]/\id≠key)\/(id≠key/\id ∉ base/\id ∉ src.map (·.1)/\s.heap id=some o1):=by
  intro id o1 ho
  rw[hheap]at ho
  rcases hsrc with rfl|⟨j,sz0,xs0,o',rfl,hj,_⟩
  ·simp only at ho
   by_cases h1:id∈base
   ·simp[h1]at ho
   ·by_cases h2:id=key
    ·simp only[h1,h2,Xaj,Xag]at ho;rw[Xu hkb]at ho;exact .inl ⟨h2,(Xf ho).symm⟩
    ·simp only[h1,h2,Xaj]at ho;exact .inr (.inr ⟨h2,h1,by simp,ho⟩)
  ·simp only at ho
   by_cases h0:id=j
   ·subst h0
    simp only[Xag]at ho
    exact .inr (.inl ⟨by rw[ho],fun e=>hks _ _ rfl e.symm⟩)
   ·by_cases h1:id∈base
    ·simp[h0,h1]at ho
    ·by_cases h2:id=key
     ·simp only[h0,h1,h2,Xaj,Xag]at ho
      rw[Xu (hks _ _ rfl),Xu hkb]at ho
      exact .inl ⟨h2,(Xf ho).symm⟩
     ·simp only[h0,h1,h2,Xaj]at ho;exact .inr (.inr ⟨h2,h1,by simp;exact h0,ho⟩)
 let g':Gh:=⟨upd g.v key v',fun j=>if j=key then F else if j∈src.map (·.1) then F' else g.fp j,g.I,fun b=>g.N b\/(w.heap.size<=b/\b<w'.heap.size),fun id=>g.used id\/id=key⟩
 have hsrc':∀ id o1,src=[(id,some o1)]->∃ sz0 xs0 xs',s.heap id=some (.arr sz0 xs0)/\(∀ i∈base,i≠id)/\(∀ x,F' x->g.fp id x/\¬ F x)/\o1=.arr sz0 xs'/\Cl w g.I (g.v id) (.sl .own sz0 xs') F':=by
  intro id o1 he
  rcases hsrc with rfl|⟨j,sz0,xs0,o',rfl,hj,hb,hF',hc⟩
  ·cases he
  ·simp only[Xcv,Xk,Xbv]at he
   obtain⟨rfl,rfl⟩:=he
   obtain⟨xs',h1,h2⟩:=hc o1 rfl
   exact⟨sz0,xs0,xs',hj,hb,hF',h1,h2⟩
 have t:Touch cx (fun id=>id=key\/id∈base\/id∈src.map (·.1)) s.heap s.ep g w (wsOn s.heap ((key,some (.arr sz zs))::(kill base++src))) (s.ep+1) g' w':=by
  refine⟨hos,htape,hout,hsize,Xca _,?_,?_,fun _ h=>.inl h,?_,?_,?_,?_,fun _ h=>h,fun _ h=>.inl h,fun b hb=>.inl (m.I_N b hb),fun _ h=>.inl h,fun b hb=>hb,fun he=>absurd he (by omega)⟩
  ·intro id hT
   have h1:id≠key:=fun e=>hT (.inl e)
   have h2:id ∉ base:=fun e=>hT (.inr (.inl e))
   have h3:id ∉ src.map (·.1):=fun e=>hT (.inr (.inr e))
   refine⟨?_,fun _=>⟨by simp[g',upd,h1],by simp only[g',h1,Xaj];rw[Xu h3]⟩⟩
   rw[hheap]
   rcases hsrc with rfl|⟨j,sz0,xs0,o',rfl,_⟩
   ·simp[h1,h2]
   ·simp only[Xx,Xt,Xn]at h3
    simp[h1,h2,h3]
  ·intro b hb hO
   exact hsame b hb (fun id o1 hid ho hf=>hO ⟨id,o1,.inr (.inl hid),ho,hf⟩)
  ·intro id o1 hT ho
   rcases hcases id o1 ho with ⟨h1,_⟩|⟨h1,_⟩|⟨h1,h2,h3,_⟩
   ·exact .inr h1
   ·obtain⟨sz0,xs0,xs',hj,_⟩:=hsrc' id o1 h1
    exact .inl (m.used _ _ hj)
   ·rcases hT with h|h|h
    ·exact absurd h h1
    ·exact absurd h h2
    ·exact absurd h h3
  ·intro id o1 hT hu ho
   rcases hcases id o1 ho with ⟨h1,_⟩|⟨h1,hne⟩|⟨h1,h2,h3,_⟩
   ·exact absurd (h1 ▸ hu) hk
   ·obtain⟨sz0,xs0,xs',hj,_,_,rfl,_⟩:=hsrc' id o1 h1
    exact⟨_,hj,rfl,by simp[g',upd,hne]⟩
   ·rcases hT with h|h|h
    ·exact absurd h h1
    ·exact absurd h h2
    ·exact absurd h h3
  ·intro id o1 b hT ho hf
   rcases hcases id o1 ho with ⟨h1,_⟩|⟨h1,hne⟩|⟨h1,h2,h3,_⟩
   ·have hf':F b:=by simpa [g',h1] using hf
    rcases hF b hf' with h4|⟨id0,o0,h4,h5,h6⟩
    ·exact⟨.inl h4.1,fun hI=>by have:=m.I_lt b hI;omega⟩
    ·exact⟨.inr ⟨id0,o0,.inr h4,h5,h6⟩,(m.mine id0 o0 b h5 h6).2⟩
   ·obtain⟨sz0,xs0,xs',hj,_,hF',_⟩:=hsrc' id o1 h1
    have hin:id∈src.map (·.1):=by rw[h1];simp
    have hf':F' b:=by simp only[g',hne,Xaj]at hf;rw[Xr hin]at hf;exact hf
    exact⟨.inr ⟨id,_,.inr (.inr hin),hj,(hF' b hf').1⟩,(m.mine id _ b hj (hF' b hf').1).2⟩
   ·rcases hT with h|h|h
    ·exact absurd h h1
    ·exact absurd h h2
    ·exact absurd h h3
  ·intro id id' o1 o2 b hT hT' ho ho' hf hf'
   have dead:∀ i,(i=key\/i∈base\/i∈src.map (·.1))->i≠key->i ∉ base->i ∉ src.map (·.1)->False:=fun i h h1 h2 h3=>h.elim h1 (fun h=>h.elim h2 h3)
   rcases hcases id o1 ho with ⟨h1,_⟩|⟨h1,hne⟩|⟨h1,h2,h3,_⟩
   ·rcases hcases id' o2 ho' with ⟨h1',_⟩|⟨h1',hne'⟩|⟨h1',h2',h3',_⟩
    ·exact h1.trans h1'.symm
    ·obtain⟨sz0,xs0,xs',hj,_,hF',_⟩:=hsrc' id' o2 h1'
     have hin:id'∈src.map (·.1):=by rw[h1'];simp
     have hfF:F b:=by simpa [g',h1] using hf
     have hfF':F' b:=by simp only[g',hne',Xaj]at hf';rw[Xr hin]at hf';exact hf'
     exact absurd hfF (hF' b hfF').2
    ·exact (dead id' hT' h1' h2' h3').elim
   ·rcases hcases id' o2 ho' with ⟨h1',_⟩|⟨h1',hne'⟩|⟨h1',h2',h3',_⟩
    ·obtain⟨sz0,xs0,xs',hj,_,hF',_⟩:=hsrc' id o1 h1
     have hin:id∈src.map (·.1):=by rw[h1];simp
     have hfF:F b:=by simpa [g',h1'] using hf'
     have hfF':F' b:=by simp only[g',hne,Xaj]at hf;rw[Xr hin]at hf;exact hf
     exact absurd hfF (hF' b hfF').2
    ·rw[h1]at h1'
     simp only[Xcv,Xk,Xbv]at h1'
     exact h1'.1
    ·exact (dead id' hT' h1' h2' h3').elim
   ·exact (dead id hT h1 h2 h3).elim
 have k:=t.keeps m
 have hFN:∀ x,F x->g'.N x:=by
  intro x hx
  rcases hF x hx with h4|⟨id0,o0,h4,h5,h6⟩
  ·exact .inr h4
  ·obtain⟨sz0,xs0,h7⟩:=hold id0 h4
   exact .inl ((m.objs id0 _ h7).2 x h6)
 refine⟨_,v',w',g',hrun,.inl rfl,k,t.mem m (fun id o1 hT ho=>?_),?_,?_⟩
 ·rcases hcases id o1 ho with ⟨h1,rfl⟩|⟨h1,hne⟩|⟨h1,h2,h3,_⟩
  ·subst h1
   have e1:g'.v id=v':=by simp[g',upd]
   have e2:g'.fp id=F:=by simp[g']
   rw[e1,e2]
   exact⟨hcl,hFN⟩
  ·obtain⟨sz0,xs0,xs',hj,hb,hF',rfl,hc⟩:=hsrc' id o1 h1
   have hin:id∈src.map (·.1):=by rw[h1];simp
   have e1:g'.v id=g.v id:=by simp[g',upd,hne]
   have e2:g'.fp id=F':=by simp only[g',hne,Xaj];rw[Xr hin]
   rw[e1,e2]
   refine⟨hc.mono (fun b hb2=>?_) k.I (fun _ h=>h),fun x hx=>.inl ((m.objs id _ hj).2 x (hF' x hx).1)⟩
   refine hsame b ((m.objs id _ hj).lt b (hF' b hb2).1) (fun i oi hi hoi hfi=>?_)
   exact hb i hi (m.disj i id _ _ b hoi hj hfi (hF' b hb2).1)
  ·rcases hT with h|h|h
   ·exact absurd h h1
   ·exact absurd h h2
   ·exact absurd h h3
 ·refine .ref _ _ hcl.one (.inr rfl) (fun o1 ho=>?_)
  simp[g',upd]
 ·intro id hu
  rcases hu with hu|rfl
  ·exact .inl hu
  ·exact .inr ⟨Xo _,by omega⟩
theorem Zbi{xs:List (List AV)}{n i j:Nat}{c:AV}(h:cellAt (xs.take n) i j=some c):cellAt xs i j=some c:=by
 obtain⟨row,h1,h2⟩:=Zab.1 h
 rw[Xal]at h1
 split at h1
 ·exact Zab.2 ⟨row,h1,h2⟩
 ·cases h1
theorem Cl.take{w:World}{I:Nat->Prop}{gv v:Value}{sz:Nat}{xs:List (List AV)}{S:Nat->Prop}{n:Nat}(h:Cl w I gv (.sl .own sz xs) S)(hn:n<=xs.length)(hc:CutAt gv n v):∃ S',Cl w I v (.sl .own sz (xs.take n)) S'/\∀ x,S' x->S x:=by
 rcases hc with ⟨b',len',cap',hg,rfl⟩|⟨hg,rfl,rfl⟩
 ·cases h with
  | nil=>cases hg
  | own _ _ b cap cur e us fs S hheap hcap hmax hcur hrow hcell hin hdis hnot hS =>
   simp only[Value.slice.injEq,Xb,Addr.mk.injEq,Xbv]at hg
   obtain⟨rfl,-,-⟩:=hg
   have hl:(xs.take n).length=n:=by rw[Xbj];omega
   have hcs:n*sz<=cur.size:=Xac (Xaf sz (by omega)) hcur
   refine⟨fun x=>x=b\/∃ i j c,cellAt (xs.take n) i j=some c/\fs i j x,?_,fun x hx=>?_⟩
   ·have:=Cl.own (I:=I) sz (xs.take n) b n cur e us fs _ hheap (by omega) (by omega) hcs (fun row hr=>hrow row (Xbf hr)) (fun i j c hc=>hcell i j c (Zbi hc)) (fun i j c hc=>hin i j c (Zbi hc))
     (fun i j c i' j' c' x h1 h2=>hdis i j c i' j' c' x (Zbi h1) (Zbi h2)) (fun i j c hc=>hnot i j c (Zbi hc)) (fun x=>Iff.rfl)
    rw[hl]at this
    exact this
   ·rcases hx with rfl|⟨i,j,c,h1,h2⟩
    ·exact (hS _).2 (.inl rfl)
    ·exact (hS x).2 (.inr ⟨i,j,c,Zbi h1,h2⟩)
 ·exact⟨fun _=>False,.nil _ _ (fun _ h=>h),fun _ h=>h.elim⟩
theorem Zlo(m:Mem cx s.heap s.ep g w)(hk:¬ g.used key){x1 x2:Operand}{t e:TypeId}{i0:TypeInfo}{z:Value}{flat:Bool}{y1 y2:Opd}(ho:o.op=.call { callee:=.builtin .append,args:=#[x1,x2],argTypes:=#[t,t] })
  (ht:cx.P.underlying t=some (.slice e)) (hi:cx.P.info? e=some i0) (hz:i0.zero=some z) (hzs:z.cells.size=i0.size)
  (h1:SRel cx.num w cx.R g s.heap s.ep (a.eval x1) (y1.ev s.slots)) (h2:SRel cx.num w cx.R g s.heap s.ep (a.eval x2) (y2.ev s.slots))
  (h:sem cl (.append i0.size i0.bytes flat y1 y2) key s.slots s.heap s.ep=some out):Done cx s g a w o key out:=by
 simp only[sem]at h
 generalize y1.ev s.slots=c1 at h h1
 generalize e1:a.eval x1=v1 at h1
 cases htk:takeRows s.heap s.ep flat (y2.ev s.slots) with
 | none=>rw[htk]at h;cases h
 | some p =>
  obtain⟨sz',ys,ws⟩:=p
  rw[htk]at h
  simp only at h
  split at h
  case isFalse=>cases h
  rename_i hszy
  obtain⟨us,fs,F',hsrc⟩:=Zrj m h2 htk
  have hrows:ys=[]\/Rows w g.I i0.size ys us fs:=by
   rcases hszy with rfl|hy
   ·exact .inr hsrc.rows
   ·exact .inl hy
  have hat:(ys=[]/\∃ ad cap,a.eval x2=.slice ad 0 cap)\/∃ (b off cap:Nat),a.eval x2=.slice (some ⟨b,off,none⟩) ys.length cap/\∀ i j c,cellAt ys i j=some c->w.cell? ⟨b,off+i*i0.size+j,none⟩=some (us i j):=by
   rcases hszy with rfl|hy
   ·exact hsrc.at_
   ·subst hy
    rcases hsrc.at_ with h|⟨b,off,cap,hv,_⟩
    ·exact .inl h
    ·exact .inl ⟨rfl,_,_,hv⟩
  have hfallold:∀ x,Fall ys fs x->∃ id sz0 xs0 o',ws=[(id,o')]/\s.heap id=some (.arr sz0 xs0)/\g.fp id x:=by
   intro x hx
   rcases hsrc.left with ⟨_,hn⟩|⟨id,sz0,xs0,o',hw,hj,hin,_⟩
   ·exact absurd hx (hn x)
   ·exact⟨id,sz0,xs0,o',hw,hj,hin x hx⟩
  have hlt:∀ x,Fall ys fs x->x<w.heap.size:=fun x hx=>by
   obtain⟨id,sz0,xs0,o',_,hj,hf⟩:=hfallold x hx
   exact (m.objs id _ hj).lt x hf
  have hys:ys=[]->∀ x,¬ Fall ys fs x:=by
   rintro rfl x ⟨i,j,c,hc,_⟩
   simp[cellAt]at hc
  -- the rest,given the base
  have fin:∀ (xs:List (List AV)) (S0:Nat->Prop) (base:List Nat),Cl w g.I v1 (.sl .own i0.size xs) S0->(base=[]/\(∀ x,¬ S0 x)\/∃ id xs',base=[id]/\s.heap id=some (.arr i0.size xs')/\∀ x,S0 x->g.fp id x) ->
    (∀ i∈base,∀ p∈ws,p.1≠i)->(xs.length+ys.length)*i0.bytes<=140737488355328->xs.length+ys.length<=140737488355328 ->
    out=⟨.ref key,(key,some (.arr i0.size (xs++ys)))::(kill base++ws),true⟩->Done cx s g a w o key out:=by
   intro xs S0 base hcl0 hb hne hb1 hb2 hout
   have hS0:∀ x,S0 x->∃ id xs',id∈base/\s.heap id=some (.arr i0.size xs')/\g.fp id x:=by
    intro x hx
    rcases hb with ⟨_,hn⟩|⟨id,xs',rfl,hid,hfp⟩
    ·exact absurd hx (hn x)
    ·exact⟨id,xs',by simp,hid,hfp x hx⟩
   have hdis:∀ x,S0 x->¬ Fall ys fs x:=by
    intro x hx hf
    obtain⟨id,_,hin,hid,hfx⟩:=hS0 x hx
    obtain⟨id',sz0,xs0,o',hw,hj,hf'⟩:=hfallold x hf
    exact hne id hin (id',o') (by rw[hw];simp) (m.disj id' id _ _ x hj hid hf' hfx)
   obtain⟨v',w',F,hrun,hcl',hF,h3,h4,h5,h6,h7⟩:=Znf (ty:=o.type) ht hi hz hzs rfl hcl0 hat hrows hys hdis (fun x hx hI=>by
    obtain⟨id,_,_,hid,hfx⟩:=hS0 x hx
    exact (m.mine id _ x hid hfx).2 hI) m.I_lt hlt hb1 hb2
   refine Zh8 m hk (v':=v') (w':=w') (F:=F) (F':=fun x=>F' x) (base:=base) (src:=ws) ?_ hcl' ?_ ?_ ?_ h3 h4 h5 h6 ?_ hout
   ·simp[execOp,ho,resolve,invoke,builtin,e1,hrun]
   ·rcases hb with ⟨rfl,_⟩|⟨id,_,rfl,hid,_⟩
    ·exact .inl rfl
    ·exact .inr ⟨id,_,_,rfl,hid⟩
   ·rcases hsrc.left with ⟨hw,_⟩|⟨id,sz0,xs0,o',hw,hj,hin,hF',hc⟩
    ·exact .inl hw
    ·refine .inr ⟨id,sz0,xs0,o',hw,hj,fun i hi e=>hne i hi (id,o') (by rw[hw];simp) e.symm,fun x hx=>⟨(hF' x hx).1,fun hFx=>?_⟩,hc⟩
     rcases hF x hFx with h8|h8|h8
     ·have:=(m.objs id _ hj).lt x (hF' x hx).1;omega
     ·obtain⟨id2,_,hin2,hid2,hfx2⟩:=hS0 x h8
      exact hne id2 hin2 (id,o') (by rw[hw];simp) (m.disj id id2 _ _ x hj hid2 (hF' x hx).1 hfx2)
     ·exact (hF' x hx).2 h8
   ·intro x hx
    rcases hF x hx with h8|h8|h8
    ·exact .inl h8
    ·obtain⟨id2,_,hin2,hid2,hfx2⟩:=hS0 x h8
     exact .inr ⟨id2,_,.inl hin2,hid2,hfx2⟩
    ·obtain⟨id',sz0,xs0,o',hw,hj,hf'⟩:=hfallold x h8
     exact .inr ⟨id',_,.inr (by rw[hw];simp),hj,hf'⟩
   ·intro k hk2 hno
    refine h7 k hk2 (fun hS=>?_)
    obtain⟨id2,_,hin2,hid2,hfx2⟩:=hS0 k hS
    exact hno id2 _ hin2 hid2 hfx2
  cases c1<;>try (cases h;done)
  ·rename_i md szb xs
   cases md<;>cases xs<;>try (cases h;done)
   dsimp only at h
   split at h
   case isFalse=>cases h
   rename_i hb
   cases h1 with
   | nil=>exact fin [] (fun _=>False) [] (.nil _ _ (fun _ h=>h)) (.inl ⟨rfl,fun _ h=>h⟩) (by simp) (by simpa using hb.1) (by simpa using hb.2) (Xf h).symm
   | sl _ _ _ _ _ _ _ hown=>exact absurd rfl hown
  ·rename_i id
   dsimp only at h
   cases hh:s.heap id with
   | none=>rw[hh]at h;cases h
   | some ob =>
    rw[hh]at h
    cases ob<;>simp only[reduceCtorEq]at h
    rename_i sz2 xs
    split at h
    case isFalse=>cases h
    rename_i hb
    obtain⟨hb1,hb2,hb3,rfl⟩:=hb
    cases h1 with
    | ref _ _ _ _ hv =>
     have hv':=hv _ hh
     subst hv'
     refine fin xs (g.fp id) [id] (m.objs id _ hh).1 (.inr ⟨id,_,rfl,hh,fun _ h=>h⟩) ?_ hb1 hb2 (Xf h).symm
     intro i hi p hp
     rw[Xn.1 hi]
     rw[Xao]at hb3
     simpa using hb3 p hp
  ·rename_i id n
   dsimp only at h
   cases hh:s.heap id with
   | none=>rw[hh]at h;cases h
   | some ob =>
    rw[hh]at h
    cases ob<;>simp only[reduceCtorEq]at h
    rename_i sz2 xs
    split at h
    case isFalse=>cases h
    rename_i hb
    obtain⟨hb0,hb1,hb2,hb3,rfl⟩:=hb
    cases h1 with
    | cut _ _ _ _ hu hv =>
     obtain⟨S',hcl,hsub⟩:=(m.objs id _ hh).1.take hb0 (hv _ hh)
     have hl:(xs.take n).length=n:=by rw[Xbj];omega
     refine fin (xs.take n) S' [id] hcl (.inr ⟨id,_,rfl,hh,hsub⟩) ?_ (by rw[hl];exact hb1) (by rw[hl];exact hb2) (Xf h).symm
     intro i hi p hp
     rw[Xn.1 hi]
     rw[Xao]at hb3
     simpa using hb3 p hp
end
end Go.Proofs.YtgdfelbedghhnaaGreatDoor
