/- A row that lists variables: the way from the row's form to the call, and what a listed variable's block is. -/
import Derived.Handed
import Derived.ChangeFn
import Derived.Lib.LaidTab
import Derived.Stop.LaidErr
import Derived.Laws.AppendOwn
import Derived.FnData
namespace Go.Proofs.YtgdfelbedghhnaaGreatDoor
open Go Go.RowKit Go.ChangeShapes
theorem Zk1{H:Type}{enc:TypeId×Value->H}{a:Assume}{C:Checked}{os:Os}{f:FuncId}{fn:Func}{s:ChangeSpec}{conds:List PathCond}{apart fresh handsOn again:Bool}{X:World->Array Value->Prop}
  (hX:∀ (w w':World) (args:Array Value),w.heap=w'.heap->X w args->X w' args)
  (own:ownKnob C.prog.godebug=none) (started:os.Started) (noInit:C.prog.inits.idxOf? f=none) (hfn:C.prog.funcs[f]?=some fn)
  (witness:∃ (w:World) (tape:Tape) (i:Input),w.os=os/\(w.forCall tape i).Shaped C.prog/\i.vars=[]/\Input.okWide C.prog (w.forCall tape i) .any w.heap.size f i /\
   ((s.pre enc C.prog fn conds apart (w.forCall tape i).memory i.args/\X (w.forCall tape i).memory i.args)/\sizedMet enc C.prog fn (OpenSpec.ofChange s) apart (w.forCall tape i).memory i.args)/\a.holds C.prog (lone (Frame.enter C.prog f i.args .normal) [] (w.forCall tape i)))
  (contract:∀ (W:World) (base:Nat) (args:Array Value) (ds gs:List (DataW H)) (before:List MemPlace),
   (∀ (j:Nat) t v,fn.params[j]?=some t->args[j]?=some v->Value.okWide C.prog W .any base t v) ->
   DataW.Whole enc C.prog fn.params.toList s.vars apart W args.toList ds gs before->W.ShapedOpen C.prog->X W args ->
   Calls C.prog f args W fun e W'=>∃ v,e=.returned v/\s.post enc C.prog fn apart fresh handsOn again W args v W') :
  ReturnsInHanded a C os f .any (fun w args=>(s.pre enc C.prog fn conds apart w args/\X w args)/\sizedMet enc C.prog fn (OpenSpec.ofChange s) apart w args) (s.post enc C.prog fn apart fresh handsOn again):=by
 refine returnsInHanded_of_calls own started noInit witness ?_
 intro w tape i _ hsh _ hok hpre _
 obtain⟨_,_,_,fn',hfn',_,_,_,_,hval⟩:=hok
 have e:fn'=fn:=Option.some.inj (hfn'.symm.trans hfn)
 subst e
 obtain⟨⟨⟨ds,gs,before,hw,hc⟩,hx⟩,hz⟩:=hpre
 have hw':=DataW.Whole.of_heap (w':=w.forCall tape i) (by rfl) hw
 refine (contract (w.forCall tape i) w.heap.size i.args ds gs before hval hw' hsh (hX _ _ _ (by rfl) hx)).mono fun e W' ⟨v,he,hp⟩=>?_
 subst he
 exact ChangeSpec.post_blind hp
theorem Zqa{P:Program}{W:World}{name:String}{g:Nat}{cs:Array Value}(hg:P.globalNamed name=some g)(h:W.var? P name=some cs):∃ t fr,W.heap[g]?=some (.cells cs t fr):=by
 simp only[World.var?,hg,Option.bind_some]at h
 split at h
 ·rename_i cs' t fr e
  cases h
  exact⟨t,fr,e⟩
 ·cases h
theorem Zlc{P:Program}{W:World}{name:String}{g:Nat}{cs:Array Value}{t:TypeId}{fr:Nat×Nat}(hg:P.globalNamed name=some g)(h:W.heap[g]?=some (.cells cs t fr)):W.var? P name=some cs:=by
 simp[World.var?,hg,h]
theorem Ziu{P:Program}{W:World}{name nm:String}{d:DataW Unit}{rest:List (String×DataW Unit)}{g:Nat}{ti:TypeId}{ms:Array (String×TypeId)}(h:laidMet P ((name,.iface nm d)::rest) W)
  (hg:P.globalNamed name=some g) (ht:(P.globals[g]?).map (·.type)=some ti) (hi:P.underlying ti=some (.interface ms)):∃ ev,W.cell? ⟨g,0,none⟩=some ev/\(ev=.nilIface\/∃ te pe,ev=.iface te pe):=by
 obtain⟨ps,⟨g0,t0,cs0,f0,p0,q0,hg0,ht0,hv0,hd0,_,_⟩,_⟩:=h
 obtain rfl:=Option.some.inj (hg.symm.trans hg0)
 obtain rfl:=Option.some.inj (ht.symm.trans ht0)
 obtain⟨_,u,v,hcs,_,_⟩:=iface_of_trod hi hd0
 have hc:=World.var?_cell hg hv0 0
 have e:cs0[0]?=some (.iface u v):=by
  rw[<- Array.getElem?_toList,hcs];rfl
 rw[e]at hc
 exact⟨_,hc,.inr ⟨u,v,rfl⟩⟩
theorem Ze9{W:World}{a:Addr}{v:Value}(h:W.cell? a=some v):∃ o,W.heap[a.block]?=some o:=by
 unfold World.cell? at h
 cases hb:W.heap[a.block]? with
 | none=>simp[hb]at h
 | some o=>exact⟨o,rfl⟩
noncomputable def putVar(h:Array Obj)(g:Nat)(cs:Array Value):Array Obj:=h.modify g fun
 | .cells _ t frozen=>.cells cs t frozen
 | o=>o
end Go.Proofs.YtgdfelbedghhnaaGreatDoor
