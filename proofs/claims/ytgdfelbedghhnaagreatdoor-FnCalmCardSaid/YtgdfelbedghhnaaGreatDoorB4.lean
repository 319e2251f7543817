/- sort.Slice in the abstract machine: the interface, the closure, the call. And what follows from it, part by part, as the proof needs it. -/
import Derived.Test.YtgdfelbedghhnaaGreatDoorB3
import Derived.Test.YtgdfelbedghhnaaGreatDoorB1
import Derived.Orders
import Derived.LoopN
namespace Go.Proofs.YtgdfelbedghhnaaGreatDoor
open Go Go.RowKit
set_option linter.unusedSimpArgs false
section
variable {cx:Cx} {s:St} {g:Gh} {a:Act} {w:World} {o:Oper} {key:Nat} {out:Out} {cl:Callee}
theorem Znr(m:Mem cx s.heap s.ep g w){kl:Nat}{t:TypeId}{x:Operand}{y:Opd}(ho:o.op=.makeInterface t x)(ht:cx.P.concrete t=true)(hn:cx.num (1000+kl)=some t)(h1:SRel cx.num w cx.R g s.heap s.ep (a.eval x) (y.ev s.slots))
  (h:sem cl (.mkifs kl y) key s.slots s.heap s.ep=some out):Done cx s g a w o key out:=by
 simp only[sem]at h
 generalize y.ev s.slots=c1 at h h1
 generalize e1:a.eval x=v1 at h1
 cases c1<;>try (cases h;done)
 rename_i id
 simp only at h
 cases hh:s.heap id with
 | none=>rw[hh]at h;cases h
 | some ob =>
  rw[hh]at h
  cases ob<;>try (cases h;done)
  cases h1 with
  | ref _ _ h2 hu hv =>
   refine Zai m (v:=.iface t v1) ?_ (.ifs kl id _ rfl hu fun o' ho'=>⟨t,hn,by rw[hv o' ho']⟩) h
   simp[execOp,ho,e1,run_makeInterface (h:=ht)]
theorem Znq(m:Mem cx s.heap s.ep g w){kl:Nat}{f:FuncId}{x:Operand}{y:Opd}(ho:o.op=.makeFunc (.func f) #[] #[x])(hn:cx.num kl=some f)(h1:SRel cx.num w cx.R g s.heap s.ep (a.eval x) (y.ev s.slots))
  (h:sem cl (.mkclo kl y) key s.slots s.heap s.ep=some out):Done cx s g a w o key out:=by
 simp only[sem]at h
 generalize y.ev s.slots=c1 at h h1
 generalize e1:a.eval x=v1 at h1
 cases c1<;>try (cases h;done)
 rename_i id i off
 cases i<;>cases off<;>try (cases h;done)
 simp only at h
 cases hh:s.heap id with
 | none=>rw[hh]at h;cases h
 | some ob =>
  rw[hh]at h
  cases ob<;>try (cases h;done)
  cases h1 with
  | ptr _ _ _ _ h2 hu hv =>
   refine Zai m (v:=.func (.func f) #[] #[v1]) ?_ (.clo kl id _ rfl hu fun o' ho'=>?_) h
   ·simp[execOp,ho,e1,Instr.makeFunc]
   ·obtain⟨b,h3,h4⟩:=hv _ hh
    exact⟨f,b,hn,h3,by rw[h4]⟩
theorem Zn7(m:Mem cx s.heap s.ep g w){c:Call}{fs:FuncId}{kl of c0 sz:Nat}{y1 y2:Opd}(ho:o.op=.call c)(hce:c.callee=.value (.func fs))(hfs:cx.num kSort=some fs)
  (hargs:c.args.toList.length=2/\∀ (i:Nat) (xo:Operand) (z:Opd),c.args.toList[i]?=some xo->[y1,y2][i]?=some z->SRel cx.num w cx.R g s.heap s.ep (a.eval xo) (z.ev s.slots))
  (h:sem cl (.sortc kl of c0 sz y1 y2) key s.slots s.heap s.ep=some out):Goes cx s g a w o key out:=by
 obtain⟨hal,har⟩:=hargs
 obtain⟨x1,x2,hx⟩:∃ x1 x2,c.args.toList=[x1,x2]:=by
  match hc:c.args.toList,hal with
  | [x1,x2],_=>exact⟨x1,x2,rfl⟩
 have r1:=har 0 x1 y1 (by rw[hx];rfl) rfl
 have r2:=har 1 x2 y2 (by rw[hx];rfl) rfl
 have hca:c.args=#[x1,x2]:=Xcs hx
 simp only[sem]at h
 generalize y1.ev s.slots=c1 at h r1
 generalize y2.ev s.slots=c2 at h r2
 generalize e1:a.eval x1=v1 at r1
 generalize e2:a.eval x2=v2 at r2
 cases c1<;>try (cases h;done)
 cases c2<;>try (cases h;done)
 rename_i k1 id k2 b
 simp only at h
 cases hh:s.heap id with
 | none=>rw[hh]at h;cases h
 | some ob =>
  cases hb:s.heap b with
  | none=>rw[hh,hb]at h;cases ob<;>cases h
  | some ob2 =>
   rw[hh,hb]at h
   cases ob<;>try (cases h;done)
   cases ob2<;>try (cases h;done)
   rename_i sz' xs cells
   simp only at h
   split at h
   case isFalse=>cases h
   rename_i hcond
   obtain⟨rfl,rfl,htab,rfl,href,hne,hlen9,hka⟩:=hcond
   obtain rfl:=Xf h
   cases r1 with
   | ifs _ _ _ _ hu1 hv1 =>
   cases r2 with
   | clo _ _ _ _ hu2 hv2 =>
   obtain⟨t,hnt,rfl⟩:=hv1 _ hh
   obtain⟨f,bb,hnf,hgb,rfl⟩:=hv2 _ hb
   obtain⟨hcl0,hN0⟩:=m.objs id _ hh
   obtain⟨b',cur2,ee2,hgb',hheap2,hsz2,hS2,hnN2,hcells2⟩:=m.objs b _ hb
   rw[hgb]at hgb'
   simp only[Value.pointer.injEq,Xb,Addr.mk.injEq,Xbv]at hgb'
   subst hgb'
   have hlt:=hcl0.lt
   have hgv:∃ v,g.v id=v:=⟨_,rfl⟩
   obtain⟨gv,hgv⟩:=hgv
   rw[hgv]at hcl0
   cases hcl0 with
   | nil=>simp at hne
   | own _ _ blk cap cur e us fs' _ hheap hcap hmax hcur hrow hcell hin hdis hnot hS =>
   have hSb:g.fp id blk:=(hS blk).2 (.inl rfl)
   have hids:id≠b:=by rintro rfl;rw[hh]at hb;cases hb
   have hbne:bb≠blk:=by
    rintro rfl
    exact hids (m.disj id b _ _ bb hh hb hSb ((hS2 bb).2 rfl))
   obtain⟨hdf,hkeys⟩:=Zca c0 hka
   -- the key's place is in a row
   have hpos:0<xs.length:=by cases xs with|nil=>simp at hne|cons _ _=>simp
   have hc0:c0<sz':=by
    have h0:xs[0]?=some (xs[0]'hpos):=Xd hpos
    obtain⟨s0,hs0⟩:=hkeys _ (Xbx hpos)
    have hl:=hrow _ (Xbx hpos)
    unfold keyAt at hs0
    cases hq:xs[0][c0]? with
    | none=>rw[hq]at hs0;cases hs0
    | some q=>have:=(Xa.1 hq).1;omega
   have hcat:∀ i j,i<xs.length->j<sz'->∃ d,cellAt xs i j=some d:=fun i j hi hj=>by
    have hl:=hrow _ (Xbx hi)
    exact⟨_,Zab.2 ⟨xs[i],Xd hi,Xd (by omega)⟩⟩
   let ks:Nat->ByteArray:=fun i=>((xs[i]?).bind (keyAt c0)).getD ByteArray.empty
   have hks:∀ i r,xs[i]?=some r->keyAt c0 r=some (ks i):=fun i r hr=>by
    obtain⟨s0,hs0⟩:=hkeys r (Xe hr)
    simp[ks,hr,hs0]
   have hus:∀ i,i<xs.length->us i c0=.string (ks i):=fun i hi=>by
    have hr:xs[i]?=some xs[i]:=Xd hi
    have hk:=hks i _ hr
    unfold keyAt at hk
    cases hq:xs[i][c0]? with
    | none=>rw[hq]at hk;cases hk
    | some q =>
     rw[hq]at hk
     have hcc:cellAt xs i c0=some q:=Zab.2 ⟨_,hr,hq⟩
     have hC:=hin i c0 q hcc
     generalize us i c0=uv at hC ⊢
     cases q<;>try (cases hk;done)
     simp only[Xb]at hk
     subst hk
     cases hC with
     | str _ _ _=>rfl
   have hslot:w.cell? ⟨bb,of,none⟩=some (.slice (some ⟨blk,0,none⟩) xs.length cap):=by
    rw[Zaf hheap2]
    cases hq:cells[of]? with
    | none=>rw[hq]at href;cases href
    | some q =>
     rw[hq]at href
     cases q<;>try (cases href;done)
     simp only[isRef,Xan]at href
     subst href
     have hlq:=(Xa.1 hq).1
     have hcu:cur2[of]?=some (cur2[of]'(by omega)):=Xz (by omega)
     obtain⟨_,hsr⟩:=hcells2 of _ _ hcu hq
     rw[hcu]
     generalize cur2[of]'(by omega)=uv at hsr ⊢
     cases hsr with
     | ref _ _ _ _ hv3=>rw[hv3 _ hh,hgv]
   have hsort:=m.srt k2 of c0 sz' htab f t fs hnf hnt hfs w blk cap bb xs.length cur e us ks hheap hpos (by omega) hcap hmax hcur
    (fun i j hi hj=>by obtain⟨d,hd⟩:=hcat i j hi hj;exact⟨hcell i j d hd,(hin i j d hd).one⟩) hc0 hus hbne (Xab.1 hheap2).1 hslot
   intro next Q hnext
   have hrun:(execOp a.eval o).run cx.P w=(callFunc fs #[.iface t (g.v id),.func (.func f) #[] #[.pointer (some ⟨bb,0,none⟩)]]).run cx.P w:=by
    have e3:a.eval (.func fs)=.func (.func fs) #[] #[]:=rfl
    simp[execOp,ho,resolve,hce,e3,Deferred.ofValue,invoke,hca,e1,e2]
   unfold Oper.wp
   rw[hrun,hgv]
   refine hsort o a next Q ?_
   rintro v w' ⟨rfl,p,cur',hperm,hpair,hos,htape,hout,hsize,hblock,hheap',hcs,hcell'⟩
   have hys:=Zso hka hperm hks hpair
   have hplen:p.length=xs.length:=by rw[hperm.length_eq,Xb5]
   have hplt:∀ (i a':Nat),p[i]?=some a'->a'<xs.length:=fun i a' hi=>List.mem_range.1 (hperm.mem_iff.1 (Xe hi))
   generalize hyse:sortRows c0 xs=ys at hys
   have hylen:ys.length=xs.length:=by rw[hys,Xb1,hplen]
   have hyc:∀ i j d,cellAt ys i j=some d->∃ a',p[i]?=some a'/\cellAt xs a' j=some d:=fun i j d hd=>by
    obtain⟨row,h3,h4⟩:=Zab.1 hd
    rw[hys,Xam]at h3
    cases hpi:p[i]? with
    | none=>rw[hpi]at h3;cases h3
    | some a' =>
     rw[hpi]at h3
     have hl:=hplt i a' hpi
     simp only[Xw,Xb,List.getD,Xd hl,Xbb]at h3
     exact⟨a',rfl,Zab.2 ⟨row,by rw[<- h3];exact Xd hl,h4⟩⟩
   have hpnd:p.Nodup:=hperm.nodup_iff.2 List.nodup_range
   let us':Nat->Nat->Value:=fun i j=>us (p.getD i 0) j
   let fs2:Nat->Nat->Nat->Prop:=fun i j=>fs' (p.getD i 0) j
   have hgd:∀ (i a':Nat),p[i]?=some a'->p.getD i 0=a':=fun i a' hi=>by simp[List.getD,hi]
   have hsameI:∀ x,g.I x->w'.heap[x]?=w.heap[x]?:=fun x hx=>hblock x (m.I_lt x hx) (fun e=>(m.mine id _ x hh (by rw[e];exact hSb)).2 hx)
   have hsameF:∀ i j d,cellAt xs i j=some d->∀ x,fs' i j x->w'.heap[x]?=w.heap[x]?:=fun i j d hd x hx =>
    hblock x (hlt x ((hS x).2 (.inr ⟨i,j,d,hd,hx⟩))) (fun e=>hnot i j d hd (by rw[<- e];exact hx))
   have hCl:Cl w' g.I (g.v id) (.sl .own sz' ys) (g.fp id):=by
    rw[hgv]
    have hrw:Value.slice (some ⟨blk,0,none⟩) xs.length cap=.slice (some ⟨blk,0,none⟩) ys.length cap:=by rw[hylen]
    rw[hrw]
    refine .own sz' ys blk cap cur' e us' fs2 (g.fp id) hheap' (by omega) hmax (by omega) ?_ ?_ ?_ ?_ ?_ ?_
    ·intro row hr
     rw[hys]at hr
     obtain⟨a',ha',rfl⟩:=Xap.1 hr
     have hl:a'<xs.length:=List.mem_range.1 (hperm.mem_iff.1 ha')
     simp only[List.getD,Xd hl,Xbb]
     exact hrow _ (Xbx hl)
    ·intro i j d hd
     obtain⟨a',h3,h4⟩:=hyc i j d hd
     have hj:j<sz':=by
      obtain⟨row,h5,h6⟩:=Zab.1 h4
      have:=hrow row (Xe h5)
      have:=(Xa.1 h6).1
      omega
     simp only[us',hgd i a' h3]
     exact hcell' i j a' h3 hj
    ·intro i j d hd
     obtain⟨a',h3,h4⟩:=hyc i j d hd
     simp only[us',fs2,hgd i a' h3]
     exact (hin a' j d h4).mono (fun x hx=>hsameF a' j d h4 x hx) (fun x hx=>hsameI x hx) (fun _ h=>h)
    ·intro i j d i' j' d' x hd hd' hx hx'
     obtain⟨a',h3,h4⟩:=hyc i j d hd
     obtain⟨a2,h5,h6⟩:=hyc i' j' d' hd'
     simp only[fs2,hgd i a' h3]at hx
     simp only[fs2,hgd i' a2 h5]at hx'
     obtain⟨h7,h8⟩:=hdis a' j d a2 j' d' x h4 h6 hx hx'
     subst h7
     exact⟨Zhm hpnd h3 h5,h8⟩
    ·intro i j d hd
     obtain⟨a',h3,h4⟩:=hyc i j d hd
     simp only[fs2,hgd i a' h3]
     exact hnot a' j d h4
    ·intro x
     rw[hS x]
     constructor
     ·rintro (h3|⟨i,j,d,h4,h5⟩)
      ·exact .inl h3
      ·obtain⟨row,h6,h7⟩:=Zab.1 h4
       have hi:=(Xa.1 h6).1
       obtain⟨n,hn⟩:=Xak (hperm.mem_iff.2 (List.mem_range.2 hi))
       refine .inr ⟨n,j,d,Zab.2 ⟨row,?_,h7⟩,?_⟩
       ·rw[hys,Xam,hn]
        simp[List.getD,h6]
       ·simp only[fs2,hgd n i hn];exact h5
     ·rintro (h3|⟨i,j,d,h4,h5⟩)
      ·exact .inl h3
      ·obtain⟨a',h6,h7⟩:=hyc i j d h4
       simp only[fs2,hgd i a' h6]at h5
       exact .inr ⟨a',j,d,h7,h5⟩
   have hw:wsOn s.heap [(id,some (AO.arr sz' ys))]=upd s.heap id (some (.arr sz' ys)):=rfl
   have htouch:Touch cx (fun n=>n=id) s.heap s.ep g w (upd s.heap id (some (.arr sz' ys))) (s.ep+1) g w':=by
    refine⟨hos,htape,hout,hsize,by omega,?_,?_,fun _ h=>h,?_,?_,?_,?_,fun _ h=>h,fun b hb=>.inl hb,m.I_N,fun _ h=>h,fun b hb=>.inl hb,fun h=>by omega⟩
    ·intro n hn
     have hn':¬ n=id:=hn
     exact⟨by simp[upd,hn'],fun _=>⟨rfl,rfl⟩⟩
    ·intro b2 hb2 hof
     refine hblock b2 hb2 (fun e=>hof ⟨id,_,rfl,hh,by rw[e];exact hSb⟩)
    ·rintro n ob3 hn _
     have hn':n=id:=hn
     subst hn'
     exact m.used n _ hh
    ·rintro n ob3 hn _ hob
     have hn':n=id:=hn
     subst hn'
     simp only[upd,Xag,Xb]at hob
     subst hob
     exact⟨_,hh,rfl,rfl⟩
    ·rintro n ob3 x hn hob hx
     have hn':n=id:=hn
     subst hn'
     exact⟨.inr ⟨n,_,rfl,hh,hx⟩,(m.mine n _ x hh hx).2⟩
    ·rintro n n' ob3 ob4 x hn hn' _ _ _ _
     exact Eq.trans hn (Eq.symm hn')
   have hmem:=htouch.mem m (fun n ob3 hn hob=>by
    have hn':n=id:=hn
    subst hn'
    simp only[upd,Xag,Xb]at hob
    subst hob
    exact⟨hCl,hN0⟩)
   have hkeep:=htouch.keeps m
   rw[hyse]at hnext
   exact hnext _ w' g hkeep hmem (.tup #[] [] rfl (fun i v c hv=>by simp at hv)) (fun id hid=>.inl hid)
end
end Go.Proofs.YtgdfelbedghhnaaGreatDoor
namespace Go.Proofs.YtgdfelbedghhnaaGreatDoor
open Go
set_option linter.unusedSimpArgs false
section
variable {h h':Nat->Option AO} {ep ep':Nat}
theorem Md.ok_local{m:Md}(he:ep'=ep\/m.isSnap=false):m.ok ep'=m.ok ep:=by
 rcases he with rfl|he
 ·rfl
 ·cases m<;>first|rfl|(simp[Md.isSnap]at he)
theorem Zcw{x:AV}(hl:∀ id∈x.id?,h' id=h id)(he:ep'=ep\/x.snaps1=false):content h' ep' x=content h ep x:=by
 cases x<;>try rfl
 ·rename_i m sz xs
  have:=Md.ok_local (m:=m) (he.imp id fun h=>h)
  cases m<;>cases xs<;>simp only[content,this]
 ·rename_i id
  have:=hl id (by simp[AV.id?])
  simp only[content,this]
 ·rename_i id lo len
  have:=hl id (by simp[AV.id?])
  simp only[content,this]
theorem Zhd{x:AV}(hl:∀ id∈x.id?,h' id=h id)(he:ep'=ep\/x.snaps1=false):lend1 h' ep' x=lend1 h ep x:=by
 have hc:=Zcw hl he
 cases x<;>first|rfl|(simp only[lend1,hc];done)|skip
 rename_i m sz xs
 cases m<;>simp only[lend1,hc]
theorem Zhe:∀ {cs:List AV},(∀ id∈cs.flatMap AV.id?,h' id=h id)->(ep'=ep\/cs.any AV.snaps1=false)->lendL h' ep' cs=lendL h ep cs
 | [],_,_=>rfl
 | c::cs,hl,he=>by
  have h1:=Zhd (h:=h) (h':=h') (ep:=ep) (ep':=ep') (x:=c) (fun id hi=>hl id (by rw[Xai];exact Xg.2 (.inl hi))) (he.imp id fun h=>by simp only[Xbc,Xa4]at h;exact h.1)
  have h2:=Zhe (cs:=cs) (fun id hi=>hl id (by rw[Xai];exact Xg.2 (.inr hi))) (he.imp id fun h=>by simp only[Xbc,Xa4]at h;exact h.2)
  simp only[lendL,h1,h2]
theorem Zl5{x:AV}(hl:∀ id∈x.ids,h' id=h id)(he:ep'=ep\/x.snaps=false):lendV h' ep' x=lendV h ep x:=by
 cases x<;>first|(simp only[lendV];exact Zhd (by first|(simp[AV.ids];done)|simpa [AV.ids] using hl) (he.imp id fun h=>h))|skip
 rename_i cs
 simp only[lendV]
 rw[Zhe (by simpa [AV.ids] using hl) (he.imp id fun h=>h)]
theorem Zg3{x:AV}{n:Nat}(hl:∀ id∈x.id?,h' id=h id):give1 h' n x=give1 h n x:=by
 cases x<;>try rfl
 ·rename_i m sz xs
  cases m<;>cases xs<;>rfl
 rename_i id
 have:=hl id (by simp[AV.id?])
 simp only[give1,this]
theorem Zd4:∀ {cs:List AV} {n:Nat},(∀ id∈cs.flatMap AV.id?,h' id=h id)->giveL h' n cs=giveL h n cs
 | [],_,_=>rfl
 | c::cs,n,hl=>by
  have h1:=Zg3 (h:=h) (h':=h') (x:=c) (n:=n) (fun id hi=>hl id (by rw[Xai];exact Xg.2 (.inl hi)))
  have h2:∀ k,giveL h' k cs=giveL h k cs:=fun k=>Zd4 (fun id hi=>hl id (by rw[Xai];exact Xg.2 (.inr hi)))
  simp only[giveL,h1,h2]
theorem Zly{x:AV}{n:Nat}(hl:∀ id∈x.ids++inner h x,h' id=h id):giveV h' n x=giveV h n x:=by
 have hl1:∀ id∈x.ids,h' id=h id:=fun id hi=>hl id (Xg.2 (.inl hi))
 cases x<;>first|(simp only[giveV];exact Zg3 (by first|(simp[AV.ids];done)|simpa [AV.ids] using hl1))|skip
 ·rename_i id i off
  have h1:=hl1 id (by simp[AV.ids,AV.id?])
  by_cases hz:i=0/\off=0
  ·obtain⟨rfl,rfl⟩:=hz
   simp only[giveV,h1]
   cases hh:h id with
   | none=>rfl
   | some o =>
    cases o<;>try rfl
    rename_i cells
    simp only
    rw[Zd4 (fun j hj=>hl j (Xg.2 (.inr (by simpa [inner,hh] using hj))))]
  ·have e:∀ h0:Nat->Option AO,giveV h0 n (.ptr id i off)=give1 h0 n (.ptr id i off):=fun h0=>by
    cases i<;>cases off<;>first|rfl|exact absurd ⟨rfl,rfl⟩ hz
   rw[e,e]
   rfl
 ·rename_i cs
  simp only[giveV]
  rw[Zd4 (by first|(simp[AV.ids];done)|simpa [AV.ids] using hl1)]
theorem Zl1{x:AV}(hl:∀ id∈x.ids,h' id=h id):inner h' x=inner h x:=by
 cases x<;>try rfl
 rename_i id i off
 have:=hl id (by simp[AV.ids,AV.id?])
 simp only[inner,this]
theorem Zdz:∀ {ms:List Bool} {vs:List AV} {n:Nat},(∀ id∈vs.flatMap (fun v=>v.ids++inner h v),h' id=h id)->(ep'=ep\/∀ v∈vs,v.snaps=false)->passArgs h' ep' n ms vs=passArgs h ep n ms vs
 | [],[],_,_,_=>rfl
 | [],_::_,_,_,_=>rfl
 | b::ms,[],_,_,_=>by cases b<;>rfl
 | b::ms,v::vs,n,hl,he=>by
  have hl1:∀ id∈v.ids++inner h v,h' id=h id:=fun id hi=>hl id (by rw[Xai];exact Xg.2 (.inl hi))
  have hl2:∀ id∈vs.flatMap (fun v=>v.ids++inner h v),h' id=h id:=fun id hi=>hl id (by rw[Xai];exact Xg.2 (.inr hi))
  have he2:ep'=ep\/∀ v∈vs,v.snaps=false:=he.imp id fun h v hv=>h v (Xh _ hv)
  have h2:∀ k,passArgs h' ep' k ms vs=passArgs h ep k ms vs:=fun k=>Zdz hl2 he2
  cases b with
  | true=>simp only[passArgs,Zly hl1,h2]
  | false =>
   have h1:=Zl5 (h:=h) (h':=h') (ep:=ep) (ep':=ep') (x:=v) (fun id hi=>hl1 id (Xg.2 (.inl hi))) (he.imp id fun h=>h v Xi)
   simp only[passArgs,h1,h2]
theorem Zjc{x:AV}(hl:∀ id∈x.id?,h' id=h id):absorb1 h' x=absorb1 h x:=by
 cases x<;>try rfl
 ·rename_i m sz xs
  cases m<;>cases xs<;>rfl
 rename_i id
 have:=hl id (by simp[AV.id?])
 simp only[absorb1,this]
theorem Zc9:∀ {cs:List AV},(∀ id∈cs.flatMap AV.id?,h' id=h id)->absorb h' cs=absorb h cs
 | [],_=>rfl
 | c::cs,hl=>by
  have h1:=Zjc (h:=h) (h':=h') (x:=c) (fun id hi=>hl id (by rw[Xai];exact Xg.2 (.inl hi)))
  have h2:absorb h' cs=absorb h cs:=Zc9 (fun id hi=>hl id (by rw[Xai];exact Xg.2 (.inr hi)))
  simp only[absorb,h1,h2]
theorem Zkx{v:AV}{vs:List AV}(hp:v.parts=some vs):vs.flatMap AV.id?=v.ids:=by
 cases v<;>simp only[AV.parts,reduceCtorEq,Xb]at hp<;>(subst hp;first|rfl|simp[AV.ids])
theorem Zdw{g g':Nat->AV}{sz:Nat}:∀ {ps:List (Nat×Opd)} {rows:List (List AV)},(∀ p∈ps,p.2.ev g'=p.2.ev g)->(∀ id∈ps.flatMap (fun p=>(p.2.ev g).ids),h' id=h id)->fillRows h' g' sz rows ps=fillRows h g sz rows ps
 | [],_,_,_=>rfl
 | (i,x)::ps,rows,ho,hl=>by
  have h1:x.ev g'=x.ev g:=ho (i,x) Xi
  have h2:∀ rows,fillRows h' g' sz rows ps=fillRows h g sz rows ps:=fun rows=>Zdw (fun p hp=>ho p (Xh _ hp)) (fun id hi=>hl id (by rw[Xai];exact Xg.2 (.inr hi)))
  simp only[fillRows,h1,h2]
  cases hp:(x.ev g).parts with
  | none=>rfl
  | some vs =>
   simp only
   rw[Zc9 (fun id hi=>hl id (by rw[Xai];exact Xg.2 (.inl (by rw[<- Zkx hp];exact hi))))]
theorem Zda{g g':Nat->AV}:∀ {ps:List (Nat×Nat×Opd)} {cs:List AV},(∀ p∈ps,p.2.2.ev g'=p.2.2.ev g)->fillParts g' cs ps=fillParts g cs ps
 | [],_,_=>rfl
 | (off,n,x)::ps,cs,ho=>by
  have h1:x.ev g'=x.ev g:=ho (off,n,x) Xi
  have h2:∀ cs,fillParts g' cs ps=fillParts g cs ps:=fun cs=>Zda (fun p hp=>ho p (Xh _ hp))
  simp only[fillParts,h1,h2]
theorem Zcl{g g':Nat->AV}:∀ {ys:List Opd},(∀ y∈ys,y.ev g'=y.ev g)->evL g' ys=evL g ys
 | [],_=>rfl
 | y::ys,ho=>by
  simp only[evL,ho y Xi,Zcl (ys:=ys) (fun z hz=>ho z (Xh _ hz))]
theorem Zih{x:AV}{flat:Bool}(hl:∀ id∈x.id?,h' id=h id)(he:ep'=ep\/x.snaps1=false):takeRows h' ep' flat x=takeRows h ep flat x:=by
 cases flat with
 | true=>simp only[takeRows,Zcw hl he]
 | false =>
  cases x<;>try rfl
  ·rename_i m sz xs
   cases m<;>cases xs<;>rfl
  ·rename_i id
   have:=hl id (by simp[AV.id?])
   simp only[takeRows,this]
  ·rename_i id lo len
   have:=hl id (by simp[AV.id?])
   simp only[takeRows,this]
theorem Zhf{v:AV}(hs:(v.lendO ep).snaps1=false):v.lendO ep'=v.lendO ep:=by
 cases v<;>try rfl
 rename_i m sz xs
 cases m<;>first|rfl|(simp[AV.lendO,AV.snaps1,Md.isSnap]at hs)
theorem Zkn{v:AV}(hs:bsnap (lendAO ep v)=false):lendAO ep' v=lendAO ep v:=by
 by_cases hv:∃ cs,v=.agg cs
 ·obtain⟨cs,rfl⟩:=hv
  simp only[lendAO,AV.agg.injEq]
  refine List.map_congr_left (fun c hc=>Zhf (ep:=ep) ?_)
  simp only[lendAO,bsnap,AV.snaps,List.any_map,Xbo]at hs
  have:=hs c hc
  simpa using this
 ·have e:∀ k,lendAO k v=v.lendO k:=fun k=>by cases v<;>first|rfl|exact absurd ⟨_,rfl⟩ hv
  rw[e]at hs
  rw[e,e]
  refine Zhf ?_
  cases v<;>first|rfl|exact hs|skip
  rename_i m sz xs
  cases m<;>first|rfl|exact hs
theorem Zk8{v:AV}(h:bsnap v=false):v.snaps1=false:=by
 cases v<;>first|rfl|exact h
theorem Znc{v:AV}(h:bsnap v=false):v.snaps=false:=by
 cases v<;>first|rfl|exact h
theorem Zlu{g:Nat->AV}:∀ {ys:List Opd} {v:AV},v∈evL g ys->∃ y∈ys,v=y.ev g
 | [],v,h=>by simp[evL]at h
 | y::ys,v,h=>by
  simp only[evL,Xl]at h
  rcases h with rfl|h
  ·exact⟨y,Xi,rfl⟩
  ·obtain⟨z,hz,e⟩:=Zlu h
   exact⟨z,Xh _ hz,e⟩
theorem Zc2{g g':Nat->AV}{x:Option Opd}(ho:∀ y∈x.toList,y.ev g'=y.ev g):x.map (·.ev g')=x.map (·.ev g):=by
 cases x with
 | none=>rfl
 | some y=>simp only[Xw,ho y (by simp)]
theorem Zev{cl:Callee}{k:Nat}{modes:List Bool}{vs:List AV}{key:Nat}(hl:∀ id∈vs.flatMap (fun v=>v.ids++inner h v),h' id=h id)(he:ep'=ep\/∀ v∈vs,v.snaps=false) :
  semCall cl k modes vs key h' ep'=semCall cl k modes vs key h ep:=by
 simp only[semCall,Zdz hl he]
theorem Zb2:∀ {vs:List AV},(∀ id∈vs.flatMap (fun v=>v.ids++inner h v),h' id=h id)->vs.flatMap (fun v=>v.ids++inner h' v)=vs.flatMap (fun v=>v.ids++inner h v)
 | [],_=>rfl
 | v::vs,hl=>by
  simp only[Xai]at hl ⊢
  rw[Zl1 (x:=v) (fun id hi=>hl id (Xg.2 (.inl (Xg.2 (.inl hi))))),Zb2 (fun id hi=>hl id (Xg.2 (.inr hi)))]
theorem Zp2{cl:Callee}{o:COp}{key:Nat}{g g':Nat->AV}{out:Out}(hopd:∀ y∈o.opds,y.ev g'=y.ev g)(hlook:∀ id∈o.looks g h,h' id=h id)
  (hep:ep'=ep\/(bsnap out.v=false/\∀ y∈o.opds,bsnap (y.ev g)=false)) (hs:sem cl o key g h ep=some out):sem cl o key g' h' ep'=some out/\o.looks g' h'=o.looks g h:=by
 have hsn:∀ y∈o.opds,ep'=ep\/bsnap (y.ev g)=false:=fun y hy=>hep.imp id fun h=>h.2 y hy
 have hsnv:ep'=ep\/bsnap out.v=false:=hep.imp id fun h=>h.1
 have hbp:∀ y∈o.opds,∀ m row off,y.ev g=.bptr m row off->m.ok ep'=m.ok ep:=fun y hy m row off e=>Md.ok_local ((hsn y hy).imp id fun h=>by rw[e]at h;exact h)
 have hsl:∀ y∈o.opds,∀ m sz xs,y.ev g=.sl m sz xs->m.ok ep'=m.ok ep:=fun y hy m sz xs e=>Md.ok_local ((hsn y hy).imp id fun h=>by rw[e]at h;exact h)
 have hct:∀ y∈o.opds,(∀ id∈(y.ev g).id?,h' id=h id)->content h' ep' (y.ev g)=content h ep (y.ev g):=fun y hy hl=>Zcw hl ((hsn y hy).imp id fun h=>Zk8 h)
 cases o with
 | mov x=>simp only[sem,COp.looks,hopd x (by simp[COp.opds])];exact⟨hs,trivial⟩
 | nilck x =>
  have e:=hopd x (by simp[COp.opds])
  have hb:=hbp x (by simp[COp.opds])
  simp only[COp.looks]at hlook
  simp only[sem,COp.looks,e]at hs ⊢
  refine⟨?_,trivial⟩
  generalize x.ev g=v at *
  cases v<;>try (cases hs;done)
  ·rename_i id i off;simp only[hlook id (by simp[AV.id?])];exact hs
  ·rename_i m row off;simp only[hb m row off rfl];exact hs
 | pick c a b=>simp only[sem,COp.looks,hopd c (by simp[COp.opds]),hopd a (by simp[COp.opds]),hopd b (by simp[COp.opds])];exact⟨hs,trivial⟩
 | bin op x y=>simp only[sem,COp.looks,hopd x (by simp[COp.opds]),hopd y (by simp[COp.opds])];exact⟨hs,trivial⟩
 | beq n x y=>simp only[sem,COp.looks,hopd x (by simp[COp.opds]),hopd y (by simp[COp.opds])];exact⟨hs,trivial⟩
 | eqs n ks x y=>simp only[sem,COp.looks,hopd x (by simp[COp.opds]),hopd y (by simp[COp.opds])];exact⟨hs,trivial⟩
 | un op x=>simp only[sem,COp.looks,hopd x (by simp[COp.opds])];exact⟨hs,trivial⟩
 | conv k x=>simp only[sem,COp.looks,hopd x (by simp[COp.opds])];exact⟨hs,trivial⟩
 | toStr x =>
  simp only[COp.looks]at hlook
  simp only[sem,COp.looks,hopd x (by simp[COp.opds]),hct x (by simp[COp.opds]) hlook];exact⟨hs,trivial⟩
 | sconv x=>simp only[sem,COp.looks,hopd x (by simp[COp.opds])];exact⟨hs,trivial⟩
 | alloc zs=>simp only[sem,COp.looks];exact⟨hs,trivial⟩
 | box x=>simp only[sem,COp.looks,hopd x (by simp[COp.opds])];exact⟨hs,trivial⟩
 | build zs ps =>
  simp only[sem,COp.looks]
  rw[Zda (g:=g) (g':=g') (fun p hp=>hopd p.2.2 (by simp only[COp.opds];exact Xap.2 ⟨p,hp,rfl⟩))]
  exact⟨hs,trivial⟩
 | bslice sz zs len ps =>
  simp only[COp.looks]at hlook
  have hps:∀ p∈ps,p.2.ev g'=p.2.ev g:=fun p hp=>hopd p.2 (by simp only[COp.opds];exact Xap.2 ⟨p,hp,rfl⟩)
  simp only[sem,COp.looks]
  rw[Zdw hps hlook]
  refine⟨hs,?_⟩
  clear hs hlook hopd hsn hbp hsl hct hep hsnv
  induction ps with
  | nil=>rfl
  | cons p ps ih=>simp only[Xai];rw[hps p Xi,ih (fun q hq=>hps q (Xh _ hq))]
 | mksl sz zs bytes l=>simp only[sem,COp.looks,hopd l (by simp[COp.opds])];exact⟨hs,trivial⟩
 | load x sz agg hint =>
  have e:=hopd x (by simp[COp.opds])
  have hb:=hbp x (by simp[COp.opds])
  simp only[COp.looks]at hlook
  simp only[sem,COp.looks,e]at hs ⊢
  refine⟨?_,trivial⟩
  generalize x.ev g=v at *
  cases v<;>try (cases hs;done)
  ·rename_i id i off
   simp only[hlook id (by simp[AV.id?])]
   cases hh:h id with
   | none=>simp only[hh]at hs;cases hs
   | some ob =>
    simp only[hh]at hs ⊢
    cases ob<;>try exact hs
    rename_i sz' xs
    simp only at hs ⊢
    cases hx:xs[i]? with
    | none=>simp only[hx]at hs;cases hs
    | some row =>
     simp only[hx]at hs ⊢
     cases hint<;>try exact hs
     ·simp only at hs ⊢
      cases hl:loadFrom row off sz agg with
      | none=>simp only[hl]at hs;cases hs
      | some r =>
       simp only[hl,Out.val,Xb]at hs ⊢
       rcases hsnv with rfl|hsnv
       ·exact hs
       ·rw[Zkn (ep:=ep) (ep':=ep') (v:=r) (by rw[<- hs]at hsnv;exact hsnv)];exact hs
     ·simp only at hs ⊢
      split at hs
      ·simp only[Out.val,Xb]at hs ⊢
       rcases hsnv with rfl|hsnv
       ·exact hs
       ·rw[<- hs]at hsnv;simp[bsnap,AV.snaps,AV.snaps1]at hsnv
      ·cases hs
  ·rename_i m row off;simp only[hb m row off rfl];exact hs
 | store x y sz =>
  have e1:=hopd x (by simp[COp.opds])
  have e2:=hopd y (by simp[COp.opds])
  have hbx:=hsn x (by simp[COp.opds])
  simp only[COp.looks]at hlook
  simp only[sem,COp.looks,e1,e2]at hs ⊢
  refine⟨?_,trivial⟩
  generalize x.ev g=v at *
  cases v<;>try (cases hs;done)
  case inp e id i off j sz2 =>
   have he:ep'=ep:=hbx.resolve_right (by simp[bsnap,AV.snaps,AV.snaps1])
   subst he
   cases hp:(y.ev g).parts with
   | none=>simp only[hp]at hs;cases hs
   | some vs =>
    simp only[hp]at hs ⊢
    simp only[hlook id (by simp[AV.id?])]
    exact hs
  rename_i id i off
  cases hp:(y.ev g).parts with
  | none=>simp only[hp]at hs;cases hs
  | some vs =>
   have hab:absorb h' vs=absorb h vs:=Zc9 (fun j hj=>hlook j (Xg.2 (.inr (by rw[<- Zkx hp];exact hj))))
   simp only[hp]at hs ⊢
   simp only[hlook id (by simp[AV.id?]),hab]
   exact hs
 | faddr x n =>
  have e:=hopd x (by simp[COp.opds])
  have hb:=hbp x (by simp[COp.opds])
  simp only[COp.looks]at hlook
  simp only[sem,COp.looks,e]at hs ⊢
  refine⟨?_,trivial⟩
  generalize x.ev g=v at *
  cases v<;>try (cases hs;done)
  ·rename_i id i off;simp only[hlook id (by simp[AV.id?])];exact hs
  ·rename_i m row off;simp only[hb m row off rfl];exact hs
 | iaddr sz x i =>
  have e1:=hopd x (by simp[COp.opds])
  have e2:=hopd i (by simp[COp.opds])
  have hb:=hsl x (by simp[COp.opds])
  have hbx:=hsn x (by simp[COp.opds])
  simp only[COp.looks]at hlook
  simp only[sem,COp.looks,e1,e2]at hs ⊢
  refine⟨?_,trivial⟩
  rw[<- hs]
  generalize x.ev g=v at *
  cases v<;>try rfl
  case inn e id k off =>
   have he:ep'=ep:=hbx.resolve_right (by simp[bsnap,AV.snaps,AV.snaps1])
   subst he
   simp only[hlook id (by simp[AV.id?])]
  ·rename_i m sz' xs;simp only[hb m sz' xs rfl]
  ·rename_i id;simp only[hlook id (by simp[AV.id?])]
  ·rename_i id lo len;simp only[hlook id (by simp[AV.id?])]
 | sidx x i=>simp only[sem,COp.looks,hopd x (by simp[COp.opds]),hopd i (by simp[COp.opds])];exact⟨hs,trivial⟩
 | slice sz x lo hi =>
  have e1:=hopd x (by simp[COp.opds])
  have e2:=Zc2 (g:=g) (g':=g') (x:=lo) (fun y hy=>hopd y (by simp only[COp.opds];exact Xh _ (Xg.2 (.inl hy))))
  have e3:=Zc2 (g:=g) (g':=g') (x:=hi) (fun y hy=>hopd y (by simp only[COp.opds];exact Xh _ (Xg.2 (.inr hy))))
  have hb:=hsl x (by simp[COp.opds])
  simp only[COp.looks]at hlook
  simp only[sem,COp.looks,e1,e2,e3]at hs ⊢
  refine⟨?_,trivial⟩
  rw[<- hs]
  generalize x.ev g=v at *
  cases v<;>try rfl
  ·rename_i m sz' xs
   cases m<;>cases xs<;>first|rfl|simp only[hb _ _ _ rfl]
  ·rename_i id;simp only[hlook id (by simp[AV.id?])]
  ·rename_i id lo len;simp only[hlook id (by simp[AV.id?])]
 | sslice x lo hi =>
  have e1:=hopd x (by simp[COp.opds])
  have e2:=Zc2 (g:=g) (g':=g') (x:=lo) (fun y hy=>hopd y (by simp only[COp.opds];exact Xh _ (Xg.2 (.inl hy))))
  have e3:=Zc2 (g:=g) (g':=g') (x:=hi) (fun y hy=>hopd y (by simp only[COp.opds];exact Xh _ (Xg.2 (.inr hy))))
  simp only[sem,COp.looks,e1,e2,e3]at hs ⊢
  exact⟨hs,trivial⟩
 | len str x =>
  have e1:=hopd x (by simp[COp.opds])
  simp only[COp.looks]at hlook
  cases str with
  | true=>simp only[sem,COp.looks,e1]at hs ⊢;exact⟨hs,trivial⟩
  | false=>simp only[sem,COp.looks,e1,hct x (by simp[COp.opds]) hlook]at hs ⊢;exact⟨hs,trivial⟩
 | append sz bytes flat x y =>
  have e1:=hopd x (by simp[COp.opds])
  have e2:=hopd y (by simp[COp.opds])
  simp only[COp.looks]at hlook
  have htr:takeRows h' ep' flat (y.ev g)=takeRows h ep flat (y.ev g):=Zih (fun id hi=>hlook id (Xg.2 (.inr hi))) ((hsn y (by simp[COp.opds])).imp id fun h=>Zk8 h)
  simp only[sem,COp.looks,e1,e2,htr]at hs ⊢
  refine⟨?_,trivial⟩
  rw[<- hs]
  generalize x.ev g=v at *
  cases v<;>try rfl
  ·rename_i m0 sz0 xs0
   cases m0<;>cases xs0<;>rfl
  ·rename_i id
   simp only[hlook id (Xg.2 (.inl (by simp[AV.id?])))]
  ·rename_i id n
   simp only[hlook id (Xg.2 (.inl (by simp[AV.id?])))]
 | mx b x y=>simp only[sem,COp.looks,hopd x (by simp[COp.opds]),hopd y (by simp[COp.opds])];exact⟨hs,trivial⟩
 | ext x i=>simp only[sem,COp.looks,hopd x (by simp[COp.opds])];exact⟨hs,trivial⟩
 | mkmap kb=>simp only[sem,COp.looks];exact⟨hs,trivial⟩
 | lookup kb z m k =>
  have e1:=hopd m (by simp[COp.opds])
  have e2:=hopd k (by simp[COp.opds])
  simp only[COp.looks]at hlook
  simp only[sem,COp.looks,e1,e2]at hs ⊢
  refine⟨?_,trivial⟩
  rw[<- hs]
  generalize m.ev g=v at *
  generalize keyOf kb (k.ev g)=u at *
  cases v<;>cases u<;>try rfl
  rename_i id _
  simp only[hlook id (by simp[AV.id?])]
 | mapset kb m k v =>
  have e1:=hopd m (by simp[COp.opds])
  have e2:=hopd k (by simp[COp.opds])
  have e3:=hopd v (by simp[COp.opds])
  simp only[COp.looks]at hlook
  simp only[sem,COp.looks,e1,e2,e3]at hs ⊢
  refine⟨?_,trivial⟩
  rw[<- hs]
  generalize m.ev g=v0 at *
  generalize keyOf kb (k.ev g)=u at *
  cases v0<;>cases u<;>try rfl
  rename_i id _
  simp only[hlook id (by simp[AV.id?])]
 | call k modes args =>
  have e1:=Zcl (g:=g) (g':=g') (ys:=args) (fun y hy=>hopd y (by simp only[COp.opds];exact hy))
  simp only[COp.looks]at hlook
  have he:ep'=ep\/∀ v∈evL g args,v.snaps=false:=hep.imp id fun h v hv=>by
   obtain⟨y,hy,rfl⟩:=Zlu hv
   exact Znc (h.2 y (by simp only[COp.opds];exact hy))
  simp only[sem,COp.looks,e1]at hs ⊢
  rw[Zev hlook he,Zb2 hlook]
  exact⟨hs,rfl⟩
 | callf f modes args =>
  have e1:=Zcl (g:=g) (g':=g') (ys:=args) (fun y hy=>hopd y (by simp only[COp.opds];exact Xh _ hy))
  have e2:=hopd f (by simp[COp.opds])
  simp only[COp.looks]at hlook
  have he:ep'=ep\/∀ v∈evL g args,v.snaps=false:=hep.imp id fun h v hv=>by
   obtain⟨y,hy,rfl⟩:=Zlu hv
   exact Znc (h.2 y (by simp only[COp.opds];exact Xh _ hy))
  simp only[sem,COp.looks,e1,e2]at hs ⊢
  rw[Zb2 hlook]
  refine⟨?_,rfl⟩
  rw[<- hs]
  generalize f.ev g=v at *
  cases v<;>try rfl
  simp only[Zev hlook he]
 | callin k x args =>
  have e1:=Zcl (g:=g) (g':=g') (ys:=args) (fun y hy=>hopd y (by simp only[COp.opds];exact Xh _ hy))
  have e2:=hopd x (by simp[COp.opds])
  have hx:=hsn x (by simp[COp.opds])
  simp only[COp.looks]at hlook
  simp only[sem,COp.looks,e1,e2]at hs ⊢
  refine⟨?_,trivial⟩
  generalize x.ev g=v at *
  cases v<;>try (cases hs;done)
  rename_i e id i off
  have he:ep'=ep:=hx.resolve_right (by simp[bsnap,AV.snaps,AV.snaps1])
  subst he
  simp only[hlook id (by simp[AV.id?])]
  exact hs
 | blank sz x =>
  have e:=hopd x (by simp[COp.opds])
  simp only[COp.looks]at hlook
  simp only[sem,COp.looks,e]at hs ⊢
  refine⟨?_,trivial⟩
  generalize x.ev g=v at *
  cases v<;>try (cases hs;done)
  rename_i id i off
  rw[<- hs]
  cases i<;>try rfl
  simp only[hlook id (by simp[AV.id?])]
 | soft sz x =>
  have e:=hopd x (by simp[COp.opds])
  simp only[COp.looks]at hlook
  simp only[sem,COp.looks,e]at hs ⊢
  refine⟨?_,trivial⟩
  generalize x.ev g=v at *
  cases v<;>try (cases hs;done)
  rename_i id i off
  cases i<;>try (cases hs;done)
  simp only[hlook id (by simp[AV.id?])]
  cases hh:h id with
  | none=>simp only[hh]at hs;cases hs
  | some ob =>
   simp only[hh]at hs ⊢
   cases ob<;>try (cases hs;done)
   simp only at hs ⊢
   split at hs
   ·simp only[Out.val,Xb]at hs ⊢
    rcases hsnv with rfl|hsnv
    ·exact hs
    ·rw[<- hs]at hsnv ⊢
     have hm:∀ cs:List AV,bsnap (.agg (cs.map (AV.soft ep)))=false->cs.map (AV.soft ep')=cs.map (AV.soft ep):=fun cs hb=>by
      simp only[bsnap,AV.snaps,List.any_map,Xbo]at hb
      refine List.map_congr_left fun c hc=>?_
      have:=hb c hc
      cases c<;>first|rfl|skip
      rename_i md _ _
      cases md<;>first|rfl|(simp[AV.soft,AV.snaps1,Md.isSnap]at this)
     rw[hm _ hsnv]
   ·cases hs
 | fslice sz x lo =>
  have e1:=hopd x (by simp[COp.opds])
  have e2:=hopd lo (by simp[COp.opds])
  simp only[COp.looks]at hlook
  simp only[sem,COp.looks,e1,e2]at hs ⊢
  refine⟨?_,trivial⟩
  generalize x.ev g=v at *
  generalize lo.ev g=u at *
  cases v<;>try (cases hs;done)
  rename_i id
  cases u<;>try (cases hs;done)
  simp only[hlook id (by simp[AV.id?])]
  exact hs
 | cut3 sz x hi mx =>
  have e1:=hopd x (by simp[COp.opds])
  have e2:=hopd hi (by simp[COp.opds])
  have e3:=hopd mx (by simp[COp.opds])
  simp only[COp.looks]at hlook
  simp only[sem,COp.looks,e1,e2,e3]at hs ⊢
  refine⟨?_,trivial⟩
  generalize x.ev g=v at *
  cases v<;>try (cases hs;done)
  rename_i id
  simp only[hlook id (by simp[AV.id?])];exact hs
 | mkifs kl x =>
  have e:=hopd x (by simp[COp.opds])
  simp only[COp.looks]at hlook
  simp only[sem,COp.looks,e]at hs ⊢
  refine⟨?_,trivial⟩
  generalize x.ev g=v at *
  cases v<;>try (cases hs;done)
  rename_i id
  simp only[hlook id (by simp[AV.id?])];exact hs
 | mkclo kl x =>
  have e:=hopd x (by simp[COp.opds])
  simp only[COp.looks]at hlook
  simp only[sem,COp.looks,e]at hs ⊢
  refine⟨?_,trivial⟩
  generalize x.ev g=v at *
  cases v<;>try (cases hs;done)
  rename_i id i off
  rw[<- hs]
  cases i<;>cases off<;>try rfl
  simp only[hlook id (by simp[AV.id?])]
 | sortc kl o c sz x y =>
  have e1:=hopd x (by simp[COp.opds])
  have e2:=hopd y (by simp[COp.opds])
  simp only[COp.looks]at hlook
  simp only[sem,COp.looks,e1,e2]at hs ⊢
  refine⟨?_,trivial⟩
  generalize x.ev g=v1 at *
  generalize y.ev g=v2 at *
  cases v1<;>try (cases hs;done)
  cases v2<;>try (cases hs;done)
  rename_i k1 id k2 b
  simp only[hlook id (by simp[AV.id?]),hlook b (by simp[AV.id?])];exact hs
end
end Go.Proofs.YtgdfelbedghhnaaGreatDoor
namespace Go.Proofs.YtgdfelbedghhnaaGreatDoor
open Go
set_option linter.unusedSimpArgs false
def Opd.tmps:Opd->List Nat
 | .tmp t=>[t]
 | .const _=>[]
def CIns.sees(i:CIns):List Nat:=i.op.opds.flatMap Opd.tmps++(match i.guard with|some (t,_)=>[t]|none=>[])
def CIns.apart(i j:CIns):Bool :=
 (match i.dst with|some d=>!(j.sees.contains d) && j.dst != some d|none=>true) && (match j.dst with|some d=>!(i.sees.contains d)|none=>true)
def slotsOf(a:CIns)(i:Nat):List CIns->List Nat->Bool
 | b::bs,d::ds=>(d.testBit i || a.apart b) && slotsOf a i bs ds
 | [],[]=>true
 | _,_=>false
def slotsClear(i:Nat):List CIns->List Nat->Bool
 | a::as,_::ds=>slotsOf a i as ds && slotsClear (i+1) as ds
 | [],[]=>true
 | _,_=>false
theorem Zdi:∀ (ws:List (Nat×Option AO)) (h:Nat->Option AO) (n:Nat),(∀ p∈ws,p.1≠n)->wsOn h ws n=h n
 | [],h,n,_=>rfl
 | (i,o)::ws,h,n,hn=>by
  simp only[wsOn]
  rw[Zdi ws _ n (fun p hp=>hn p (Xh _ hp))]
  have:i≠n:=hn (i,o) Xi
  simp[upd,Ne.symm this]
theorem Zfr:∀ (ws:List (Nat×Option AO)) {h h':Nat->Option AO} {n:Nat},h n=h' n->wsOn h ws n=wsOn h' ws n
 | [],_,_,_,e=>e
 | (i,o)::ws,h,h',n,e=>by
  simp only[wsOn]
  exact Zfr ws (by simp only[upd];split<;>first|rfl|exact e)
theorem Zqg{a b:List (Nat×Option AO)}{h:Nat->Option AO}(hd:∀ p∈a,∀ q∈b,p.1≠q.1):wsOn (wsOn h a) b=wsOn (wsOn h b) a:=by
 funext n
 by_cases hb:∃ q∈b,q.1=n
 ·obtain⟨q,hq,rfl⟩:=hb
  have h1:∀ h0,wsOn h0 a q.1=h0 q.1:=fun h0=>Zdi a h0 q.1 (fun p hp=>hd p hp q hq)
  rw[h1]
  exact Zfr b (h1 h)
 ·have h1:∀ h0,wsOn h0 b n=h0 n:=fun h0=>Zdi b h0 n (fun q hq e=>hb ⟨q,hq,e⟩)
  rw[h1]
  exact (Zfr a (h1 h)).symm
theorem Zgn{g:Nat->AV}{dst:Option Nat}{v:AV}{t:Nat}(h:∀ d,dst=some d->d≠t):putTo g dst v t=g t:=by
 cases dst with
 | none=>rfl
 | some d=>simp[putTo,upd,Ne.symm (h d rfl)]
theorem Zi4{g:Nat->AV}{d e:Option Nat}{u v:AV}(h:∀ k,d=some k->e≠some k):putTo (putTo g d u) e v=putTo (putTo g e v) d u:=by
 cases d with
 | none=>rfl
 | some d=>cases e with
  | none=>rfl
  | some e =>
   have hne:d≠e:=fun he=>h d rfl (by rw[he])
   funext t
   simp only[putTo,upd]
   by_cases h1:t=e
   ·subst h1;simp[Ne.symm hne]
   ·by_cases h2:t=d<;>simp[h1,h2,hne]
def St.after(s:St)(dst:Option Nat)(v:AV)(ws:List (Nat×Option AO))(bump:Bool):St:=⟨putTo s.slots dst v,wsOn s.heap ws,if bump then s.ep+1 else s.ep,s.next,s.base⟩
section
variable {cl:Callee}
theorem Zf0{g g':Nat->AV}{gd:Option (Nat×Bool)}(h:∀ t∈(match gd with|some (t,_)=>[t]|none=>[]),g' t=g t):guardA g' gd=guardA g gd:=by
 cases gd with
 | none=>rfl
 | some p =>
  obtain⟨t,b⟩:=p
  simp only[guardA,h t (by simp)]
theorem Opd.ev_local{g g':Nat->AV}{x:Opd}(h:∀ t∈x.tmps,g' t=g t):x.ev g'=x.ev g:=by
 cases x with
 | tmp t=>exact h t (by simp[Opd.tmps])
 | const v=>rfl
theorem Zj7{g:Nat->AV}:∀ {ys:List Opd},(evL g ys).any bsnap=false->∀ y∈ys,bsnap (y.ev g)=false
 | [],_,y,hy=>by simp at hy
 | z::ys,h,y,hy=>by
  simp only[evL,Xbc,Xa4]at h
  rcases Xl.1 hy with rfl|hy
  ·exact h.1
  ·exact Zj7 h.2 y hy
theorem Zjr{op:COp}{g g':Nat->AV}{ws:List (Nat×Option AO)}(h:∀ y∈op.opds,y.ev g'=y.ev g):mapMark op g' ws=mapMark op g ws:=by
 cases op
 case mapset kb m k v=>simp only[mapMark,h k (by simp[COp.opds])]
 all_goals rfl
theorem Zds{i:CIns}{key:Nat}{s s1:St}{t:Tr}(h:stepLoud cl i key s=some (s1,t)) :
  ∃ v ws bump,s1=s.after i.dst v ws bump/\t.wr=ws.map (·.1)/\t.we=bump /\
   ∀ s':St,(∀ k∈i.sees,s'.slots k=s.slots k)->(∀ id∈t.rd,s'.heap id=s.heap id)->(s'.ep=s.ep\/t.ue=false)->stepLoud cl i key s'=some (s'.after i.dst v ws bump,t):=by
 unfold stepLoud at h
 cases hg:guardA s.slots i.guard with
 | none=>rw[hg]at h;cases h
 | some b =>
  rw[hg]at h
  have hgl:∀ s':St,(∀ k∈i.sees,s'.slots k=s.slots k)->guardA s'.slots i.guard=some b:=fun s' hs=>by
   rw[Zf0 (g:=s.slots) (fun k hk=>hs k (by simp only[CIns.sees];exact Xg.2 (.inr hk)))];exact hg
  cases b with
  | false =>
   simp only[Xb,Xk]at h
   obtain⟨rfl,rfl⟩:=h
   refine⟨.tup [],[],false,rfl,rfl,rfl,fun s' hs _ _=>?_⟩
   simp only[stepLoud,hgl s' hs]
   rfl
  | true =>
   simp only at h
   cases hs:sem cl i.op key s.slots s.heap s.ep with
   | none=>rw[hs]at h;cases h
   | some o =>
    rw[hs]at h
    simp only[Xb,Xk]at h
    obtain⟨rfl,rfl⟩:=h
    refine⟨o.v,o.ws,o.bump,rfl,rfl,rfl,fun s' hsl hh he=>?_⟩
    have hopd:∀ y∈i.op.opds,y.ev s'.slots=y.ev s.slots:=fun y hy=>Opd.ev_local (fun k hk=>hsl k (by simp only[CIns.sees];exact Xg.2 (.inl (Xbn.2 ⟨y,hy,hk⟩))))
    have he':s'.ep=s.ep\/(bsnap o.v=false/\∀ y∈i.op.opds,bsnap (y.ev s.slots)=false):=he.imp id fun h=>by
     simp only[Xa4]at h
     exact⟨h.1,Zj7 h.2⟩
    obtain⟨h1,h2⟩:=Zp2 (h':=s'.heap) (ep':=s'.ep) hopd hh he' hs
    simp only[stepLoud,hgl s' hsl,h1,h2,Zcl hopd,Zjr hopd]
    rfl
theorem Zeb{a b:List Nat}(h:meets a b=false):∀ x∈a,x ∉ b:=by
 intro x hx hb
 have:meets a b=true:=by
  simp only[meets,Xcp,Xch,Xj]
  exact⟨x,hx,hb⟩
 rw[h]at this
 cases this
theorem Zl6{k l:ByteArray}{u v:AV}{f:ByteArray->Option AV}(h:sEq l k=false):mapPut l u (mapPut k v f)=mapPut k v (mapPut l u f):=by
 funext x
 simp only[mapPut]
 by_cases h1:sEq x l=true
 ·have h2:¬ sEq x k=true:=fun h2=>by
   rw[(Zac _ _).1 h1]at h2
   rw[h]at h2
   cases h2
  rw[Xr h1,Xu h2,Xr h1]
 ·rw[Xu h1,Xu h1]
theorem Znd{i:CIns}{ki:Nat}{s s1:St}{t:Tr}(h:stepLoud cl i ki s=some (s1,t)){id:Nat}{k:ByteArray}(hm:t.km=some (id,k)) :
  ∃ kb f v,s.heap id=some (.map kb f)/\s1=s.after i.dst .any [(id,some (.map kb (mapPut k v f)))] false /\
   ∀ s':St,(∀ k∈i.sees,s'.slots k=s.slots k)->∀ f',s'.heap id=some (.map kb f')->stepLoud cl i ki s'=some (s'.after i.dst .any [(id,some (.map kb (mapPut k v f')))] false,t):=by
 unfold stepLoud at h
 cases hg:guardA s.slots i.guard with
 | none=>rw[hg]at h;cases h
 | some b =>
  rw[hg]at h
  have hgl:∀ s':St,(∀ k∈i.sees,s'.slots k=s.slots k)->guardA s'.slots i.guard=some b:=fun s' hs=>by
   rw[Zf0 (g:=s.slots) (fun k hk=>hs k (by simp only[CIns.sees];exact Xg.2 (.inr hk)))];exact hg
  cases b with
  | false =>
   simp only[Xb,Xk]at h
   obtain⟨rfl,rfl⟩:=h
   cases hm
  | true =>
   simp only at h
   cases hs:sem cl i.op ki s.slots s.heap s.ep with
   | none=>rw[hs]at h;cases h
   | some o =>
    rw[hs]at h
    simp only[Xb,Xk]at h
    obtain⟨rfl,rfl⟩:=h
    have hopd:∀ s':St,(∀ k∈i.sees,s'.slots k=s.slots k)->∀ y∈i.op.opds,y.ev s'.slots=y.ev s.slots:=fun s' hsl y hy=>Opd.ev_local (fun k hk=>hsl k (by simp only[CIns.sees];exact Xg.2 (.inl (Xbn.2 ⟨y,hy,hk⟩))))
    simp only[mapMark]at hm
    split at hm
    case h_2=>cases hm
    rename_i id' kb' f' hws
    split at hm
    case h_2=>cases hm
    rename_i kb mo ko vo hop
    split at hm
    case h_2=>cases hm
    rename_i st hk
    simp only[Xb,Xk]at hm
    obtain⟨rfl,rfl⟩:=hm
    rw[hop]at hs
    simp only[sem,hk]at hs
    split at hs
    case h_2=>cases hs
    rename_i id2 st2 hmo hst
    cases hst
    split at hs
    case h_2=>cases hs
    rename_i kb2 f hh
    split at hs
    case isFalse=>cases hs
    rename_i hpl
    obtain⟨rfl,hpl⟩:=hpl
    obtain rfl:=(Xf hs).symm
    simp only[Xcv,Xk,Xb,AO.map.injEq,Xbv]at hws
    obtain⟨rfl,-,-⟩:=hws
    refine⟨kb2,f,vo.ev s.slots,hh,rfl,fun s' hsl f2 hf2=>?_⟩
    have ho:=hopd s' hsl
    rw[hop]at ho
    have e1:mo.ev s'.slots=.mapr id2:=(ho mo (by simp[COp.opds])).trans hmo
    have e2:ko.ev s'.slots=ko.ev s.slots:=ho ko (by simp[COp.opds])
    have e3:vo.ev s'.slots=vo.ev s.slots:=ho vo (by simp[COp.opds])
    have e4:evL s'.slots i.op.opds=evL s.slots i.op.opds:=by
     rw[hop];exact Zcl ho
    simp only[stepLoud,hgl s' hsl]
    simp only[hop,sem,e1,e2,e3,hk,hf2]
    rw[Xr ⟨trivial,hpl⟩]
    simp only[Xb,Xk]
    refine⟨rfl,?_⟩
    rw[hop]at e4
    simp only[e4,COp.looks,e1,hmo,mapMark,e2,hk]
    rfl
theorem Zri{i j:CIns}{ki kj:Nat}{s s1 s2:St}{ti tj:Tr}(hap:i.apart j=true)(h1:stepLoud cl i ki s=some (s1,ti))(h2:stepLoud cl j kj s1=some (s2,tj)){id:Nat}{k l:ByteArray}(hi:ti.km=some (id,k))(hj:tj.km=some (id,l))(hkl:sEq l k=false) :
  ∃ s1',stepLoud cl j kj s=some (s1',tj)/\stepLoud cl i ki s1'=some (s2,ti):=by
 obtain⟨kb,f,v,e1,rfl,l1⟩:=Znd h1 hi
 obtain⟨kb2,f2,u,e2,rfl,l2⟩:=Znd h2 hj
 have e3:(s.after i.dst .any [(id,some (.map kb (mapPut k v f)))] false).heap id=some (.map kb (mapPut k v f)):=by simp[St.after,wsOn,upd]
 rw[e3]at e2
 simp only[Xb,AO.map.injEq]at e2
 obtain⟨rfl,rfl⟩:=e2
 simp only[CIns.apart,Xc]at hap
 obtain⟨a1,a2⟩:=hap
 have d1:∀ d,i.dst=some d->d ∉ j.sees/\j.dst≠some d:=fun d hd=>by
  rw[hd]at a1
  simp only[Xc,Xv,Xch,Xa6,bne_iff_ne,ne_eq]at a1
  exact a1
 have d2:∀ d,j.dst=some d->d ∉ i.sees:=fun d hd=>by
  rw[hd]at a2
  simpa using a2
 have r1:=l2 s (fun k hk=>by simp only[St.after];exact (Zgn (fun d hd e=>(d1 d hd).1 (e ▸ hk))).symm) f e1
 have r2:=l1 (s.after j.dst .any [(id,some (.map kb (mapPut l u f)))] false) (fun k hk=>by simp only[St.after];exact Zgn (fun d hd e=>d2 d hd (e ▸ hk))) (mapPut l u f) (by simp[St.after,wsOn,upd])
 refine⟨_,r1,?_⟩
 rw[r2]
 congr 2
 simp only[St.after]
 rw[Zi4 (fun k hk e=>(d1 k e).2 hk),Zl6 hkl]
 congr 1
 funext n
 simp only[wsOn,upd]
 split<;>rfl
theorem swap{i j:CIns}{ki kj:Nat}{s s1 s2:St}{ti tj:Tr}(hap:i.apart j=true)(h1:stepLoud cl i ki s=some (s1,ti))(h2:stepLoud cl j kj s1=some (s2,tj))(hc:ti.clash tj=false) :
  ∃ s1',stepLoud cl j kj s=some (s1',tj)/\stepLoud cl i ki s1'=some (s2,ti):=by
 by_cases hmk:∃ id k l,ti.km=some (id,k)/\tj.km=some (id,l)
 ·obtain⟨id,k,l,m1,m2⟩:=hmk
  simp only[Tr.clash,m1,m2,Xag]at hc
  exact Zri hap h1 h2 m1 m2 hc
 replace hc:ti.meet tj=false:=by
  unfold Tr.clash at hc
  split at hc
  ·rename_i a b m1 m2
   rw[Xu (fun e=>hmk ⟨_,_,_,m1,by rw[e];exact m2⟩)]at hc
   exact hc
  ·exact hc
 obtain⟨v1,ws1,b1,rfl,e1,f1,l1⟩:=Zds h1
 obtain⟨v2,ws2,b2,rfl,e2,f2,l2⟩:=Zds h2
 simp only[Tr.meet,Xa4]at hc
 obtain⟨⟨⟨⟨c1,c2⟩,c3⟩,c4⟩,c5⟩:=hc
 simp only[CIns.apart,Xc]at hap
 obtain⟨a1,a2⟩:=hap
 have d1:∀ d,i.dst=some d->d ∉ j.sees/\j.dst≠some d:=fun d hd=>by
  rw[hd]at a1
  simp only[Xc,Xv,Xch,Xa6,bne_iff_ne,ne_eq]at a1
  exact a1
 have d2:∀ d,j.dst=some d->d ∉ i.sees:=fun d hd=>by
  rw[hd]at a2
  simpa using a2
 have hw12:∀ p∈ws1,∀ q∈ws2,p.1≠q.1:=fun p hp q hq e=>by
  refine Zeb c2 p.1 (by rw[e1];exact Xap.2 ⟨p,hp,rfl⟩) ?_
  rw[e2,e];exact Xap.2 ⟨q,hq,rfl⟩
 have r1:=l2 s (fun k hk=>by simp only[St.after];exact (Zgn (fun d hd e=>(d1 d hd).1 (e ▸ hk))).symm)
  (fun id hid=>by
   simp only[St.after]
   refine (Zdi ws1 _ id (fun p hp e=>?_)).symm
   exact Zeb c1 p.1 (by rw[e1];exact Xap.2 ⟨p,hp,rfl⟩) (e ▸ hid))
  (by
   cases b1 with
   | false=>exact .inl rfl
   | true=>rw[f1]at c4;simp only[Xcd,Xa4]at c4;exact .inr c4.1)
 have r2:=l1 (s.after j.dst v2 ws2 b2) (fun k hk=>by simp only[St.after];exact Zgn (fun d hd e=>d2 d hd (e ▸ hk)))
  (fun id hid=>by
   simp only[St.after]
   refine Zdi ws2 _ id (fun p hp e=>?_)
   exact Zeb c3 id hid (by rw[e2,<- e];exact Xap.2 ⟨p,hp,rfl⟩))
  (by
   cases b2 with
   | false=>exact .inl rfl
   | true=>rw[f2]at c5;simp only[Bool.and_true]at c5;exact .inr c5)
 refine⟨_,r1,?_⟩
 rw[r2]
 congr 2
 simp only[St.after]
 rw[Zi4 (fun k hk e=>(d1 k e).2 hk),Zqg (fun p hp q hq e=>hw12 q hq p hp e.symm)]
 congr 1
 rw[f1,f2]at c4
 cases b1<;>cases b2<;>first|rfl|(simp at c4)
def RunR(cl:Callee)(k0:Nat):List (Nat×CIns×Tr)->St->St->Prop
 | [],s,s'=>s=s'
 | (n,i,t)::r,s,s'=>∃ s1,stepLoud cl i (k0+64*n) s=some (s1,t)/\RunR cl k0 r s1 s'
theorem RunR.bubble{k0:Nat}{p:Nat×CIns×Tr}{Y:List (Nat×CIns×Tr)}{s':St}:∀ {X:List (Nat×CIns×Tr)} {s:St},RunR cl k0 (X++p::Y) s s'->(∀ x∈X,x.2.1.apart p.2.1=true/\x.2.2.clash p.2.2=false) ->
  RunR cl k0 (p::(X++Y)) s s'
 | [],s,h,_=>h
 | (n,i,t)::X,s,h,hx=>by
  obtain⟨s1,h1,h2⟩:=h
  obtain⟨s2,h3,h4⟩:=RunR.bubble h2 (fun x hx'=>hx x (Xh _ hx'))
  obtain⟨hap,hc⟩:=hx (n,i,t) Xi
  obtain⟨s1',h5,h6⟩:=swap hap h1 h3 hc
  exact⟨s1',h5,s2,h6,h4⟩
def items:Nat->List CIns->List Tr->List (Nat×CIns×Tr)
 | n,i::is,t::ts=>(n,i,t)::items (n+1) is ts
 | _,_,_=>[]
theorem Zer{k0:Nat}:∀ {ops:List CIns} {n:Nat} {s s':St} {ts:List Tr},runLoud cl ops (k0+64*n) s=some (s',ts)->ts.length=ops.length/\RunR cl k0 (items n ops ts) s s'
 | [],n,s,s',ts,h=>by
  simp only[runLoud,Xb,Xk]at h
  obtain⟨rfl,rfl⟩:=h
  exact⟨rfl,rfl⟩
 | i::is,n,s,s',ts,h=>by
  simp only[runLoud]at h
  cases h1:stepLoud cl i (k0+64*n) s with
  | none=>rw[h1]at h;cases h
  | some p =>
   obtain⟨s1,t⟩:=p
   rw[h1]at h
   simp only at h
   cases h2:runLoud cl is (k0+64*n+64) s1 with
   | none=>rw[h2]at h;cases h
   | some q =>
    obtain⟨s2,ts'⟩:=q
    rw[h2]at h
    simp only[Xb,Xk]at h
    obtain⟨rfl,rfl⟩:=h
    have h3:=Zer (k0:=k0) (n:=n+1) (ops:=is) (by rw[show k0+64*(n+1)=k0+64*n+64 by omega];exact h2)
    exact⟨by simp[h3.1],s1,h1,h3.2⟩
theorem Zes:∀ {ops:List CIns} {key:Nat} {s s':St},runQuiet cl ops key s=some s'->∃ ts,runLoud cl ops key s=some (s',ts)/\∀ t∈ts,t.wr=[]/\t.we=false/\t.km=none
 | [],key,s,s',h=>by
  simp only[runQuiet,Xb]at h
  subst h
  exact⟨[],rfl,by simp⟩
 | i::is,key,s,s',h=>by
  simp only[runQuiet]at h
  cases h1:stepQuiet cl i key s with
  | none=>rw[h1]at h;cases h
  | some s1 =>
   rw[h1]at h
   obtain⟨ts,h2,h3⟩:=Zes h
   have h4:∃ t,stepLoud cl i key s=some (s1,t)/\t.wr=[]/\t.we=false/\t.km=none:=by
    unfold stepQuiet at h1
    unfold stepLoud
    cases hg:guardA s.slots i.guard with
    | none=>rw[hg]at h1;cases h1
    | some b =>
     rw[hg]at h1
     cases b with
     | false =>
      simp only[Xb]at h1
      subst h1
      exact⟨_,rfl,rfl,rfl,rfl⟩
     | true =>
      simp only at h1 ⊢
      cases hs:sem cl i.op key s.slots s.heap s.ep with
      | none=>rw[hs]at h1;cases h1
      | some o =>
       rw[hs]at h1
       obtain⟨v,ws,b⟩:=o
       cases ws<;>cases b<;>simp only[reduceCtorEq,Xb]at h1
       subst h1
       exact⟨_,rfl,rfl,rfl,rfl⟩
   obtain⟨t,h5,h6,h7,h8⟩:=h4
   refine⟨t::ts,by simp only[runLoud,h5,h2],fun t' ht=>?_⟩
   rcases Xl.1 ht with rfl|ht
   ·exact⟨h6,h7,h8⟩
   ·exact h3 t' ht
theorem Zb1:∀ {ops:List CIns} {ts:List Tr} {n:Nat} {p:Nat×CIns×Tr},p∈items n ops ts->∃ j,p.1=n+j/\ops[j]?=some p.2.1/\ts[j]?=some p.2.2
 | [],_,n,p,h=>by simp[items]at h
 | _::_,[],n,p,h=>by simp[items]at h
 | i::is,t::ts,n,p,h=>by
  simp only[items,Xl]at h
  rcases h with rfl|h
  ·exact⟨0,rfl,rfl,rfl⟩
  ·obtain⟨j,h1,h2,h3⟩:=Zb1 h
   exact⟨j+1,by omega,by simpa using h2,by simpa using h3⟩
theorem Zfk:∀ {ops:List CIns} {ts:List Tr} {n:Nat},ts.length=ops.length->(items n ops ts).map (·.1)=List.range' n ops.length
 | [],[],n,_=>rfl
 | [],_::_,n,h=>by simp at h
 | _::_,[],n,h=>by simp at h
 | i::is,t::ts,n,h=>by
  simp only[items,Xx,Xaa,List.range'_succ]
  rw[Zfk (by simpa using h)]
theorem Zgv{a:Tr}{i:Nat}:∀ {bs:List Tr} {ds:List Nat},clearOf a i bs ds=true->∀ (j:Nat) (b:Tr),bs[j]?=some b->∃ d,ds[j]?=some d/\(d.testBit i=true\/a.clash b=false)
 | [],_,_,j,b,hb=>by simp at hb
 | _::_,[],h,j,b,hb=>by cases h
 | c::bs,d::ds,h,j,b,hb=>by
  simp only[clearOf,Xc,Xas,Xv]at h
  cases j with
  | zero=>simp only[Xm,Xb]at hb;subst hb;exact⟨d,rfl,h.1⟩
  | succ j=>exact Zgv h.2 j b (by simpa using hb)
theorem Zft:∀ {ts:List Tr} {ds:List Nat} {n:Nat},allClear n ts ds=true->∀ (i j:Nat) (a b:Tr),i<j->ts[i]?=some a->ts[j]?=some b->∃ d,ds[j]?=some d/\(d.testBit (n+i)=true\/a.clash b=false)
 | [],_,n,_,i,j,a,b,_,ha,_=>by simp at ha
 | _::_,[],n,h,_,_,_,_,_,_,_=>by cases h
 | t::ts,d::ds,n,h,i,j,a,b,hij,ha,hb=>by
  simp only[allClear,Xc]at h
  cases j with
  | zero=>omega
  | succ j =>
   cases i with
   | zero =>
    simp only[Xm,Xb]at ha
    subst ha
    obtain⟨d',h1,h2⟩:=Zgv h.1 j b (by simpa using hb)
    exact⟨d',by simpa using h1,by simpa using h2⟩
   | succ i =>
    obtain⟨d',h1,h2⟩:=Zft h.2 i j a b (by omega) (by simpa using ha) (by simpa using hb)
    exact⟨d',by simpa using h1,by rw[show n+(i+1)=n+1+i by omega];exact h2⟩
theorem Zhz{a:CIns}{i:Nat}:∀ {bs:List CIns} {ds:List Nat},slotsOf a i bs ds=true->∀ (j:Nat) (b:CIns),bs[j]?=some b->∃ d,ds[j]?=some d/\(d.testBit i=true\/a.apart b=true)
 | [],_,_,j,b,hb=>by simp at hb
 | _::_,[],h,j,b,hb=>by cases h
 | c::bs,d::ds,h,j,b,hb=>by
  simp only[slotsOf,Xc,Xas]at h
  cases j with
  | zero=>simp only[Xm,Xb]at hb;subst hb;exact⟨d,rfl,h.1⟩
  | succ j=>exact Zhz h.2 j b (by simpa using hb)
theorem Zcd:∀ {ts:List CIns} {ds:List Nat} {n:Nat},slotsClear n ts ds=true->∀ (i j:Nat) (a b:CIns),i<j->ts[i]?=some a->ts[j]?=some b->∃ d,ds[j]?=some d/\(d.testBit (n+i)=true\/a.apart b=true)
 | [],_,n,_,i,j,a,b,_,ha,_=>by simp at ha
 | _::_,[],n,h,_,_,_,_,_,_,_=>by cases h
 | t::ts,d::ds,n,h,i,j,a,b,hij,ha,hb=>by
  simp only[slotsClear,Xc]at h
  cases j with
  | zero=>omega
  | succ j =>
   cases i with
   | zero =>
    simp only[Xm,Xb]at ha
    subst ha
    obtain⟨d',h1,h2⟩:=Zhz h.1 j b (by simpa using hb)
    exact⟨d',by simpa using h1,by simpa using h2⟩
   | succ i =>
    obtain⟨d',h1,h2⟩:=Zcd h.2 i j a b (by omega) (by simpa using ha) (by simpa using hb)
    exact⟨d',by simpa using h1,by rw[show n+(i+1)=n+1+i by omega];exact h2⟩
def Free(deps:List Nat)(l:List (Nat×CIns×Tr)):Prop:=∀ x∈l,∀ p∈l,x.1<p.1->∃ d,deps[p.1]?=some d/\(d.testBit x.1=true\/(x.2.1.apart p.2.1=true/\x.2.2.clash p.2.2=false))
theorem Zn3{ops:List CIns}{ts:List Tr}{deps:List Nat}(hc:allClear 0 ts deps=true)(hs:slotsClear 0 ops deps=true):Free deps (items 0 ops ts):=by
 intro x hx p hp hlt
 obtain⟨i,hi,hx1,hx2⟩:=Zb1 hx
 obtain⟨j,hj,hp1,hp2⟩:=Zb1 hp
 rw[Xbe]at hi hj
 obtain⟨d,h1,h2⟩:=Zft hc i j _ _ (by omega) hx2 hp2
 obtain⟨d',h3,h4⟩:=Zcd hs i j _ _ (by omega) hx1 hp1
 rw[h1]at h3
 obtain rfl:=Xf h3
 rw[Xbe]at h2 h4
 rw[hi,hj]
 refine⟨d,h1,?_⟩
 cases h:d.testBit i
 ·right
  rw[h]at h2 h4
  exact⟨by simpa using h4,by simpa using h2⟩
 ·exact .inl rfl
theorem Zn4{ops:List CIns}{ts:List Tr}{deps:List Nat}(hq:∀ t∈ts,t.wr=[]/\t.we=false/\t.km=none)(hs:slotsClear 0 ops deps=true):Free deps (items 0 ops ts):=by
 intro x hx p hp hlt
 obtain⟨i,hi,hx1,hx2⟩:=Zb1 hx
 obtain⟨j,hj,hp1,hp2⟩:=Zb1 hp
 rw[Xbe]at hi hj
 obtain⟨d',h3,h4⟩:=Zcd hs i j _ _ (by omega) hx1 hp1
 rw[Xbe]at h4
 rw[hi,hj]
 refine⟨d',h3,h4.imp id fun h=>⟨h,?_⟩⟩
 obtain⟨q1,q2,_⟩:=hq _ (Xe hx2)
 obtain⟨q3,q4,_⟩:=hq _ (Xe hp2)
 have hq1:=hq _ (Xe hx2)
 simp[Tr.clash,hq1.2.2,Tr.meet,q1,q2,q3,q4,meets]
end
end Go.Proofs.YtgdfelbedghhnaaGreatDoor
namespace Go.Proofs.YtgdfelbedghhnaaGreatDoor
open Go Go.RowKit
set_option linter.unusedSimpArgs false
section
variable {cx:Cx} {s:St} {g:Gh} {a:Act} {w:World} {o:Oper} {key:Nat} {out:Out} {cl:Callee}
theorem Zra{x:Operand}{t:TypeId}{d:TypeDesc}{i0:TypeInfo}(ho:o.op=.load t x)(ht:cx.P.underlying t=some d)(hi:cx.P.info? t=some i0)(hsz:aggB d=false->i0.size=1)
  {b off:Nat} (hx:a.eval x=.pointer (some ⟨b,off,none⟩)) {cs:List AV} (F:AV->AV) {g':Gh} {h':Nat->Option AO} {ep':Nat}
  (hcell:∀ j c,cs[j]?=some c->∃ u,w.cell? ⟨b,off+j,none⟩=some u/\u.oneCell'=true/\SRel cx.num w cx.R g' h' ep' u (F c))
  (hlen:i0.size<=cs.length):∃ v,(execOp a.eval o).run cx.P w=.ok (.value v) w/\SRel cx.num w cx.R g' h' ep' v (if aggB d then .agg ((cs.take i0.size).map F) else F (cs.getD 0 .any)):=by
 have hex:∃ us:Nat->Value,∀ j c,cs[j]?=some c->w.cell? ⟨b,off+j,none⟩=some (us j)/\(us j).oneCell'=true/\SRel cx.num w cx.R g' h' ep' (us j) (F c):=by
  have hj:∀ j,∃ u,∀ c,cs[j]?=some c->w.cell? ⟨b,off+j,none⟩=some u/\u.oneCell'=true/\SRel cx.num w cx.R g' h' ep' u (F c):=by
   intro j
   cases hj:cs[j]? with
   | none=>exact⟨undef,fun c hc=>by cases hc⟩
   | some c0 =>
    obtain⟨u,hu⟩:=hcell j c0 hj
    exact⟨u,fun c hc=>by rw[<- Xf hc];exact hu⟩
  exact⟨fun j=>(hj j).choose,fun j=>(hj j).choose_spec⟩
 obtain⟨us,hus⟩:=hex
 have hcs:∀ j,j<i0.size->w.cell? ⟨b,off+j,none⟩=some (us j):=fun j hj=>(hus j _ (Xd (Xaw hj hlen))).1
 have hrun:=Zc5 (w:=w) ht hi b off us hcs hsz
 cases hd:aggB d with
 | true =>
  rw[hd]at hrun
  simp only[Xag]at hrun ⊢
  refine⟨.agg ((List.range i0.size).map us).toArray,?_,?_⟩
  ·simp[execOp,ho,hx,Instr.loadAt,Instr.sureAddr,hrun]
  ·refine .agg _ _ (by simp;omega) ?_ ?_
   ·intro j v hv
    simp only[Xbd,Xam]at hv
    cases hj:(List.range i0.size)[j]? with
    | none=>rw[hj]at hv;cases hv
    | some j' =>
     rw[hj]at hv
     simp only[Xw,Xb]at hv
     have hj2:=Xa.1 hj
     obtain⟨hlt,he⟩:=hj2
     simp only[Xb5]at hlt
     simp only[Xce]at he
     subst he
     subst hv
     exact (hus j _ (Xd (Xaw hlt hlen))).2.1
   ·intro j v c hv hc
    simp only[Xbd,Xam]at hv hc
    cases hj:(List.range i0.size)[j]? with
    | none=>rw[hj]at hv;cases hv
    | some j' =>
     rw[hj]at hv
     simp only[Xw,Xb]at hv
     have hj2:=Xa.1 hj
     obtain⟨hlt,he⟩:=hj2
     simp only[Xb5]at hlt
     simp only[Xce]at he
     subst he
     subst hv
     have hcj:cs[j]?=some cs[j]:=Xd (Xaw hlt hlen)
     have htk:(List.take i0.size cs)[j]?=some cs[j]:=by rw[Xal,Xr hlt,hcj]
     rw[htk]at hc
     simp only[Xw,Xb]at hc
     subst hc
     exact (hus j _ hcj).2.2
 | false =>
  rw[hd]at hrun
  simp only[Xq,Xaj]at hrun ⊢
  have h0:0<cs.length:=by have:=hsz hd;omega
  have hc0:cs[0]?=some cs[0]:=Xd h0
  refine⟨us 0,?_,?_⟩
  ·simp[execOp,ho,hx,Instr.loadAt,Instr.sureAddr,hrun]
  ·have:=(hus 0 _ hc0).2.2
   have he:cs.getD 0 .any=cs[0]:=by simp[List.getD,hc0]
   rw[he]
   exact this
theorem Cl.frz{w:World}{I I':Nat->Prop}{v:Value}{c:AV}{S:Nat->Prop}(h:Cl w I v c S)(hS:∀ b,S b->I' b)(hI:∀ b,I b->I' b):Cl w I' v c.frz (fun _=>False):=by
 have hb:=h.bor hS hI
 cases h with
 | any _ _ h=>exact .any _ _ h (fun _ h=>h)
 | bool=>exact .bool _ _ (fun _ h=>h)
 | int=>exact .int _ _ _ (fun _ h=>h)
 | str=>exact .str _ _ (fun _ h=>h)
 | imm=>exact .imm _ _ _ _ hb (fun _ h=>h)
 | nil=>exact .imm _ _ _ _ hb.md (fun _ h=>h)
 | own=>exact .imm _ _ _ _ hb.md (fun _ h=>h)
theorem SRel.of_frz{num:Nat->Option FuncId}{w:World}{R:Nat->Prop}{g:Gh}{h:Nat->Option AO}{ep:Nat}{v:Value}{c:AV}{S:Nat->Prop}(hc:Cl w g.I v c.frz S):SRel num w R g h ep v c.frz:=by
 have h1:=hc.one
 generalize hf:c.frz=d at hc
 have hno:∀ sz xs,d≠.sl .own sz xs:=fun sz xs e=>by
  rw[<- hf]at e
  cases c<;>simp[AV.frz]at e
  rename_i m _ _
  cases m<;>simp at e
 cases hc with
 | any=>exact .any _
 | bool=>exact .bool _
 | int=>exact .int _ _
 | str=>exact .str _
 | imm _ sz xs _ hbor _=>exact .sl _ _ _ _ h1 (fun _=>hbor) (fun e he=>by cases he) (by simp)
 | nil=>exact absurd rfl (hno _ _)
 | own=>exact absurd rfl (hno _ _)
theorem Znk{xs:List (List AV)}{f:AV->AV}{i j:Nat}:cellAt (xs.map (·.map f)) i j=(cellAt xs i j).map f:=by
 unfold cellAt
 rw[Xam]
 cases xs[i]? with
 | none=>rfl
 | some r=>simp[Xam]
theorem Zji(m:Mem cx s.heap s.ep g w){x:Operand}{t:TypeId}{d:TypeDesc}{i0:TypeInfo}{y:Opd}(ho:o.op=.load t x)(ht:cx.P.underlying t=some d)(hi:cx.P.info? t=some i0)(hsz:aggB d=false->i0.size=1)
  (h1:SRel cx.num w cx.R g s.heap s.ep (a.eval x) (y.ev s.slots)) (h:sem cl (.load y i0.size (aggB d) .freeze) key s.slots s.heap s.ep=some out):Done cx s g a w o key out:=by
 by_cases hp:∃ id i off sz xs,y.ev s.slots=.ptr id i off/\s.heap id=some (.arr sz xs)
 ·obtain⟨id,i,off,sz,xs,hy,hh⟩:=hp
  simp only[sem,hy,hh]at h
  rw[hy]at h1
  generalize hev:a.eval x=v1 at h1
  cases h1 with
  | ptr _ _ _ _ _ hu hv =>
   obtain⟨b,n',c',hg,he⟩:=hv _ hh
   obtain⟨hcl,hN⟩:=m.objs id _ hh
   cases hx:xs[i]? with
   | none=>rw[hx]at h;cases h
   | some row =>
    rw[hx]at h
    simp only at h
    rcases hcl.rows with ⟨h5,h6,_⟩|⟨b',cap',cur,e2,us,fs,h5,hheap,hcap,hmax,hcur,hcellm,r0,hnb,hS⟩
    ·rw[h6]at hx;simp at hx
    have hg0:=hg
    rw[hg]at h5
    simp only[Value.slice.injEq,Xb,Addr.mk.injEq,Xbv]at h5
    obtain⟨rfl,rfl,rfl⟩:=h5
    cases hl:loadFrom (row.map AV.frz) off i0.size (aggB d) with
    | none=>rw[hl]at h;cases h
    | some r =>
     rw[hl]at h
     obtain rfl:=Xf h
     obtain⟨hle,hr⟩:=Za3 hsz hl
     rw[Xb1]at hle
     let I':Nat->Prop:=fun x=>g.I x\/Fall xs fs x
     let g':Gh:=⟨g.v,upd g.fp id (fun x=>x=b),I',g.N,g.used⟩
     have hcl':∀ i j c,cellAt xs i j=some c->Cl w I' (us i j) c.frz (fun _=>False):=fun i j c hc=>(r0.cl i j c hc).frz (fun x hx=>.inr ⟨i,j,c,hc,hx⟩) (fun _ h=>.inl h)
     have hcat:∀ i j c,cellAt (xs.map (·.map AV.frz)) i j=some c->∃ c0,cellAt xs i j=some c0/\c=c0.frz:=fun i j c hc=>by
      rw[Znk]at hc
      cases h7:cellAt xs i j with
      | none=>rw[h7]at hc;cases hc
      | some c0=>rw[h7]at hc;exact⟨c0,rfl,(Xf hc).symm⟩
     have hobj:Cl w I' (g.v id) (.sl .own sz (xs.map (·.map AV.frz))) (fun x=>x=b):=by
      rw[hg0,show xs.length=(xs.map (·.map AV.frz)).length by simp]
      refine .own sz _ b c' cur e2 us (fun _ _ _=>False) _ hheap (by rw[Xb1];exact hcap) hmax hcur (fun r hr=>?_) (fun i j c hc=>?_) (fun i j c hc=>?_) (fun _ _ _ _ _ _ _ _ _ hf=>hf.elim) (fun _ _ _ _ hf=>hf) (fun x=>?_)
      ·obtain⟨r',h7,rfl⟩:=Xap.1 hr
       rw[Xb1];exact r0.row r' h7
      ·obtain⟨c0,h7,_⟩:=hcat i j c hc
       exact hcellm i j c0 h7
      ·obtain⟨c0,h7,rfl⟩:=hcat i j c hc
       exact hcl' i j c0 h7
      ·exact⟨.inl,fun h=>h.elim (fun h=>h) fun ⟨_,_,_,_,hf⟩=>hf.elim⟩
     have hSb:g.fp id b:=(hS b).2 (.inl rfl)
     have t:Touch cx (fun k=>k=id) s.heap s.ep g w (wsOn s.heap [(id,some (.arr sz (xs.map (·.map AV.frz))))]) (s.ep+1) g' w:=by
      refine⟨rfl,rfl,rfl,Xo _,Xca _,?_,fun _ _ _=>rfl,fun _ h=>h,?_,?_,?_,?_,fun _ h=>.inl h,?_,?_,fun _ h=>h,fun _ h=>.inl h,fun he=>absurd he (by omega)⟩
      ·intro k hk
       exact⟨by simp[wsOn,upd,hk],fun _=>⟨rfl,by simp[g',upd,hk]⟩⟩
      ·intro k o1 hk _
       rw[hk];exact hu
      ·intro k o1 hk _ ho1
       subst hk
       simp only[wsOn,upd,Xag,Xb]at ho1
       exact⟨_,hh,by rw[<- ho1];rfl,rfl⟩
      ·intro k o1 x hk ho1 hf
       subst hk
       have hxb:x=b:=by simpa [g',upd] using hf
       subst hxb
       refine⟨.inr ⟨k,_,rfl,hh,hSb⟩,?_⟩
       rintro (h7|h7)
       ·exact (m.mine k _ x hh hSb).2 h7
       ·exact hnb h7
      ·intro k k' _ _ x hk hk' _ _ _ _
       exact hk.trans hk'.symm
      ·rintro x (h7|h7)
       ·exact .inl h7
       ·exact .inr (.inl ⟨id,_,rfl,hh,(hS x).2 (.inr h7)⟩)
      ·rintro x (h7|h7)
       ·exact m.I_N x h7
       ·exact hN x ((hS x).2 (.inr h7))
     have hx2:a.eval x=.pointer (some ⟨b,i*sz+off,none⟩):=hev.trans he
     obtain⟨v,hrun,hval⟩:=Zra (cx:=cx) (cs:=(row.map AV.frz).drop off) ho ht hi hsz hx2 (fun c=>c) (g':=g') (h':=wsOn s.heap [(id,some (.arr sz (xs.map (·.map AV.frz))))]) (ep':=s.ep+1) (fun j c hj=>by
      rw[Xaq,Xam]at hj
      cases h7:row[off+j]? with
      | none=>rw[h7]at hj;cases hj
      | some c0 =>
       rw[h7]at hj
       simp only[Xw,Xb]at hj
       subst hj
       have hca:cellAt xs i (off+j)=some c0:=Zab.2 ⟨row,hx,h7⟩
       have h8:=hcl' _ _ _ hca
       refine⟨us i (off+j),?_,h8.one,SRel.of_frz (g:=g') h8⟩
       rw[Zaf hheap,Xb0]
       exact hcellm _ _ _ hca) (by simp;omega)
     refine⟨_,v,w,g',hrun,.inl rfl,t.keeps m,t.mem m (fun k o1 hk ho1=>?_),?_,fun _ h=>.inl h⟩
     ·subst hk
      simp only[wsOn,upd,Xag,Xb]at ho1
      subst ho1
      refine⟨?_,?_⟩
      ·show Cl w I' (g.v k) _ (upd g.fp k (fun x=>x=b) k)
       simp only[upd,Xag]
       exact hobj
      ·show ∀ x,upd g.fp k (fun x=>x=b) k x->_
       simp only[upd,Xag]
       rintro x rfl
       exact hN _ hSb
     ·simp only[List.map_id']at hval
      rw[hr]
      exact hval
 ·have hplain:sem cl (.load y i0.size (aggB d) .plain) key s.slots s.heap s.ep=some out:=by
   simp only[sem]at h ⊢
   generalize y.ev s.slots=c1 at h hp ⊢
   cases c1<;>try exact h
   rename_i id i off
   cases hh:s.heap id with
   | none=>simp only[hh]at h;cases h
   | some ob =>
    simp only[hh]at h ⊢
    cases ob<;>try exact h
    exact absurd ⟨id,i,off,_,_,rfl,hh⟩ hp
  exact Zcj m ho ht hi hsz h1 hplain
theorem Zh9(m:Mem cx s.heap s.ep g w)(hk:¬ g.used key){x:Operand}{t:TypeId}{d:TypeDesc}{i0:TypeInfo}{y:Opd}(ho:o.op=.load t x)(ht:cx.P.underlying t=some d)(hi:cx.P.info? t=some i0)(hag:aggB d=false)(hsz:i0.size=1)
  (h1:SRel cx.num w cx.R g s.heap s.ep (a.eval x) (y.ev s.slots)) (h:sem cl (.load y i0.size (aggB d) .take) key s.slots s.heap s.ep=some out):Done cx s g a w o key out:=by
 by_cases hp:∃ id i off sz xs,y.ev s.slots=.ptr id i off/\s.heap id=some (.arr sz xs)
 ·obtain⟨id,i,off,sz,xs,hy,hh⟩:=hp
  simp only[sem,hy,hh]at h
  rw[hy]at h1
  generalize hev:a.eval x=v1 at h1
  cases h1 with
  | ptr _ _ _ _ _ hu hv =>
   obtain⟨b,n',c',hg,he⟩:=hv _ hh
   obtain⟨hcl,hN⟩:=m.objs id _ hh
   cases hx:xs[i]? with
   | none=>rw[hx]at h;cases h
   | some row =>
    rw[hx]at h
    simp only at h
    split at h
    case h_2=>cases h
    rename_i sz2 ys hro
    obtain rfl:=Xf h
    rcases hcl.rows with ⟨h5,h6,_⟩|⟨b',cap',cur,e2,us,fs,h5,hheap,hcap,hmax,hcur,hcellm,r0,hnb,hS⟩
    ·rw[h6]at hx;simp at hx
    have hg0:=hg
    rw[hg]at h5
    simp only[Value.slice.injEq,Xb,Addr.mk.injEq,Xbv]at h5
    obtain⟨rfl,rfl,rfl⟩:=h5
    have hca:cellAt xs i off=some (.sl .own sz2 ys):=Zab.2 ⟨row,hx,hro⟩
    have hlt:=(Xa.1 hx).1
    have holt:=(Xa.1 hro).1
    have hcl1:=r0.cl i off _ hca
    have hkid:key≠id:=fun e=>hk (e ▸ hu)
    have hMS:∀ x,fs i off x->g.fp id x:=fun x hx=>(hS x).2 (.inr ⟨i,off,_,hca,hx⟩)
    have hSb:g.fp id b:=(hS b).2 (.inl rfl)
    let F1:Nat->Prop:=fun x=>g.fp id x/\¬ fs i off x
    let g':Gh:=⟨upd g.v key (us i off),upd (upd g.fp id F1) key (fs i off),g.I,g.N,fun n=>g.used n\/n=key⟩
    have hcat:∀ i' k c,cellAt (xs.set i (row.set off .any)) i' k=some c->(i'=i/\k=off/\c=.any)\/(¬ (i'=i/\k=off)/\cellAt xs i' k=some c):=by
     intro i' k c hcc
     rw[Zba hlt]at hcc
     by_cases h7:i'=i
     ·rw[Xr h7,List.getElem?_set]at hcc
      by_cases h8:off=k
      ·rw[Xr h8,Xr holt]at hcc
       exact .inl ⟨h7,h8.symm,(Xf hcc).symm⟩
      ·rw[Xu h8]at hcc
       exact .inr ⟨fun h=>h8 h.2.symm,Zab.2 ⟨row,by rw[h7];exact hx,hcc⟩⟩
     ·rw[Xu h7]at hcc
      exact .inr ⟨fun h=>h7 h.1,hcc⟩
    have hrowl:∀ r∈xs.set i (row.set off .any),r.length=sz:=fun r hr'=>by
     rcases Xat hr' with h7|h7
     ·exact r0.row r h7
     ·rw[h7,Xa0];exact r0.row row (Xe hx)
    have hold:∀ i' k c,cellAt (xs.set i (row.set off .any)) i' k=some c->∃ c0,cellAt xs i' k=some c0:=fun i' k c hcc=>by
     rcases hcat i' k c hcc with ⟨rfl,rfl,_⟩|⟨_,h7⟩
     ·exact⟨_,hca⟩
     ·exact⟨_,h7⟩
    let fs':Nat->Nat->Nat->Prop:=fun i' k x=>if i'=i/\k=off then False else fs i' k x
    have hobj:Cl w g.I (g.v id) (.sl .own sz (xs.set i (row.set off .any))) F1:=by
     rw[hg0,show xs.length=(xs.set i (row.set off .any)).length by simp]
     refine .own sz _ b c' cur e2 us fs' _ hheap (by rw[Xa0];exact hcap) hmax hcur hrowl (fun i' k c hcc=>?_) (fun i' k c hcc=>?_) (fun i1 k1 c1 i2 k2 c2 x hc1 hc2 hf1 hf2=>?_) (fun i' k c hcc hf=>?_) (fun x=>?_)
     ·obtain⟨c0,h7⟩:=hold i' k c hcc
      exact hcellm _ _ _ h7
     ·rcases hcat i' k c hcc with ⟨rfl,rfl,rfl⟩|⟨h7,h8⟩
      ·simp only[fs',Xcy,Xag]
       exact .any _ _ hcl1.one (fun _ h=>h)
      ·simp only[fs',h7,Xaj]
       exact r0.cl i' k c h8
     ·by_cases q1:i1=i/\k1=off
      ·simp[fs',q1]at hf1
      ·by_cases q2:i2=i/\k2=off
       ·simp[fs',q2]at hf2
       ·simp only[fs',q1,q2,Xaj]at hf1 hf2
        obtain⟨_,h7⟩:=hold _ _ _ hc1
        obtain⟨_,h8⟩:=hold _ _ _ hc2
        exact r0.dis _ _ _ _ _ _ x h7 h8 hf1 hf2
     ·by_cases q1:i'=i/\k=off
      ·simp[fs',q1]at hf
      ·simp only[fs',q1,Xaj]at hf
       obtain⟨_,h7⟩:=hold _ _ _ hcc
       exact hnb ⟨_,_,_,h7,hf⟩
     ·constructor
      ·rintro⟨h7,h8⟩
       rcases (hS x).1 h7 with h9|⟨i',k,c,h9,h10⟩
       ·exact .inl h9
       ·have q1:¬ (i'=i/\k=off):=fun ⟨e1,e2⟩=>by subst e1;subst e2;exact h8 h10
        obtain⟨c',h11⟩:=Za9 hrowl (i:=i') (j:=k) (by rw[Xa0];exact Zcg h9) (Zbh r0.row h9)
        exact .inr ⟨i',k,c',h11,by simp only[fs',q1,Xaj];exact h10⟩
      ·rintro (h7|⟨i',k,c,h9,h10⟩)
       ·rw[h7]
        exact⟨hSb,fun h8=>hnb ⟨i,off,_,hca,h8⟩⟩
       ·by_cases q1:i'=i/\k=off
        ·simp[fs',q1]at h10
        ·simp only[fs',q1,Xaj]at h10
         obtain⟨c0,h11⟩:=hold _ _ _ h9
         exact⟨(hS x).2 (.inr ⟨_,_,_,h11,h10⟩),fun h12=>q1 (r0.dis _ _ _ _ _ _ x h11 hca h10 h12)⟩
    have hfpid:g'.fp id=F1:=by simp[g',upd,Ne.symm hkid]
    have hfpk:g'.fp key=fs i off:=by simp[g',upd]
    have hh':∀ k,wsOn s.heap [(id,some (.arr sz (xs.set i (row.set off .any)))),(key,some (.arr sz2 ys))] k=if k=key then some (.arr sz2 ys) else if k=id then some (.arr sz (xs.set i (row.set off .any))) else s.heap k:=fun k=>by simp[wsOn,upd]
    have hidk:id≠key:=Ne.symm hkid
    have t:Touch cx (fun k=>k=id\/k=key) s.heap s.ep g w (wsOn s.heap [(id,some (.arr sz (xs.set i (row.set off .any)))),(key,some (.arr sz2 ys))]) (s.ep+1) g' w:=by
     refine⟨rfl,rfl,rfl,Xo _,Xca _,?_,fun _ _ _=>rfl,fun _ h=>.inl h,?_,?_,?_,?_,fun _ h=>h,fun _ h=>.inl h,m.I_N,fun _ h=>h,fun _ h=>.inl h,fun he=>absurd he (by omega)⟩
     ·intro k hk
      have h7:k≠id:=fun e=>hk (.inl e)
      have h8:k≠key:=fun e=>hk (.inr e)
      exact⟨by rw[hh',Xu h8,Xu h7],fun _=>⟨by simp[g',upd,h8],by simp[g',upd,h7,h8]⟩⟩
     ·rintro k o1 (rfl|rfl) _
      ·exact .inl hu
      ·exact .inr rfl
     ·rintro k o1 (rfl|rfl) hku ho1
      ·rw[hh',Xu hidk,Xr rfl]at ho1
       exact⟨_,hh,by rw[<- Xf ho1];rfl,by simp[g',upd,hidk]⟩
      ·exact absurd hku hk
     ·rintro k o1 x (rfl|rfl) ho1 hf
      ·rw[hfpid]at hf
       exact⟨.inr ⟨k,_,.inl rfl,hh,hf.1⟩,(m.mine k _ x hh hf.1).2⟩
      ·rw[hfpk]at hf
       exact⟨.inr ⟨id,_,.inl rfl,hh,hMS x hf⟩,(m.mine id _ x hh (hMS x hf)).2⟩
     ·rintro k k' o1 o2 x (rfl|rfl) (rfl|rfl) _ _ hf hf'
      ·rfl
      ·rw[hfpid]at hf;rw[hfpk]at hf';exact absurd hf' hf.2
      ·rw[hfpk]at hf;rw[hfpid]at hf';exact absurd hf hf'.2
      ·rfl
    have hcell:w.cell? ⟨b,i*sz+off,none⟩=some (us i off):=by rw[Zaf hheap];exact hcellm _ _ _ hca
    have hrun:=Zc5 (w:=w) ht hi b (i*sz+off) (fun _=>us i off) (fun j hj=>by
     have:j=0:=by omega
     subst this
     simpa using hcell) (fun _=>hsz)
    rw[hag]at hrun
    simp only[Xq,Xaj]at hrun
    refine⟨_,us i off,w,g',by simp[execOp,ho,hev.trans he,Instr.loadAt,Instr.sureAddr,hrun],.inl rfl,t.keeps m,t.mem m (fun k o1 hk ho1=>?_),?_,?_⟩
    ·rcases hk with rfl|rfl
     ·rw[hh',Xu hidk,Xr rfl]at ho1
      obtain rfl:=Xf ho1
      refine⟨?_,?_⟩
      ·rw[hfpid,show g'.v k=g.v k by simp[g',upd,hidk]]
       exact hobj
      ·rw[hfpid]
       exact fun x hx=>hN x hx.1
     ·rw[hh',Xr rfl]at ho1
      obtain rfl:=Xf ho1
      refine⟨?_,?_⟩
      ·rw[hfpk,show g'.v k=us i off by simp[g',upd]]
       exact hcl1
      ·rw[hfpk]
       exact fun x hx=>hN x (hMS x hx)
    ·exact .ref key _ hcl1.one (.inr rfl) (fun _ _=>by simp[g',upd])
    ·rintro n (h7|rfl)
     ·exact .inl h7
     ·exact .inr ⟨Xo _,by omega⟩
 ·have hplain:sem cl (.load y i0.size (aggB d) .plain) key s.slots s.heap s.ep=some out:=by
   simp only[sem]at h ⊢
   generalize y.ev s.slots=c1 at h hp ⊢
   cases c1<;>try exact h
   rename_i id i off
   cases hh:s.heap id with
   | none=>simp only[hh]at h;cases h
   | some ob =>
    simp only[hh]at h ⊢
    cases ob<;>try exact h
    exact absurd ⟨id,i,off,_,_,rfl,hh⟩ hp
  exact Zcj m ho ht hi (fun _=>hsz) h1 hplain
end
end Go.Proofs.YtgdfelbedghhnaaGreatDoor
namespace Go.Proofs.YtgdfelbedghhnaaGreatDoor
open Go Go.RowKit
set_option linter.unusedSimpArgs false
theorem Keeps.trans{w w1 w2:World}{R:Nat->Prop}{g g1 g2:Gh}{h h1 h2:Nat->Option AO}{ep ep1 ep2:Nat}(k1:Keeps w R g h ep w1 g1 h1 ep1)(k2:Keeps w1 R g1 h1 ep1 w2 g2 h2 ep2):Keeps w R g h ep w2 g2 h2 ep2 :=
 ⟨fun b hb=>(k2.R b hb).trans (k1.R b hb),fun b hb=>(k2.I b (k1.Iup b hb)).trans (k1.I b hb),fun b hb=>k2.Iup b (k1.Iup b hb),fun e b hb=>(k2.N (by have:=k1.epup;have:=k2.epup;omega) b (k1.Nup b hb)).trans (k1.N (by have:=k1.epup;have:=k2.epup;omega) b hb),fun b hb=>k2.Nup b (k1.Nup b hb),Xac k1.epup k2.epup,fun i hi=>k2.used i (k1.used i hi),fun i o' hi ho=>by
  obtain⟨o1,a1,a2,a3⟩:=k2.objs i o' (k1.used i hi) ho
  obtain⟨o0,b1,b2,b3⟩:=k1.objs i o1 hi a1
  exact⟨o0,b1,b2.trans a2,a3.trans b3⟩⟩
section
variable {cx:Cx} {s:St} {g:Gh} {a:Act} {w:World} {o:Oper} {key:Nat} {out:Out} {cl:Callee}
theorem Zo8(m:Mem cx s.heap s.ep g w){x:Operand}{t:TypeId}{d:TypeDesc}{i0:TypeInfo}{y:Opd}(ho:o.op=.load t x)(ht:cx.P.underlying t=some d)(hi:cx.P.info? t=some i0)(hag:aggB d=true)
  (h1:SRel cx.num w cx.R g s.heap s.ep (a.eval x) (y.ev s.slots)) (h:sem cl (.soft i0.size y) key s.slots s.heap s.ep=some out):Done cx s g a w o key out:=by
 have hl:∃ cs,sem cl (.load y i0.size (aggB d) .plain) key s.slots s.heap s.ep=Out.val (.agg cs)/\out=⟨.agg (cs.map (AV.soft s.ep)),[],false⟩:=by
  simp only[sem]at h ⊢
  rw[hag]
  generalize y.ev s.slots=c1 at h ⊢
  cases c1<;>try (cases h;done)
  rename_i id i off
  cases i with
  | succ i=>cases h
  | zero =>
   simp only at h ⊢
   cases hh:s.heap id with
   | none=>rw[hh]at h;cases h
   | some ob =>
    rw[hh]at h
    cases ob<;>simp only[reduceCtorEq]at h
    rename_i cells
    cases hf:loadFrom cells off i0.size true with
    | none=>rw[hf]at h;cases h
    | some v =>
     rw[hf]at h
     cases v<;>simp only[reduceCtorEq]at h
     rename_i cs
     exact⟨cs,by first|(rw[Xr rfl,hf];rfl)|(simp only[Xag,hf];rfl),(Xf h).symm⟩
 obtain⟨cs,h2,rfl⟩:=hl
 obtain⟨n,v,w',g',h3,h4,h5,h6,h7,h8⟩:=Zcj m ho ht hi (by simp[hag]) h1 h2
 refine⟨n,v,w',g',h3,h4,h5,h6,?_,h8⟩
 cases h7 with
 | agg vs _ hl h9 hc =>
  refine .agg vs _ (by simpa using hl) h9 (fun i u c hu hi=>?_)
  rw[Xam]at hi
  cases hci:cs[i]? with
  | none=>rw[hci]at hi;cases hi
  | some c0 =>
   rw[hci]at hi
   simp only[Xw,Xb]at hi
   subst hi
   have h10:=hc i u c0 hu hci
   cases c0<;>try exact h10
   rename_i md sz xs
   cases md<;>try exact h10
   cases h10 with
   | sl _ _ _ _ k1 k2 k3 k4=>exact .sl _ _ _ _ k1 (fun _=>((k2 rfl).mono (Same.refl _ _) (fun b hb=>h6.I_N b hb)).md) (fun e he=>by cases he;exact Xo _) (by simp)
theorem Zlq(m:Mem cx s.heap s.ep g w){x lo:Operand}{t e:TypeId}{i0:TypeInfo}{y lo':Opd}(ho:o.op=.slice t x (some lo) none none)(ht:cx.P.underlying t=some (.slice e))(hi0:cx.P.info? e=some i0)
  (h1:SRel cx.num w cx.R g s.heap s.ep (a.eval x) (y.ev s.slots)) (h2:OptRel a s.slots (SRel cx.num w cx.R g s.heap s.ep) (some lo) (some lo')) (h3:OptRel a s.slots (SRel cx.num w cx.R g s.heap s.ep) none none)
  (h:sem cl (.fslice i0.size y lo') key s.slots s.heap s.ep=some out):Done cx s g a w o key out:=by
 have hl:∃ id sz xs k p,y.ev s.slots=.ref id/\s.heap id=some (.arr sz xs)/\lo'.ev s.slots=.int k p/\sz=i0.size/\0<=p/\p<=xs.length/\out=⟨.sl .imm i0.size (xs.drop p.toNat),[(id,none)],true⟩:=by
  simp only[sem]at h
  generalize y.ev s.slots=c1 at h ⊢
  generalize lo'.ev s.slots=c2 at h ⊢
  cases c1<;>try (cases h;done)
  cases c2<;>try (cases h;done)
  rename_i id k p
  simp only at h
  cases hh:s.heap id with
  | none=>rw[hh]at h;cases h
  | some ob =>
   rw[hh]at h
   cases ob<;>simp only[reduceCtorEq]at h
   split at h
   ·rename_i hc
    exact⟨id,_,_,k,p,rfl,hh,rfl,hc.1,hc.2.1,hc.2.2,(Xf h).symm⟩
   ·cases h
 obtain⟨id,sz,xs,k,p,hy,hh,hp,rfl,hp0,hp1,rfl⟩:=hl
 have hsem:sem cl (.slice i0.size y (some lo') none) key s.slots s.heap s.ep=Out.val (.view id p.toNat (xs.length-p.toNat)):=by
  have hb:slBounds ((some lo').map (·.ev s.slots)) ((none:Option Opd).map (·.ev s.slots)) xs.length=some (p.toNat,xs.length):=by
   simp only[Xw,Xbu,hp,slBounds]
   exact Xr ⟨hp0,hp1⟩
  simp only[sem,hy,hh,Xag,hb]
 obtain⟨n,v,w',g1,hrun,hn,k5,k6,k7,k8⟩:=Zim m ho ht hi0 h1 h2 h3 hsem
 have hu1:g1.used id:=by cases k7 with|view _ _ _ _ _ hu _=>exact hu
 simp only[wsOn,Xq,Xaj]at k5 k6 k7
 obtain⟨hcl,hN⟩:=k6.objs id _ hh
 have hlen:(List.take (xs.length-p.toNat) (List.drop p.toNat xs)).length=xs.length-p.toNat:=by simp
 have htk:List.take (xs.length-p.toNat) (List.drop p.toNat xs)=xs.drop p.toNat:=Xae (by simp)
 let I':Nat->Prop:=fun b=>g1.I b\/g1.fp id b
 let g':Gh:=⟨g1.v,g1.fp,I',g1.N,g1.used⟩
 have hbor:Bor w' I' v (.sl .imm i0.size (xs.drop p.toNat)):=by
  cases k7 with
  | view _ _ _ _ _ hu hv =>
   obtain⟨a',cap,h5,h6,h7⟩:=hv _ _ hh
   by_cases hz:xs.length-p.toNat=0
   ·have:xs.drop p.toNat=[]:=List.drop_of_length_le (by omega)
    rw[h5,this,hz]
    exact .nil _ _ _ _
   ·obtain⟨b,n',c',h8,h9⟩:=h7 hz
    rcases hcl.rows with ⟨_,h6,_⟩|⟨b',cap',cur,e',us,fs,h5',hheap,_,_,_,hcell,hrows,_,hS⟩
    ·subst h6;simp at hz
    ·rw[h8]at h5'
     simp only[Value.slice.injEq,Xb,Addr.mk.injEq,Xbv]at h5'
     obtain⟨rfl,_⟩:=h5'
     have hat:∀ i j c,cellAt (xs.drop p.toNat) i j=some c->cellAt xs (p.toNat+i) j=some c:=by
      intro i j c hc
      obtain⟨row,hr1,hr2⟩:=Zab.1 hc
      exact Zab.2 ⟨row,by rwa [Xaq]at hr1,hr2⟩
     have:=Bor.sl (w:=w') (R:=I') .imm i0.size (xs.drop p.toNat) b (p.toNat*i0.size) cap (fun i j=>us (p.toNat+i) j) (by simpa using h6) (.inr ((hS _).2 (.inl rfl)))
      (fun row hr=>hrows.row row (Xbq hr))
      (fun i j c hc=>by rw[Zaf hheap,show p.toNat*i0.size+i*i0.size+j=(p.toNat+i)*i0.size+j by rw[Xa2]];exact hcell _ _ _ (hat i j c hc))
      (fun i j c hc=>(hrows.cl _ _ _ (hat i j c hc)).bor (fun x hx=>.inr ((hS x).2 (.inr ⟨_,_,_,hat i j c hc,hx⟩))) (fun x hx=>.inl hx))
     rw[h5,h9]
     rw[Xb3]at this
     exact this
 have tch:Touch cx (fun k=>k=id) s.heap s.ep g1 w' (wsOn s.heap [(id,none)]) (s.ep+1) g' w':=by
  refine⟨rfl,rfl,rfl,Xo _,Xca _,?_,fun _ _ _=>rfl,fun _ h=>h,?_,?_,?_,?_,fun _ h=>.inl h,?_,?_,fun _ h=>h,fun _ h=>.inl h,fun he=>absurd he (by omega)⟩
  ·intro k hk
   exact⟨by simp[wsOn,upd,hk],fun _=>⟨rfl,rfl⟩⟩
  ·intro k o1 hk ho1
   subst hk
   simp[wsOn,upd]at ho1
  ·intro k o1 hk _ ho1
   subst hk
   simp[wsOn,upd]at ho1
  ·intro k o1 b hk ho1
   subst hk
   simp[wsOn,upd]at ho1
  ·intro k k' _ _ b hk hk' ho1
   subst hk
   simp[wsOn,upd]at ho1
  ·rintro b (h7|h7)
   ·exact .inl h7
   ·exact .inr (.inl ⟨id,_,rfl,hh,h7⟩)
  ·rintro b (h7|h7)
   ·exact k6.I_N b h7
   ·exact hN b h7
 have hmem:=tch.mem k6 (fun k o1 hk ho1=>by subst hk;simp[wsOn,upd]at ho1)
 exact⟨n,v,w',g',hrun,hn,k5.trans (tch.keeps k6),hmem,.sl _ _ _ _ hbor.one (fun _=>hbor) (fun e he=>by cases he) (by simp),fun i hi=>k8 i hi⟩
end
end Go.Proofs.YtgdfelbedghhnaaGreatDoor
namespace Go.Proofs.YtgdfelbedghhnaaGreatDoor
open Go Go.RowKit
set_option linter.unusedSimpArgs false
/-! ### The check -/
section
variable (P:Program) (num:Nat->Option FuncId)
def opdB:Operand->Opd->Bool
 | .tmp t,.tmp t'=>t == t'
 | .const v,.const c=>zeroB v c
 | .func f,.const (.fn k)=>num k == some f
 | _,_=>false
def optB:Option Operand->Option Opd->Bool
 | none,none=>true
 | some x,some y=>opdB num x y
 | _,_=>false
def argsB:List Operand->List Opd->Bool
 | [],[]=>true
 | x::xs,y::ys=>opdB num x y && argsB xs ys
 | _,_=>false
def partsB(fs:Array Field):List (Nat×Operand)->List (Nat×Nat×Opd)->Bool
 | [],[]=>true
 | (i,x)::ps,(off,n,y)::qs=>(match fs[i]? with|some f=>f.offset == off && szT P f.type == n|none=>false) && (opdB num x y && partsB fs ps qs)
 | _,_=>false
def rowsB:List (Nat×Operand)->List (Nat×Opd)->Bool
 | [],[]=>true
 | (i,x)::ps,(j,y)::qs=>i == j && (opdB num x y && rowsB ps qs)
 | _,_=>false
def infoB(t:TypeId)(f:TypeInfo->Value->Bool):Bool :=
 match P.info? t with
 | some i=>match i.zero with
  | some z=>f i z
  | none=>false
 | none=>false
def sizeB(t:TypeId)(f:TypeInfo->Bool):Bool :=
 match P.info? t with
 | some i=>f i
 | none=>false
def sliceB(t:TypeId)(f:TypeId->Bool):Bool :=
 match P.underlying t with
 | some (.slice e)=>f e
 | _=>false
def strB(t:TypeId):Bool :=
 match P.underlying t with
 | some .string=>true
 | _=>false
def boolB(t:TypeId):Bool :=
 match P.underlying t with
 | some .bool=>true
 | _=>false
def byteB(t:TypeId):Bool :=
 match P.underlying t with
 | some (.int .u8)=>true
 | _=>false
def mapB(kb:Bool)(t:TypeId)(f:TypeId->Bool):Bool :=
 match P.underlying t with
 | some (.map k e)=>(if kb then boolB P k else strB P k) && f e
 | _=>false
def sameOpd:Operand->Operand->Bool
 | .tmp t,.tmp t'=>t == t'
 | .const (.int k n),.const (.int k' n')=>k == k' && n == n'
 | _,_=>false
def chkOp(o:Oper)(c:COp):Bool :=
 match c with
 | .mov y=>match o.op with
  | .move x=>opdB num x y
  | .assign x=>opdB num x y
  | _=>false
 | .sconv y=>match o.op with
  | .convert t t' x=>strB P t && (strB P t' && opdB num x y)
  | _=>false
 | .nilck y=>match o.op with
  | .nilCheck x=>opdB num x y
  | _=>false
 | .pick y1 y2 y3=>match o.op with
  | .pick x1 x2 x3=>opdB num x1 y1 && (opdB num x2 y2 && opdB num x3 y3)
  | _=>false
 | .bin op' y1 y2=>match o.op with
  | .binOp op _ x1 x2 _=>decide (op=op') && (opdB num x1 y1 && opdB num x2 y2)
  | _=>false
 | .beq neg y1 y2=>match o.op with
  | .binOp op t x1 x2 _=>decide (op=if neg then .neq else .eql) && (boolB P t && (opdB num x1 y1 && opdB num x2 y2))
  | _=>false
 | .eqs neg ks y1 y2=>match o.op with
  | .binOp op t x1 x2 _=>decide (op=if neg then .neq else .eql) && ((match P.underlying t with|some (.struct _)=>true|_=>false) && (!P.eqGuardType P.depth t && (decide (shapeTy P 10 t=some ks) && (opdB num x1 y1 && opdB num x2 y2))))
  | _=>false
 | .un op' y=>match o.op with
  | .unOp op _ x=>decide (op=op') && opdB num x y
  | _=>false
 | .conv k y=>match o.op with
  | .convert t t' x=>(P.underlying t).isSome && ((match P.underlying t' with|some (.int k')=>decide (k'=k)|_=>false) && opdB num x y)
  | _=>false
 | .toStr y=>match o.op with
  | .convert t t' x=>sliceB P t (byteB P) && (strB P t' && opdB num x y)
  | _=>false
 | .alloc zs=>match o.op with
  | .alloc t=>infoB P t fun _ z=>zerosB z.cells.toList zs
  | _=>false
 | .box y=>match o.op with
  | .box _ x=>opdB num x y
  | _=>false
 | .build zs qs=>match o.op with
  | .build t ps=>(match P.underlying t with|some (.struct fs)=>(fs.toList.all fun f=>(P.info? f.type).isSome) && partsB P num fs ps.toList qs|_=>false) && infoB P t fun _ z=>zerosB z.cells.toList zs
  | _=>false
 | .bslice sz zs len qs=>match o.op with
  | .buildSlice t n ps=>sliceB P t fun e=>infoB P e fun i z=>decide (i.size=sz) && (decide (z.cells.size=i.size) && (zerosB z.cells.toList zs && (decide (n=len) && (decide (len*i.size<=16777216/\len<=16777216) && rowsB num ps.toList qs))))
  | _=>false
 | .mksl sz zs bytes y=>match o.op with
  | .makeSlice t x1 x2=>sliceB P t fun e=>infoB P e fun i z=>decide (i.size=sz) && (decide (z.cells.size=i.size) && (zerosB z.cells.toList zs && (decide (i.bytes=bytes/\1<=i.bytes) && (sameOpd x1 x2 && opdB num x1 y))))
  | _=>false
 | .load y sz agg .plain=>match o.op with
  | .load t x=>sizeB P t fun i=>decide (i.size=sz) && ((match P.underlying t with|some d=>aggB d == agg && (aggB d || i.size == 1)|none=>false) && opdB num x y)
  | _=>false
 | .load y sz agg .share=>match o.op with
  | .load t x=>sizeB P t fun i=>decide (i.size=sz) && ((match P.underlying t with|some d=>aggB d == agg && (!aggB d && i.size == 1)|none=>false) && opdB num x y)
  | _=>false
 | .load y sz agg .take=>match o.op with
  | .load t x=>sizeB P t fun i=>decide (i.size=sz) && ((match P.underlying t with|some d=>aggB d == agg && (!aggB d && i.size == 1)|none=>false) && opdB num x y)
  | _=>false
 | .load y sz agg .freeze=>match o.op with
  | .load t x=>sizeB P t fun i=>decide (i.size=sz) && ((match P.underlying t with|some d=>aggB d == agg && (aggB d || i.size == 1)|none=>false) && opdB num x y)
  | _=>false
 | .store y1 y2 sz=>match o.op with
  | .store t x1 x2=>sizeB P t fun i=>decide (i.size=sz) && (opdB num x1 y1 && opdB num x2 y2)
  | _=>false
 | .faddr y off=>match o.op with
  | .fieldAddr t x fi=>(match P.underlying t with|some (.struct fs)=>(match fs[fi]? with|some f=>sizeB P f.type fun i=>i.size != 0 && f.offset == off|none=>false)|_=>false) && opdB num x y
  | _=>false
 | .iaddr sz y1 y2=>match o.op with
  | .indexAddr t x1 x2=>sliceB P t (fun e=>sizeB P e fun i=>decide (i.size=sz)) && (opdB num x1 y1 && opdB num x2 y2)
  | _=>false
 | .sidx y1 y2=>match o.op with
  | .index t x1 x2=>strB P t && (opdB num x1 y1 && opdB num x2 y2)
  | _=>false
 | .slice sz y lo' hi'=>match o.op with
  | .slice t x lo hi none=>sliceB P t (fun e=>sizeB P e fun i=>decide (i.size=sz)) && (opdB num x y && (optB num lo lo' && optB num hi hi'))
  | _=>false
 | .sslice y lo' hi'=>match o.op with
  | .slice t x lo hi none=>strB P t && (opdB num x y && (optB num lo lo' && optB num hi hi'))
  | _=>false
 | .len str y=>match o.op with
  | .call c=>match c.callee,c.args.toList,c.argTypes.toList with
   | .builtin .len,[x],[t]=>(if str then strB P t else sliceB P t fun _=>true) && opdB num x y
   | _,_,_=>false
  | _=>false
 | .append sz bytes _ y1 y2=>match o.op with
  | .call c=>match c.callee,c.args.toList,c.argTypes.toList with
   | .builtin .append,[x1,x2],[t,t']=>decide (t=t') && (sliceB P t (fun e=>infoB P e fun i z=>decide (i.size=sz) && (decide (i.bytes=bytes) && decide (z.cells.size=i.size))) && (opdB num x1 y1 && opdB num x2 y2))
   | _,_,_=>false
  | _=>false
 | .mx hi y1 y2=>match o.op with
  | .call c=>match c.callee,c.args.toList,c.argTypes.toList with
   | .builtin b,[x1,x2],[_,_]=>decide (b=if hi then .max else .min) && (opdB num x1 y1 && opdB num x2 y2)
   | _,_,_=>false
  | _=>false
 | .ext y n=>match o.op with
  | .extract x i=>i == n && opdB num x y
  | _=>false
 | .mkmap _=>match o.op with
  | .makeMap _ none=>true
  | _=>false
 | .lookup kb z y1 y2=>match o.op with
  | .lookup t x1 x2 false=>mapB P kb t (fun e=>infoB P e fun _ z0=>zeroB z0 z) && (opdB num x1 y1 && opdB num x2 y2)
  | _=>false
 | .mapset kb y1 y2 y3=>match o.op with
  | .mapUpdate t x1 x2 x3=>mapB P kb t (fun _=>true) && (opdB num x1 y1 && (opdB num x2 y2 && opdB num x3 y3))
  | .insert t x1 x2 x3=>mapB P kb t (fun _=>true) && (opdB num x1 y1 && (opdB num x2 y2 && opdB num x3 y3))
  | _=>false
 | .call k _ ys=>match o.op with
  | .call c=>match c.callee with
   | .value (.func f)=>num k == some f && argsB num c.args.toList ys
   | _=>false
  | _=>false
 | .callf y _ ys=>match o.op with
  | .call c=>match c.callee with
   | .value x=>opdB num x y && argsB num c.args.toList ys
   | _=>false
  | _=>false
 | .blank sz y=>match o.op with
  | .load t x=>sizeB P t fun i=>decide (i.size=sz) && ((match P.underlying t with|some d=>aggB d == true|none=>false) && opdB num x y)
  | _=>false
 | .soft sz y=>match o.op with
  | .load t x=>sizeB P t fun i=>decide (i.size=sz) && ((match P.underlying t with|some d=>aggB d == true|none=>false) && opdB num x y)
  | _=>false
 | .fslice sz y lo'=>match o.op with
  | .slice t x (some lo) none none=>sliceB P t (fun e=>sizeB P e fun i=>decide (i.size=sz)) && (opdB num x y && opdB num lo lo')
  | _=>false
 | .cut3 sz y hi' mx'=>match o.op with
  | .slice t x none (some hi) (some mx)=>sliceB P t (fun e=>sizeB P e fun i=>decide (i.size=sz)) && (opdB num x y && (opdB num hi hi' && opdB num mx mx'))
  | _=>false
 | .mkifs kl y=>match o.op with
  | .makeInterface t x=>num (1000+kl) == some t && (P.concrete t && opdB num x y)
  | _=>false
 | .mkclo kl y=>match o.op with
  | .makeFunc (.func f) fi ca=>num kl == some f && (fi.isEmpty && argsB num ca.toList [y])
  | _=>false
 | .sortc _ _ _ _ y1 y2=>match o.op with
  | .call c=>match c.callee with
   | .value (.func f)=>num kSort == some f && argsB num c.args.toList [y1,y2]
   | _=>false
  | _=>false
 | .callin k y ys=>match o.op with
  | .call c=>match c.callee with
   | .value (.func f)=>num k == some f && argsB num c.args.toList (y::ys)
   | _=>false
  | _=>false
end
/-! ### That it is sound -/
section
variable {cx:Cx} {nt:Nat} {s:St} {g:Gh} {a:Act} {w:World} {o:Oper} {key:Nat} {out:Out} {cl:Callee}
theorem Zdo(c:Corr cx nt s g a w){x:Operand}{y:Opd}(h:opdB cx.num x y=true):SRel cx.num w cx.R g s.heap s.ep (a.eval x) (y.ev s.slots):=by
 unfold opdB at h
 split at h
 ·rename_i t t'
  rw[<- eq_of_beq h]
  exact c.slots t
 ·exact (Zh7 h _ _ _ _ _ _).2
 ·rename_i f k
  exact .fn k f (by simpa using h)
 ·cases h
theorem Zdp(c:Corr cx nt s g a w){x:Option Operand}{y:Option Opd}(h:optB cx.num x y=true):OptRel a s.slots (SRel cx.num w cx.R g s.heap s.ep) x y:=by
 unfold optB at h
 split at h
 ·trivial
 ·exact Zdo c h
 ·cases h
theorem Zcf(c:Corr cx nt s g a w):∀ {xs:List Operand} {ys:List Opd},argsB cx.num xs ys=true->xs.length=ys.length/\∀ (i:Nat) (x:Operand) (y:Opd),xs[i]?=some x->ys[i]?=some y->SRel cx.num w cx.R g s.heap s.ep (a.eval x) (y.ev s.slots)
 | [],[],_=>⟨rfl,fun i x y h=>by simp at h⟩
 | x::xs,y::ys,h=>by
  simp only[argsB,Xc]at h
  obtain⟨h1,h2⟩:=Zcf c h.2
  refine⟨by simp[h1],fun i x' y' hx hy=>?_⟩
  cases i with
  | zero=>simp only[Xm,Xb]at hx hy;subst hx;subst hy;exact Zdo c h.1
  | succ i=>exact h2 i x' y' (by simpa using hx) (by simpa using hy)
 | [],_::_,h=>by cases h
 | _::_,[],h=>by cases h
theorem Zi3(c:Corr cx nt s g a w){fs:Array Field}:∀ {ps:List (Nat×Operand)} {qs:List (Nat×Nat×Opd)},partsB cx.P cx.num fs ps qs=true ->
  PartsRel cx s g a w (fun i=>(fs[i]?).map fun f=>(f.offset,((cx.P.info? f.type).map (·.size)).getD 0)) (ps.map fun p=>(p.1,a.eval p.2)) qs
 | [],[],_=>.nil
 | (i,x)::ps,(off,n,y)::qs,h=>by
  simp only[partsB,Xc]at h
  obtain⟨h1,h2,h3⟩:=h
  refine .cons i off n _ y _ _ ?_ (Zdo c h2) (Zi3 c h3)
  cases hf:fs[i]? with
  | none=>rw[hf]at h1;cases h1
  | some f =>
   rw[hf]at h1
   simp only[Xc,Xan]at h1
   simp only[Xw,<- h1.1,<- h1.2,szT]
 | [],_::_,h=>by cases h
 | _::_,[],h=>by cases h
theorem Zk2(c:Corr cx nt s g a w):∀ {ps:List (Nat×Operand)} {qs:List (Nat×Opd)},rowsB cx.num ps qs=true->RowParts cx s g a w (ps.map fun p=>(p.1,a.eval p.2)) qs
 | [],[],_=>.nil
 | (i,x)::ps,(j,y)::qs,h=>by
  simp only[rowsB,Xc,Xan]at h
  obtain⟨rfl,h2,h3⟩:=h
  exact .cons i _ y _ _ (Zdo c h2) (Zk2 c h3)
 | [],_::_,h=>by cases h
 | _::_,[],h=>by cases h
section
variable {P:Program}
theorem Zbv{t:TypeId}{f:TypeInfo->Value->Bool}(h:infoB P t f=true):∃ i z,P.info? t=some i/\i.zero=some z/\f i z=true:=by
 unfold infoB at h
 split at h
 ·rename_i i hi
  split at h
  ·rename_i z hz
   exact⟨i,z,hi,hz,h⟩
  ·cases h
 ·cases h
theorem Zau{t:TypeId}{f:TypeInfo->Bool}(h:sizeB P t f=true):∃ i,P.info? t=some i/\f i=true:=by
 unfold sizeB at h
 split at h
 ·rename_i i hi
  exact⟨i,hi,h⟩
 ·cases h
theorem Zaw{t:TypeId}{f:TypeId->Bool}(h:sliceB P t f=true):∃ e,P.underlying t=some (.slice e)/\f e=true:=by
 unfold sliceB at h
 split at h
 ·rename_i e he
  exact⟨e,he,h⟩
 ·cases h
theorem Zb6{t:TypeId}(h:strB P t=true):P.underlying t=some .string:=by
 unfold strB at h
 split at h
 ·assumption
 ·cases h
theorem Zik{t:TypeId}(h:boolB P t=true):P.underlying t=some .bool:=by
 unfold boolB at h
 split at h
 ·assumption
 ·cases h
theorem Znh{t:TypeId}(h:byteB P t=true):P.underlying t=some (.int .u8):=by
 unfold byteB at h
 split at h
 ·assumption
 ·cases h
theorem Zpl{kb:Bool}{k:TypeId}(h:(if kb then boolB P k else strB P k)=true):P.underlying k=some (keyD kb):=by
 cases kb with
 | false=>exact Zb6 h
 | true=>exact Zik h
theorem Zhj{kb:Bool}{t:TypeId}{f:TypeId->Bool}(h:mapB P kb t f=true):∃ k e,P.underlying t=some (.map k e)/\P.underlying k=some (keyD kb)/\f e=true:=by
 unfold mapB at h
 split at h
 ·rename_i k e he
  simp only[Xc]at h
  exact⟨k,e,he,Zpl h.1,h.2⟩
 ·cases h
end
theorem Zk4{x1 x2:Operand}(h:sameOpd x1 x2=true):a.eval x2=a.eval x1:=by
 unfold sameOpd at h
 split at h
 ·rw[eq_of_beq h]
 ·simp only[Xc,Xan]at h
  rw[h.1,h.2]
 ·cases h
theorem Znu(m:Mem cx s.heap s.ep g w){x:Operand}{t t':TypeId}{y:Opd}(ho:o.op=.convert t t' x)(ht:cx.P.underlying t=some .string)(ht':cx.P.underlying t'=some .string)(h1:SRel cx.num w cx.R g s.heap s.ep (a.eval x) (y.ev s.slots))
  (h:sem cl (.sconv y) key s.slots s.heap s.ep=some out):Done cx s g a w o key out:=by
 simp only[sem]at h
 generalize y.ev s.slots=c1 at h h1
 generalize e1:a.eval x=v1 at h1
 cases c1<;>try (cases h;done)
 cases h1
 refine Zai m ?_ (.str _) h
 simp[execOp,ho,e1,convert,run_underlying ht,run_underlying ht']
theorem Zr5{c:Call}{x:Operand}{t:TypeId}{b:Builtin}(h1:c.callee=.builtin b)(h2:c.args.toList=[x])(h3:c.argTypes.toList=[t]):c={ callee:=.builtin b,args:=#[x],argTypes:=#[t] }:=by
 cases c
 simp only at h1 h2 h3
 subst h1
 congr
 ·exact Xcs h2
 ·exact Xcs h3
theorem Zmx{c:Call}{x y:Operand}{t u:TypeId}{b:Builtin}(h1:c.callee=.builtin b)(h2:c.args.toList=[x,y])(h3:c.argTypes.toList=[t,u]):c={ callee:=.builtin b,args:=#[x,y],argTypes:=#[t,u] }:=by
 cases c
 simp only at h1 h2 h3
 subst h1
 congr
 ·exact Xcs h2
 ·exact Xcs h3
def Known(cx:Cx)(cl:Callee):Prop:=∀ (k:Nat) (f:FuncId) (args:List AV) (objs:List AO) (r:AV) (outs:List (Option AO)),cx.num k=some f->cl k args objs=some (r,outs)->Contract cx.P cx.num cx.fz f args objs r outs
theorem Zsj(c:Corr cx nt s g a w)(hkey:∀ id,g.used id->¬ (key<=id/\id<key+64))(hK:Known cx cl){co:COp}(hc:chkOp cx.P cx.num o co=true)(h:sem cl co key s.slots s.heap s.ep=some out):Goes cx s g a w o key out:=by
 have m:=c.mem
 have hk:¬ g.used key:=fun hu=>hkey key hu ⟨Xo _,by omega⟩
 have R:∀ {x:Operand} {y:Opd},opdB cx.num x y=true->SRel cx.num w cx.R g s.heap s.ep (a.eval x) (y.ev s.slots):=fun h=>Zdo c h
 cases co with
 | mov y =>
  simp only[chkOp]at hc
  split at hc
  ·exact (Zm1 m (.inl ‹_›) (R hc) h).goes
  ·exact (Zm1 m (.inr ‹_›) (R hc) h).goes
  ·cases hc
 | sconv y =>
  simp only[chkOp]at hc
  split at hc
  ·simp only[Xc]at hc
   exact (Znu m ‹_› (Zb6 hc.1) (Zb6 hc.2.1) (R hc.2.2) h).goes
  ·cases hc
 | nilck y =>
  simp only[chkOp]at hc
  split at hc
  ·exact (Znt m ‹_› (R hc) h).goes
  ·cases hc
 | pick y1 y2 y3 =>
  simp only[chkOp]at hc
  split at hc
  ·simp only[Xc]at hc
   exact (Zo5 m ‹_› (R hc.1) (R hc.2.1) (R hc.2.2) h).goes
  ·cases hc
 | bin op' y1 y2 =>
  simp only[chkOp]at hc
  split at hc
  ·simp only[Xc,Xj]at hc
   obtain⟨rfl,h1,h2⟩:=hc
   exact (Zqz m ‹_› (R h1) (R h2) h).goes
  ·cases hc
 | beq neg y1 y2 =>
  simp only[chkOp]at hc
  split at hc
  ·simp only[Xc,Xj]at hc
   exact (Zqy m ‹_› hc.1 (Zik hc.2.1) (R hc.2.2.1) (R hc.2.2.2) h).goes
  ·cases hc
 | eqs neg ks y1 y2 =>
  simp only[chkOp]at hc
  split at hc
  ·simp only[Xc,Xj,Xv]at hc
   obtain⟨h1,h2,h3,h4,h5,h6⟩:=hc
   split at h2
   ·exact (Zq1 m ‹_› h1 ‹_› h3 h4 (R h5) (R h6) h).goes
   ·cases h2
  ·cases hc
 | un op' y =>
  simp only[chkOp]at hc
  split at hc
  ·simp only[Xc,Xj]at hc
   obtain⟨rfl,h1⟩:=hc
   exact (Zr8 m ‹_› (R h1) h).goes
  ·cases hc
 | conv k y =>
  simp only[chkOp]at hc
  split at hc
  ·simp only[Xc]at hc
   obtain⟨h1,h2,h3⟩:=hc
   split at h2
   ·simp only[Xj]at h2
    subst h2
    exact (Zo2 m ‹_› h1 ‹_› (R h3) h).goes
   ·cases h2
  ·cases hc
 | toStr y =>
  simp only[chkOp]at hc
  split at hc
  ·simp only[Xc]at hc
   obtain⟨e,h1,h2⟩:=Zaw hc.1
   exact (Znw m ‹_› h1 (Znh h2) (Zb6 hc.2.1) (R hc.2.2) h).goes
  ·cases hc
 | alloc zs =>
  simp only[chkOp]at hc
  split at hc
  ·obtain⟨i,z,h1,h2,h3⟩:=Zbv hc
   exact (Znl m hk ‹_› h1 h2 (Zgh h3 _ _ _ _ _ _) h).goes
  ·cases hc
 | box y =>
  simp only[chkOp]at hc
  split at hc
  ·exact (Zq0 m hk ‹_› (R hc) h).goes
  ·cases hc
 | build zs qs =>
  simp only[chkOp]at hc
  split at hc
  ·simp only[Xc]at hc
   obtain⟨h0,h1⟩:=hc
   obtain⟨i,z,h2,h3,h4⟩:=Zbv h1
   split at h0
   ·simp only[Xc,Xao]at h0
    exact (Znn m ‹_› ‹_› h2 h3 (Zgh h4 _ _ _ _ _ _) (fun f hf=>Option.isSome_iff_exists.1 (h0.1 f hf)) (Zi3 c h0.2) h).goes
   ·cases h0
  ·cases hc
 | bslice sz zs len qs =>
  simp only[chkOp]at hc
  split at hc
  ·obtain⟨e,h1,h2⟩:=Zaw hc
   obtain⟨i,z,h3,h4,h5⟩:=Zbv h2
   simp only[Xc,Xj]at h5
   obtain⟨rfl,h6,h7,rfl,h8,h9⟩:=h5
   exact (Zlp m hk ‹_› h1 h3 h4 h6 h7 h8.1 h8.2 (Zk2 c h9) h).goes
  ·cases hc
 | mksl sz zs bytes y =>
  simp only[chkOp]at hc
  split at hc
  ·obtain⟨e,h1,h2⟩:=Zaw hc
   obtain⟨i,z,h3,h4,h5⟩:=Zbv h2
   simp only[Xc,Xj]at h5
   obtain⟨rfl,h6,h7,⟨rfl,h8⟩,h9,h10⟩:=h5
   exact (Zo4 m hk ‹_› (Zk4 h9) h1 h3 h4 h6 h7 h8 (R h10) h).goes
  ·cases hc
 | load y sz agg hint =>
  cases hint<;>simp only[chkOp]at hc
  ·split at hc
   ·obtain⟨i,h1,h2⟩:=Zau hc
    simp only[Xc,Xj]at h2
    obtain⟨rfl,h3,h4⟩:=h2
    split at h3
    ·simp only[Xc,Xan,Xas]at h3
     obtain⟨rfl,h5⟩:=h3
     exact (Zcj m ‹_› ‹_› h1 (fun hf=>h5.resolve_left (by simp[hf])) (R h4) h).goes
    ·cases h3
   ·cases hc
  ·split at hc
   ·obtain⟨i,h1,h2⟩:=Zau hc
    simp only[Xc,Xj]at h2
    obtain⟨rfl,h3,h4⟩:=h2
    split at h3
    ·simp only[Xc,Xan,Xv]at h3
     obtain⟨rfl,h5,h6⟩:=h3
     exact (Zh9 m hk ‹_› ‹_› h1 h5 h6 (R h4) h).goes
    ·cases h3
   ·cases hc
  ·split at hc
   ·obtain⟨i,h1,h2⟩:=Zau hc
    simp only[Xc,Xj]at h2
    obtain⟨rfl,h3,h4⟩:=h2
    split at h3
    ·simp only[Xc,Xan,Xv]at h3
     obtain⟨rfl,h5,h6⟩:=h3
     exact (Zjj m ‹_› ‹_› h1 h5 h6 (R h4) h).goes
    ·cases h3
   ·cases hc
  ·split at hc
   ·obtain⟨i,h1,h2⟩:=Zau hc
    simp only[Xc,Xj]at h2
    obtain⟨rfl,h3,h4⟩:=h2
    split at h3
    ·simp only[Xc,Xan,Xas]at h3
     obtain⟨rfl,h5⟩:=h3
     exact (Zji m ‹_› ‹_› h1 (fun hf=>h5.resolve_left (by simp[hf])) (R h4) h).goes
    ·cases h3
   ·cases hc
 | store y1 y2 sz =>
  simp only[chkOp]at hc
  split at hc
  ·obtain⟨i,h1,h2⟩:=Zau hc
   simp only[Xc,Xj]at h2
   obtain⟨rfl,h3,h4⟩:=h2
   exact (Znv m ‹_› h1 (R h3) (R h4) h).goes
  ·cases hc
 | faddr y off =>
  simp only[chkOp]at hc
  split at hc
  ·simp only[Xc]at hc
   obtain⟨h0,h1⟩:=hc
   split at h0
   ·split at h0
    ·obtain⟨i,h2,h3⟩:=Zau h0
     simp only[Xc,bne_iff_ne,ne_eq,Xan]at h3
     obtain⟨h4,rfl⟩:=h3
     exact (Zno m ‹_› ‹_› ‹_› h2 h4 (R h1) h).goes
    ·cases h0
   ·cases h0
  ·cases hc
 | iaddr sz y1 y2 =>
  simp only[chkOp]at hc
  split at hc
  ·simp only[Xc]at hc
   obtain⟨e,h1,h2⟩:=Zaw hc.1
   obtain⟨i,h3,h4⟩:=Zau h2
   simp only[Xj]at h4
   subst h4
   exact (Znp m ‹_› h1 h3 (R hc.2.1) (R hc.2.2) h).goes
  ·cases hc
 | sidx y1 y2 =>
  simp only[chkOp]at hc
  split at hc
  ·simp only[Xc]at hc
   exact (Zo6 m ‹_› (Zb6 hc.1) (R hc.2.1) (R hc.2.2) h).goes
  ·cases hc
 | slice sz y lo' hi' =>
  simp only[chkOp]at hc
  split at hc
  ·simp only[Xc]at hc
   obtain⟨e,h1,h2⟩:=Zaw hc.1
   obtain⟨i,h3,h4⟩:=Zau h2
   simp only[Xj]at h4
   subst h4
   exact (Zim m ‹_› h1 h3 (R hc.2.1) (Zdp c hc.2.2.1) (Zdp c hc.2.2.2) h).goes
  ·cases hc
 | sslice y lo' hi' =>
  simp only[chkOp]at hc
  split at hc
  ·simp only[Xc]at hc
   exact (Zls m ‹_› (Zb6 hc.1) (R hc.2.1) (Zdp c hc.2.2.1) (Zdp c hc.2.2.2) h).goes
  ·cases hc
 | len str y =>
  simp only[chkOp]at hc
  split at hc
  ·rename_i c0 ho
   split at hc
   ·rename_i x t h1 h2 h3
    have he:=Zr5 h1 h2 h3
    rw[he]at ho
    simp only[Xc]at hc
    cases str with
    | true=>simp only[Xag]at hc;exact (Zo7 m ho (Zb6 hc.1) (R hc.2) h).goes
    | false =>
     simp only[Xq,Xaj]at hc
     obtain⟨e,h4,_⟩:=Zaw hc.1
     exact (Zq3 m ho h4 (R hc.2) h).goes
   ·cases hc
  ·cases hc
 | append sz bytes flat y1 y2 =>
  simp only[chkOp]at hc
  split at hc
  ·rename_i c0 ho
   split at hc
   ·rename_i x1 x2 t t' h1 h2 h3
    have he:=Zmx h1 h2 h3
    rw[he]at ho
    simp only[Xc,Xj]at hc
    obtain⟨rfl,h4,h5,h6⟩:=hc
    obtain⟨e,h7,h8⟩:=Zaw h4
    obtain⟨i,z,h9,h10,h11⟩:=Zbv h8
    simp only[Xc,Xj]at h11
    obtain⟨rfl,rfl,h12⟩:=h11
    exact (Zlo m hk ho h7 h9 h10 h12 (R h5) (R h6) h).goes
   ·cases hc
  ·cases hc
 | mx hi y1 y2 =>
  simp only[chkOp]at hc
  split at hc
  ·rename_i c0 ho
   split at hc
   ·rename_i b x1 x2 t t' h1 h2 h3
    have he:=Zmx h1 h2 h3
    rw[he]at ho
    simp only[Xc,Xj]at hc
    obtain⟨rfl,h5,h6⟩:=hc
    exact (Zr7 m ho (R h5) (R h6) h).goes
   ·cases hc
  ·cases hc
 | ext y n =>
  simp only[chkOp]at hc
  split at hc
  ·simp only[Xc,Xan]at hc
   obtain⟨rfl,h1⟩:=hc
   exact (Zq2 m ‹_› (R h1) h).goes
  ·cases hc
 | mkmap kb =>
  simp only[chkOp]at hc
  split at hc
  ·exact (Zns m hk ‹_› h).goes
  ·cases hc
 | lookup kb z y1 y2 =>
  simp only[chkOp]at hc
  split at hc
  ·simp only[Xc]at hc
   obtain⟨k,e,h1,h2,h3⟩:=Zhj hc.1
   obtain⟨i,z0,h4,h5,h6⟩:=Zbv h3
   exact (Zlr m ‹_› h1 h2 h4 h5 h6 (R hc.2.1) (R hc.2.2) h).goes
  ·cases hc
 | mapset kb y1 y2 y3 =>
  simp only[chkOp]at hc
  split at hc
  ·simp only[Xc]at hc
   obtain⟨k,e,h1,h2,_⟩:=Zhj hc.1
   exact (Zgy m (.inl ‹_›) h1 h2 (R hc.2.1) (R hc.2.2.1) (R hc.2.2.2) h).goes
  ·simp only[Xc]at hc
   obtain⟨k,e,h1,h2,_⟩:=Zhj hc.1
   exact (Zgy m (.inr ‹_›) h1 h2 (R hc.2.1) (R hc.2.2.1) (R hc.2.2.2) h).goes
  ·cases hc
 | call k modes ys =>
  simp only[chkOp]at hc
  split at hc
  ·rename_i c0 ho
   split at hc
   ·rename_i f hce
    simp only[Xc,Xan]at hc
    obtain⟨h1,h2⟩:=Zcf c hc.2
    exact Zki m hkey ho hce rfl (by simpa using h1) (fun i x y hx hy=>h2 i x y (by simpa using hx) hy) (fun args objs r outs hcl=>hK k f args objs r outs hc.1 hcl) h
   ·cases hc
  ·cases hc
 | callf y modes ys =>
  simp only[chkOp]at hc
  split at hc
  ·rename_i c0 ho
   split at hc
   ·rename_i x hce
    simp only[Xc]at hc
    obtain⟨h1,h2⟩:=Zcf c hc.2
    simp only[sem]at h
    have hr:=R hc.1
    generalize y.ev s.slots=c1 at h hr
    cases c1<;>try (cases h;done)
    rename_i k
    generalize hx:a.eval x=v1 at hr
    cases hr with
    | fn _ f hf=>exact Zki m hkey ho hce hx (by simpa using h1) (fun i x y hx hy=>h2 i x y (by simpa using hx) hy) (fun args objs r outs hcl=>hK k f args objs r outs hf hcl) h
   ·cases hc
  ·cases hc
 | callin k y ys =>
  simp only[chkOp]at hc
  split at hc
  ·rename_i c0 ho
   split at hc
   ·rename_i f hce
    simp only[Xc,Xan]at hc
    obtain⟨h1,h2⟩:=Zcf c hc.2
    exact Zl0 m ho hce rfl (by simpa using h1) (fun i x y hx hy=>h2 i x y (by simpa using hx) hy) (fun args objs r outs hcl=>hK k f args objs r outs hc.1 hcl) h
   ·cases hc
  ·cases hc
 | blank sz y =>
  simp only[chkOp]at hc
  split at hc
  ·obtain⟨i,h1,h2⟩:=Zau hc
   simp only[Xc,Xj]at h2
   obtain⟨rfl,h3,h4⟩:=h2
   split at h3
   ·simp only[Xan]at h3
    exact (Znm m ‹_› ‹_› h1 h3 (R h4) h).goes
   ·cases h3
  ·cases hc
 | soft sz y =>
  simp only[chkOp]at hc
  split at hc
  ·obtain⟨i,h1,h2⟩:=Zau hc
   simp only[Xc,Xj]at h2
   obtain⟨rfl,h3,h4⟩:=h2
   split at h3
   ·simp only[Xan]at h3
    exact (Zo8 m ‹_› ‹_› h1 h3 (R h4) h).goes
   ·cases h3
  ·cases hc
 | fslice sz y lo' =>
  simp only[chkOp]at hc
  split at hc
  ·simp only[Xc]at hc
   obtain⟨e,h1,h2⟩:=Zaw hc.1
   obtain⟨i,h3,h4⟩:=Zau h2
   simp only[Xj]at h4
   subst h4
   exact (Zlq m ‹_› h1 h3 (R hc.2.1) (Zdp c (x:=some _) (y:=some lo') hc.2.2) (Zdp c (x:=none) (y:=none) rfl) h).goes
  ·cases hc
 | cut3 sz y hi' mx' =>
  simp only[chkOp]at hc
  split at hc
  ·simp only[Xc]at hc
   obtain⟨e,h1,h2⟩:=Zaw hc.1
   obtain⟨i,h3,h4⟩:=Zau h2
   simp only[Xj]at h4
   subst h4
   exact (Zo3 m ‹_› h1 h3 (R hc.2.1) (R hc.2.2.1) (R hc.2.2.2) h).goes
  ·cases hc
 | mkifs kl y =>
  simp only[chkOp]at hc
  split at hc
  ·simp only[Xc,Xan]at hc
   exact (Znr m ‹_› hc.2.1 hc.1 (R hc.2.2) h).goes
  ·cases hc
 | mkclo kl y =>
  simp only[chkOp]at hc
  split at hc
  ·rename_i f fi ca ho
   simp only[Xc,Xan]at hc
   obtain⟨h1,h2,h3⟩:=hc
   obtain⟨h4,h5⟩:=Zcf c h3
   have hfi:fi=#[]:=by simpa using h2
   obtain⟨x,hx⟩:∃ x,ca.toList=[x]:=by
    match hcc:ca.toList,h4 with
    | [x],_=>exact⟨x,rfl⟩
   have hca:ca=#[x]:=Xcs hx
   subst hfi;subst hca
   exact (Znq m ho h1 (h5 0 x y rfl rfl) h).goes
  ·cases hc
 | sortc kl of c0 sz y1 y2 =>
  simp only[chkOp]at hc
  split at hc
  ·rename_i c1 ho
   split at hc
   ·rename_i f hce
    simp only[Xc,Xan]at hc
    exact Zn7 m ho hce hc.1 (Zcf c hc.2) h
   ·cases hc
  ·cases hc
end
end Go.Proofs.YtgdfelbedghhnaaGreatDoor
namespace Go.Proofs.YtgdfelbedghhnaaGreatDoor
open Go Go.RowKit
set_option linter.unusedSimpArgs false
/-! ### The check -/
def dstB(nt:Nat):Option Nat->Option Nat->Bool
 | none,none=>true
 | some d,some d'=>d == d' && decide (d<nt)
 | _,_=>false
def guardB(ops:Array Oper)(nt:Nat):Option (Nat×Bool)->Option (Nat×Bool)->Bool
 | none,none=>true
 | some (j,b),some (t,b')=>b == b' && ((ops[j]?).bind (·.dst) == some t && decide (t<nt))
 | _,_=>false
def chkIns(P:Program)(num:Nat->Option FuncId)(nt:Nat)(ops:Array Oper)(o:Oper)(i:CIns):Bool :=
 dstB nt o.dst i.dst && (guardB ops nt o.guard i.guard && chkOp P num o i.op)
def chkOps(P:Program)(num:Nat->Option FuncId)(nt:Nat)(ops:Array Oper):List Oper->List CIns->Bool
 | [],[]=>true
 | o::os,i::is=>chkIns P num nt ops o i && chkOps P num nt ops os is
 | _,_=>false
def bitsOf(deps:List Nat):List Edge->Nat
 | []=>0
 | e::es=>if Region.binds .any e then (2 ^ e.on ||| deps.getD e.on 0) ||| bitsOf deps es else bitsOf deps es
def edgesB(n:Nat):List Edge->Bool
 | []=>true
 | e::es=>(!Region.binds .any e || decide (e.on<n)) && edgesB n es
def chkDeps(deps:List Nat):Nat->List Oper->List Nat->Bool
 | _,[],[]=>true
 | n,o::os,d::ds=>edgesB n o.after.toList && (d == bitsOf deps o.after.toList && chkDeps deps (n+1) os ds)
 | _,_,_=>false
def depsFrom(acc:List Nat):List Oper->List Nat
 | []=>acc
 | o::os=>depsFrom (acc++[bitsOf acc o.after.toList]) os
section
variable {cx:Cx} {nt:Nat} {cl:Callee}
theorem Zfb{P:Program}{num:Nat->Option FuncId}{ops:Array Oper}:∀ {os:List Oper} {is:List CIns},chkOps P num nt ops os is=true->os.length=is.length/\∀ (n:Nat) (i:CIns),is[n]?=some i->∃ o,os[n]?=some o/\chkIns P num nt ops o i=true
 | [],[],_=>⟨rfl,fun n i h=>by simp at h⟩
 | o::os,i::is,h=>by
  simp only[chkOps,Xc]at h
  obtain⟨h1,h2⟩:=Zfb h.2
  refine⟨by simp[h1],fun n j hj=>?_⟩
  cases n with
  | zero=>simp only[Xm,Xb]at hj;subst hj;exact⟨o,rfl,h.1⟩
  | succ n=>obtain⟨o',h3,h4⟩:=h2 n j (by simpa using hj);exact⟨o',by simpa using h3,h4⟩
 | [],_::_,h=>by cases h
 | _::_,[],h=>by cases h
theorem Ze8{deps:List Nat}{k:Nat}:∀ {es:List Edge},(bitsOf deps es).testBit k=true->∃ e∈es,Region.binds .any e=true/\(e.on=k\/(deps.getD e.on 0).testBit k=true)
 | [],h=>by simp[bitsOf]at h
 | e::es,h=>by
  simp only[bitsOf]at h
  split at h
  ·rename_i hb
   simp only[Nat.testBit_or,Xas]at h
   rcases h with (h|h)|h
   ·refine⟨e,Xi,hb,.inl ?_⟩
    rw[Nat.testBit_two_pow]at h
    simpa using h
   ·exact⟨e,Xi,hb,.inr h⟩
   ·obtain⟨e',h1,h2⟩:=Ze8 h
    exact⟨e',Xh _ h1,h2⟩
  ·obtain⟨e',h1,h2⟩:=Ze8 h
   exact⟨e',Xh _ h1,h2⟩
theorem Zin{n:Nat}:∀ {es:List Edge},edgesB n es=true->∀ e∈es,Region.binds .any e=true->e.on<n
 | [],_,e,he,_=>by simp at he
 | e0::es,h,e,he,hb=>by
  simp only[edgesB,Xc,Xas,Xv,Xj]at h
  rcases Xl.1 he with rfl|he
  ·exact h.1.resolve_left (by simp[hb])
  ·exact Zin h.2 e he hb
theorem Zgt{deps:List Nat}:∀ {n:Nat} {os:List Oper} {ds:List Nat},chkDeps deps n os ds=true->∀ (j:Nat) (o:Oper) (d:Nat),os[j]?=some o->ds[j]?=some d->edgesB (n+j) o.after.toList=true/\d=bitsOf deps o.after.toList
 | n,[],[],_,j,o,d,h,_=>by simp at h
 | n,o0::os,d0::ds,h,j,o,d,ho,hd=>by
  simp only[chkDeps,Xc,Xan]at h
  cases j with
  | zero =>
   simp only[Xm,Xb]at ho hd
   subst ho;subst hd
   exact⟨h.1,h.2.1⟩
  | succ j =>
   have:=Zgt h.2.2 j o d (by simpa using ho) (by simpa using hd)
   rw[show n+(j+1)=n+1+j by omega]
   exact this
 | _,[],_::_,h,_,_,_,_,_=>by cases h
 | _,_::_,[],h,_,_,_,_,_=>by cases h
/-! ### One step -/
theorem Zpa{x y:Option Nat}(h:dstB nt x y=true):x=y/\∀ d,y=some d->d<nt:=by
 unfold dstB at h
 split at h
 ·exact⟨rfl,fun d hd=>by cases hd⟩
 ·simp only[Xc,Xan,Xj]at h
  obtain⟨rfl,h2⟩:=h
  exact⟨rfl,fun d hd=>by obtain rfl:=Xf hd;exact h2⟩
 ·cases h
theorem Zqc{ops:Array Oper}{s:St}{g:Gh}{a:Act}{w:World}(c:Corr cx nt s g a w){o:Oper}{gd:Option (Nat×Bool)}(h:guardB ops nt o.guard gd=true){b:Bool}(hg:guardA s.slots gd=some b) :
  Region.wanted o (yielded ops a.tmps)=b:=by
 generalize h0:o.guard=og at h
 unfold guardB at h
 split at h
 ·simp only[guardA,Xb]at hg
  simp only[Region.wanted,h0]
  exact hg
 ·rename_i j b1 t b2
  simp only[Xc,Xan,Xj]at h
  obtain⟨rfl,h1,h2⟩:=h
  have hr:=c.slots t
  have hsz:t<a.tmps.size:=by rw[c.size];exact h2
  have hget:a.tmps[t]?=some (a.tmps.getD t undef):=by
   rw[Xaz,Xz hsz];rfl
  simp only[Region.wanted,h0,yielded,h1,Option.bind_some,hget]
  simp only[guardA]at hg
  generalize s.slots t=c1 at hg hr
  generalize a.tmps.getD t undef=v1 at hr
  cases c1<;>try (cases hg;done)
  ·rename_i x
   simp only[Xb]at hg
   cases hr
   rw[<- hg]
   cases x<;>cases b1<;>rfl
  ·rename_i vs
   cases vs with
   | cons _ _=>cases hg
   | nil =>
    simp only[Xb]at hg
    cases hr
    rw[<- hg]
    cases b1<;>rfl
 ·cases h
theorem Zoy{s:St}{g:Gh}{a:Act}{w:World}(c:Corr cx nt s g a w){dst:Option Nat}(hd:∀ d,dst=some d->d<nt):Corr cx nt (s.after dst (.tup []) [] false) g (a.put dst undef) w:=by
 have:=c.put (nx:=s.next) (bs:=s.base) (Keeps.refl _ _ _ _ _) c.mem dst hd undef (.tup []) (.tup #[] [] rfl (fun i v c hv=>by simp at hv))
 exact this
theorem Zlb{ops:Array Oper}{Q:Exit->Act->World->Prop}{K:Act->World->Prop}{s s1:St}{g:Gh}{a:Act}{w:World}(c:Corr cx nt s g a w)(hK:Known cx cl){n key:Nat}{o:Oper}{i:CIns}{t:Tr}(ho:ops[n]?=some o)
  (hi:chkIns cx.P cx.num nt ops o i=true) (hkey:∀ id,g.used id->¬ (key<=id/\id<key+64)) (h:stepLoud cl i key s=some (s1,t))
  (hn:∀ g' a' w',Corr cx nt s1 g' a' w'->(∀ id,g'.used id->g.used id\/(key<=id/\id<key+64))->K a' w'):wpOp cx.P ops Q n K a w:=by
 simp only[chkIns,Xc]at hi
 obtain⟨hdst,hgd,hop⟩:=hi
 obtain⟨hde,hdl⟩:=Zpa hdst
 unfold wpOp
 simp only[ho]
 unfold stepLoud at h
 cases hg:guardA s.slots i.guard with
 | none=>rw[hg]at h;cases h
 | some b =>
  rw[hg]at h
  have hw:=Zqc c hgd hg
  cases b with
  | false =>
   simp only[Xb,Xk]at h
   obtain⟨rfl,_⟩:=h
   rw[hw]
   simp only[Xq,Xaj]
   rw[hde]
   exact hn g _ w (Zoy c hdl) (fun id hid=>.inl hid)
  | true =>
   simp only at h
   rw[hw]
   simp only[Xag]
   cases hs:sem cl i.op key s.slots s.heap s.ep with
   | none=>rw[hs]at h;cases h
   | some out =>
    rw[hs]at h
    simp only[Xb,Xk]at h
    obtain⟨rfl,_⟩:=h
    refine .inl (Zsj c hkey hK hop hs K Q (fun v w' g' h1 h2 h3 h4=>?_))
    rw[hde]
    exact hn g' _ w' (c.put h1 h2 i.dst hdl v out.v h3) h4
/-! ### One behind the other -/
theorem Zgd{i:CIns}{key:Nat}{s s1:St}(h:stepIns cl i key s=some s1):∃ t,stepLoud cl i key s=some (s1,t):=by
 unfold stepIns at h
 unfold stepLoud
 cases hg:guardA s.slots i.guard with
 | none=>rw[hg]at h;cases h
 | some b =>
  rw[hg]at h
  cases b with
  | false=>simp only[Xb]at h;subst h;exact⟨_,rfl⟩
  | true =>
   simp only at h ⊢
   cases hs:sem cl i.op key s.slots s.heap s.ep with
   | none=>rw[hs]at h;cases h
   | some out =>
    rw[hs]at h
    simp only[Xb]at h
    subst h
    exact⟨_,rfl⟩
theorem Znb(hK:Known cx cl){ops:Array Oper}{Q:Exit->Act->World->Prop}{s':St}{kN:Nat}:∀ {is:List CIns} {n key:Nat} {s:St} {g:Gh} {a:Act} {w:World},runIns cl is key s=some s'->key+64*is.length=kN ->
  (∀ (j:Nat) (i:CIns),is[j]?=some i->∃ o,ops[n+j]?=some o/\chkIns cx.P cx.num nt ops o i=true)->Corr cx nt s g a w->(∀ id,g.used id->id<key) ->
  (∀ g' a' w',Corr cx nt s' g' a' w'->(∀ id,g'.used id->id<kN)->Q .normal a' w')->wpOps cx.P ops Q (List.range' n is.length) a w
 | [],n,key,s,g,a,w,h,hN,_,c,hu,hq=>by
  simp only[runIns,Xb]at h
  subst h
  simp only[Xb7,List.range'_zero,wpOps]
  exact hq g a w c (fun id hid=>by have:=hu id hid;simp at hN;omega)
 | i::is,n,key,s,g,a,w,h,hN,hc,c,hu,hq=>by
  simp only[runIns]at h
  cases h1:stepIns cl i key s with
  | none=>rw[h1]at h;cases h
  | some s1 =>
   rw[h1]at h
   simp only at h
   obtain⟨t,ht⟩:=Zgd h1
   obtain⟨o,ho,hi⟩:=hc 0 i rfl
   rw[Nat.add_zero]at ho
   rw[Xaa,List.range'_succ,wpOps_cons]
   refine Zlb c hK ho hi (fun id hid hr=>by have:=hu id hid;omega) ht (fun g' a' w' c' hu'=>?_)
   exact Znb hK h (by simp at hN;omega) (fun j i' hj=>by
    obtain⟨o',ho',hi'⟩:=hc (j+1) i' (by simpa using hj)
    exact⟨o',by rw[show n+1+j=n+(j+1) by omega];exact ho',hi'⟩) c' (fun id hid=>by
    rcases hu' id hid with h2|h2
    ·have:=hu id h2;omega
    ·omega) hq
/-! ### In any order -/
theorem Zf2:∀ {ops:List CIns} {ts:List Tr} {n:Nat},(items n ops ts).Pairwise (fun x p=>x.1<p.1)
 | [],_,n=>by simp[items]
 | _::_,[],n=>by simp[items]
 | i::is,t::ts,n=>by
  simp only[items,Xad]
  refine⟨fun p hp=>?_,Zf2⟩
  obtain⟨j,h1,_⟩:=Zb1 hp
  show n<p.1
  omega
theorem Zqq(hK:Known cx cl){ops:Array Oper}{Q:Exit->Act->World->Prop}{deps:List Nat}{cops:List CIns}{k0:Nat}{sF:St}(hdl:deps.length=ops.size)
  (hops:∀ (n:Nat) (i:CIns),cops[n]?=some i->∃ o,ops[n]?=some o/\chkIns cx.P cx.num nt ops o i=true) (hcl:cops.length=ops.size)
  (hdep:∀ (j:Nat) (o:Oper) (d:Nat),ops[j]?=some o->deps[j]?=some d->edgesB j o.after.toList=true/\d=bitsOf deps o.after.toList)
  (hq:∀ g' a' w',Corr cx nt sF g' a' w'->(∀ id,g'.used id->id<k0+64*ops.size)->Q .normal a' w') :
  ∀ (fuel:Nat) (rem:List (Nat×CIns×Tr)) (listed:Array Bool) (s:St) (g:Gh) (a:Act) (w:World),rem.length<=fuel->rem.Pairwise (fun x p=>x.1<p.1)->Free deps rem->(∀ p∈rem,cops[p.1]?=some p.2.1)->RunR cl k0 rem s sF ->
   Corr cx nt s g a w->listed.size=ops.size->(∀ n,n<ops.size->(listed.getD n true=false↔∃ p∈rem,p.1=n)) ->
   (∀ j d k,listed.getD j false=true->deps[j]?=some d->d.testBit k=true->listed.getD k false=true)->(∀ id,g.used id->id<k0\/∃ n,n<ops.size/\listed.getD n false=true/\k0+64*n<=id/\id<k0+64*n+64) ->
   wpAny cx.P .any ops Q fuel listed a w:=by
 intro fuel
 induction fuel with
 | zero =>
  intro rem listed s g a w hlen _ _ _ hrun c hsz hl _ hu
  have hrem:rem=[]:=List.length_eq_zero_iff.1 (by omega)
  subst hrem
  obtain rfl:=hrun
  refine⟨?_,hq g a w c ?_⟩
  ·cases hr:Region.ready .any ops listed with
   | nil=>rfl
   | cons x xs =>
    have hx:x∈Region.ready .any ops listed:=by rw[hr];exact Xi
    obtain⟨h1,o,h2,_⟩:=mem_ready.1 hx
    have hlt:=(Xab.1 h2).1
    obtain⟨p,hp,_⟩:=(hl x hlt).1 h1
    simp at hp
  ·intro id hid
   rcases hu id hid with h1|⟨n,h1,_,_,h2⟩
   ·omega
   ·have:(n+1)<=ops.size:=h1
    have:=Xco 64 this
    omega
 | succ fuel ih =>
  intro rem listed s g a w hlen hsort hfree hmem hrun c hsz hl hclosed hu
  have hlistN:∀ n,n<ops.size->(∀ p∈rem,p.1≠n)->listed.getD n false=true:=fun n hn hp=>by
   have h1:¬ (listed.getD n true=false):=fun h=>by
    obtain⟨p,hp1,hp2⟩:=(hl n hn).1 h
    exact hp p hp1 hp2
   have h2:listed[n]?=some (listed[n]'(by omega)):=Xz (by omega)
   simp only[Xaz,h2,Xbb]at h1 ⊢
   simpa using h1
  refine⟨fun hready=>?_,fun i hi=>?_⟩
  ·-- nothing is ready: nothing is left
   have hrem:rem=[]:=by
    cases hrem:rem with
    | nil=>rfl
    | cons p rest =>
     exfalso
     have hp:p∈rem:=by rw[hrem];exact Xi
     obtain⟨o,ho,_⟩:=hops p.1 p.2.1 (hmem p hp)
     have hlt:=(Xab.1 ho).1
     have hd:deps[p.1]?=some (deps[p.1]'(by omega)):=Xd (by omega)
     obtain⟨h1,_⟩:=hdep p.1 o _ ho hd
     have:p.1∈Region.ready .any ops listed:=by
      refine mem_ready.2 ⟨(hl p.1 hlt).2 ⟨p,hp,rfl⟩,o,ho,fun e he hb=>?_⟩
      have hlt2:=Zin h1 e (Array.mem_toList_iff.2 he) hb
      refine hlistN e.on (by omega) (fun q hq e'=>?_)
      rw[hrem]at hq hsort
      rw[Xad]at hsort
      rcases Xl.1 hq with rfl|hq
      ·omega
      ·have:=hsort.1 q hq;omega
     rw[hready]at this
     simp at this
   subst hrem
   obtain rfl:=hrun
   refine hq g a w c (fun id hid=>?_)
   rcases hu id hid with h1|⟨n,h1,_,_,h2⟩
   ·omega
   ·have:(n+1)<=ops.size:=h1
    have:=Xco 64 this
    omega
  ·obtain⟨h1,o,ho,hafter⟩:=mem_ready.1 hi
   have hlt:=(Xab.1 ho).1
   obtain⟨p,hp,hpi⟩:=(hl i hlt).1 h1
   subst hpi
   obtain⟨X,Y,hXY⟩:=List.append_of_mem hp
   subst hXY
   have hd:deps[p.1]?=some (deps[p.1]'(by omega)):=Xd (by omega)
   obtain⟨_,hdb⟩:=hdep p.1 o _ ho hd
   -- the bits of p are listed
   have hbits:∀ k,(deps[p.1]'(by omega)).testBit k=true->listed.getD k false=true:=by
    intro k hk
    rw[hdb]at hk
    obtain⟨e,he,hb,h2⟩:=Ze8 hk
    have hel:=hafter e (Array.mem_toList_iff.1 he) hb
    rcases h2 with rfl|h2
    ·exact hel
    ·cases hde:deps[e.on]? with
     | none=>simp[List.getD,hde]at h2
     | some d'=>exact hclosed e.on d' k hel hde (by simpa [List.getD,hde] using h2)
   have hpw:=Xa5.1 hsort
   have hxl:∀ x∈X,x.1<p.1:=fun x hx=>hpw.2.2 x hx p Xi
   have hyl:∀ y∈Y,p.1<y.1:=fun y hy=>(Xad.1 hpw.2.1).1 y hy
   have hbub:=RunR.bubble hrun (fun x hx=>by
    obtain⟨d,h2,h3⟩:=hfree x (Xg.2 (.inl hx)) p (Xg.2 (.inr Xi)) (hxl x hx)
    rw[hd]at h2
    obtain rfl:=Xf h2
    refine h3.resolve_left (fun hb=>?_)
    have hlx:=hbits x.1 hb
    have hxs:x.1<ops.size:=by have:=hxl x hx;omega
    have hun:=(hl x.1 hxs).2 ⟨x,Xg.2 (.inl hx),rfl⟩
    have h2:listed[x.1]?=some (listed[x.1]'(by omega)):=Xz (by omega)
    simp only[Xaz,h2,Xbb]at hlx hun
    rw[hlx]at hun
    cases hun)
   obtain⟨s1,hstep,hrest⟩:=hbub
   obtain⟨o',ho',hins⟩:=hops p.1 p.2.1 (hmem p hp)
   have hunl:listed.getD p.1 false=false:=by
    have h2:listed[p.1]?=some (listed[p.1]'(by omega)):=Xz (by omega)
    simp only[Xaz,h2,Xbb]at h1 ⊢
    exact h1
   refine Zlb c hK ho' hins (key:=k0+64*p.1) ?_ hstep (fun g' a' w' c' hu'=>?_)
   ·intro id hid hr
    rcases hu id hid with h2|⟨n,h2,h3,h4,h5⟩
    ·omega
    ·have:n≠p.1:=fun e=>by rw[e,hunl]at h3;cases h3
     rcases Xck n p.1 with h6|h6
     ·have:=Xco 64 (show n+1<=p.1 from h6);omega
     ·have:=Xco 64 (show p.1+1<=n by omega);omega
   ·have hgs:∀ j d,(listed.setIfInBounds p.1 true).getD j d=if j=p.1 then true else listed.getD j d:=fun j d=>by
     simp only[Xaz,Array.getElem?_setIfInBounds]
     by_cases hj:p.1=j
     ·subst hj;simp[show p.1<listed.size by omega]
     ·simp[hj,Ne.symm hj]
    refine ih (X++Y) (listed.setIfInBounds p.1 true) s1 g' a' w' (by simp at hlen ⊢;omega) ?_ ?_ ?_ hrest c' (by simpa using hsz) ?_ ?_ ?_
    ·exact Xa5.2 ⟨hpw.1,(Xad.1 hpw.2.1).2,fun x hx y hy=>hpw.2.2 x hx y (Xh _ hy)⟩
    ·intro x hx q hq hlt2
     have up:∀ z,z∈X++Y->z∈X++p::Y:=fun z hz=>by
      rcases Xg.1 hz with hz|hz
      ·exact Xg.2 (.inl hz)
      ·exact Xg.2 (.inr (Xh _ hz))
     exact hfree x (up x hx) q (up q hq) hlt2
    ·intro q hq
     refine hmem q ?_
     rcases Xg.1 hq with hz|hz
     ·exact Xg.2 (.inl hz)
     ·exact Xg.2 (.inr (Xh _ hz))
    ·intro n hn
     rw[hgs]
     by_cases hnp:n=p.1
     ·rw[Xr hnp]
      constructor
      ·intro h;cases h
      ·rintro⟨q,hq,hqn⟩
       rcases Xg.1 hq with hz|hz
       ·have:=hxl q hz;omega
       ·have:=hyl q hz;omega
     ·rw[Xu hnp,hl n hn]
      constructor
      ·rintro⟨q,hq,hqn⟩
       refine⟨q,?_,hqn⟩
       rcases Xg.1 hq with hz|hz
       ·exact Xg.2 (.inl hz)
       ·rcases Xl.1 hz with rfl|hz
        ·exact absurd hqn.symm hnp
        ·exact Xg.2 (.inr hz)
      ·rintro⟨q,hq,hqn⟩
       refine⟨q,?_,hqn⟩
       rcases Xg.1 hq with hz|hz
       ·exact Xg.2 (.inl hz)
       ·exact Xg.2 (.inr (Xh _ hz))
    ·intro j d k hj hdj hk
     rw[hgs]at hj ⊢
     by_cases hkp:k=p.1
     ·rw[Xr hkp]
     ·rw[Xu hkp]
      by_cases hjp:j=p.1
      ·subst hjp
       rw[hd]at hdj
       obtain rfl:=Xf hdj
       exact hbits k hk
      ·rw[Xu hjp]at hj
       exact hclosed j d k hj hdj hk
    ·intro id hid
     rcases hu' id hid with h2|h2
     ·rcases hu id h2 with h3|⟨n,h3,h4,h5⟩
      ·exact .inl h3
      ·refine .inr ⟨n,h3,?_,h5⟩
       rw[hgs];split<;>first|rfl|exact h4
     ·exact .inr ⟨p.1,hlt,by rw[hgs,Xr rfl],h2.1,h2.2⟩
end
end Go.Proofs.YtgdfelbedghhnaaGreatDoor
namespace Go.Proofs.YtgdfelbedghhnaaGreatDoor
open Go Go.RowKit
set_option linter.unusedSimpArgs false
theorem Zcu:∀ (is L:List Nat),L.Nodup->(addNew L is).Nodup/\∃ r,addNew L is=L++r
 | [],L,h=>⟨h,[],by simp[addNew]⟩
 | i::is,L,h=>by
  by_cases hm:i∈L
  ·have he:addNew L (i::is)=addNew L is:=by simp[addNew,Xbl,hm]
   rw[he]
   exact Zcu is L h
  ·have h2:(L++[i]).Nodup:=Xby.2 ⟨h,by simp,fun a ha b hb=>by simp at hb;subst hb;exact fun e=>hm (e ▸ ha)⟩
   obtain⟨h3,r,h4⟩:=Zcu is (L++[i]) h2
   have he:addNew L (i::is)=addNew (L++[i]) is:=by simp[addNew,Xbl,hm]
   rw[he]
   exact⟨h3,i::r,by rw[h4];simp⟩
theorem Zdc(g:Nat->AV):∀ (ts L:List Nat),L.Nodup->(idsOfSlots g ts L).Nodup/\∃ r,idsOfSlots g ts L=L++r
 | [],L,h=>⟨h,[],by simp[idsOfSlots]⟩
 | t::ts,L,h=>by
  obtain⟨h1,r1,e1⟩:=Zcu (g t).ids L h
  obtain⟨h2,r2,e2⟩:=Zdc g ts _ h1
  exact⟨h2,r1++r2,by simp only[idsOfSlots];rw[e2,e1];simp⟩
theorem Zb0(hp:Nat->Option AO):∀ (is L:List Nat),L.Nodup->(idsOfBoxes hp is L).Nodup/\∃ r,idsOfBoxes hp is L=L++r
 | [],L,h=>⟨h,[],by simp[idsOfBoxes]⟩
 | i::is,L,h=>by
  have other:idsOfBoxes hp (i::is) L=idsOfBoxes hp is L->(idsOfBoxes hp (i::is) L).Nodup/\∃ r,idsOfBoxes hp (i::is) L=L++r:=fun e=>by rw[e];exact Zb0 hp is L h
  cases ho:hp i with
  | none=>exact other (by simp[idsOfBoxes,ho])
  | some o =>
   cases o with
   | box cells =>
    obtain⟨h1,r1,e1⟩:=Zcu (cells.flatMap AV.id?) L h
    obtain⟨h2,r2,e2⟩:=Zb0 hp is _ h1
    have e:idsOfBoxes hp (i::is) L=idsOfBoxes hp is (addNew L (cells.flatMap AV.id?)):=by simp[idsOfBoxes,ho]
    rw[e]
    exact⟨h2,r1++r2,by rw[e2,e1];simp⟩
   | arr sz xs=>exact other (by simp[idsOfBoxes,ho])
   | map kb kvs=>exact other (by simp[idsOfBoxes,ho])
theorem Zfn(h:Nat->Option AO)(L:List Nat):∀ (is:List Nat) (n k:Nat),rnHeap h L is n k=if n<=k then (is[k-n]?).bind fun i=>(h i).map (rnO L) else none
 | [],n,k=>by simp[rnHeap]
 | i::is,n,k=>by
  simp only[rnHeap,upd]
  by_cases hk:k=n
  ·subst hk;simp
  ·rw[Xu hk,Zfn h L is (n+1) k]
   by_cases h2:n<=k
   ·rw[Xr (by omega),Xr h2,show k-n=(k-(n+1))+1 by omega];simp
   ·rw[Xu (by omega),Xu h2]
theorem Zhq(g:Nat->AV)(L:List Nat):∀ (ts:List Nat) (k:Nat),rnSlots g L ts k=if k∈ts then rnV L (g k) else .any
 | [],k=>by simp[rnSlots]
 | t::ts,k=>by
  simp only[rnSlots,upd,Xl]
  by_cases hk:k=t
  ·subst hk;simp
  ·rw[Xu hk,Zhq g L ts k];simp[hk]
theorem Zek(g:Nat->AV):∀ (ts:List Nat) (k:Nat),keepSlots g ts k=if k∈ts then g k else .any
 | [],k=>by simp[keepSlots]
 | t::ts,k=>by
  simp only[keepSlots,upd,Xl]
  by_cases hk:k=t
  ·subst hk;simp
  ·rw[Xu hk,Zek g ts k];simp[hk]
def normGh(g:Gh)(L:List Nat):Gh:=⟨fun i=>g.v (L.getD i 0),fun i=>g.fp (L.getD i 0),g.I,g.N,fun i=>i<L.length⟩
theorem Zei{L:List Nat}{id:Nat}(h:L.contains id=true):L.idxOf id<L.length/\L[L.idxOf id]?=some id/\L.getD (L.idxOf id) 0=id:=by
 have hm:id∈L:=by simpa using h
 have hlt:L.idxOf id<L.length:=List.idxOf_lt_length_iff.2 hm
 have hg:L[L.idxOf id]?=some id:=by rw[Xd hlt,List.getElem_idxOf hlt]
 exact⟨hlt,hg,by simp[List.getD,hg]⟩
section
variable {num:Nat->Option FuncId} {w:World} {R:Nat->Prop} {g:Gh} {h:Nat->Option AO} {ep:Nat} {L:List Nat}
def AV.flat:AV->Bool
 | .agg _=>false
 | .tup _=>false
 | _=>true
theorem Zpz(o:AO):o.alike (rnO L o):=by cases o<;>simp[rnO,AO.alike]
theorem Zmc{u:Value}{c:AV}(hr:SRel num w R g h ep u c)(hf:c.flat=true):SRel num w R (normGh g L) (rnHeap h L L 0) 0 u (rn1 L c):=by
 have look:∀ id,L.contains id=true->∀ o',rnHeap h L L 0 (L.idxOf id)=some o'->∃ o,h id=some o/\o'=rnO L o/\(normGh g L).v (L.idxOf id)=g.v id:=by
  intro id hc o' ho
  obtain⟨_,h2,h3⟩:=Zei hc
  rw[Zfn,Xr (Xp _),Xcx,h2,Option.bind_some]at ho
  cases hh:h id with
  | none=>rw[hh]at ho;cases ho
  | some o=>rw[hh]at ho;exact⟨o,rfl,(Xf ho).symm,by simp only[normGh,h3]⟩
 cases hr with
 | any v=>exact .any _
 | bool b=>exact .bool _
 | int k n=>exact .int _ _
 | str s=>exact .str _
 | nil sz=>exact .nil _
 | sl v m sz xs h1 hm hlim hown =>
  cases m with
  | own=>exact absurd rfl hown
  | imm=>exact .sl _ _ _ _ h1 (fun _=>hm rfl) (fun e he=>by cases he) (by simp)
  | bor=>exact .sl _ _ _ _ h1 (fun _=>hm rfl) (fun e he=>by cases he) (by simp)
  | snap e=>exact .any _
 | ref id v h1 hu hv =>
  simp only[rn1]
  split
  ·rename_i hc
   refine .ref _ _ h1 (Zei hc).1 (fun o' ho=>?_)
   obtain⟨o,h2,_,h3⟩:=look id hc o' ho
   rw[h3];exact hv o h2
  ·exact .any _
 | view id lo len v h1 hu hv =>
  simp only[rn1]
  split
  ·rename_i hc
   refine .view _ _ _ _ h1 (Zei hc).1 (fun sz xs ho=>?_)
   obtain⟨o,h2,h4,h3⟩:=look id hc _ ho
   rw[h3]
   cases o<;>simp only[rnO,reduceCtorEq]at h4
   cases h4
   exact hv _ _ h2
  ·exact .any _
 | ptr id i off v h1 hu hv =>
  simp only[rn1]
  split
  ·rename_i hc
   refine .ptr _ _ _ _ h1 (Zei hc).1 (fun o' ho=>?_)
   obtain⟨o,h2,h4,h3⟩:=look id hc _ ho
   rw[h3]
   have hp:=hv o h2
   subst h4
   cases o<;>exact hp
  ·exact .any _
 | bptr m row off v h1 hlim hm =>
  cases m with
  | own=>exact .bptr _ _ _ _ h1 (fun e he=>by cases he) (fun hok=>by simp[Md.ok]at hok)
  | imm=>exact .bptr _ _ _ _ h1 (fun e he=>by cases he) (fun _=>hm rfl)
  | bor=>exact .bptr _ _ _ _ h1 (fun e he=>by cases he) (fun _=>hm rfl)
  | snap e=>exact .any _
 | mapr id v h1 hu hv =>
  simp only[rn1]
  split
  ·rename_i hc
   refine .mapr _ _ h1 (Zei hc).1 (fun o' ho=>?_)
   obtain⟨o,h2,_,h3⟩:=look id hc o' ho
   rw[h3];exact hv o h2
  ·exact .any _
 | fn k f hk=>exact .fn k f hk
 | inn e id i off v h1 hu hle hv=>exact .any _
 | inp e id i off j sz v h1 hu hle hv=>exact .any _
 | ifs=>exact .any _
 | clo=>exact .any _
 | cut=>exact .any _
 | agg vs cs hl h1 hc=>simp[AV.flat]at hf
 | tup vs cs hl hc=>simp[AV.flat]at hf
theorem SRel.flat_of{u:Value}{c:AV}(hr:SRel num w R g h ep u c)(h1:u.oneCell'=true):c.flat=true:=by
 cases hr with
 | agg=>simp[Value.oneCell']at h1
 | tup=>simp[Value.oneCell']at h1
 | _=>rfl
theorem Zsl{u:Value}{c:AV}(hr:SRel num w R g h ep u c):SRel num w R (normGh g L) (rnHeap h L L 0) 0 u (rnV L c):=by
 by_cases hf:c.flat=true
 ·have e:rnV L c=rn1 L c:=by cases c<;>first|rfl|simp[AV.flat]at hf
  rw[e]
  exact Zmc hr hf
 ·cases hr with
  | agg vs cs hl h1 hc =>
   refine .agg _ _ (by simpa using hl) h1 (fun i v d hv hd=>?_)
   rw[Xam]at hd
   cases hci:cs[i]? with
   | none=>rw[hci]at hd;cases hd
   | some c0 =>
    rw[hci]at hd
    simp only[Xw,Xb]at hd
    subst hd
    have h2:=hc i v c0 hv hci
    exact Zmc h2 (h2.flat_of (h1 i v hv))
  | tup vs cs hl hc =>
   simp only[rnV]
   split
   ·rename_i he
    have hcs:cs=[]:=by simpa using he
    subst hcs
    have hvs:vs=#[]:=by
     have:vs.size=0:=by simpa using hl
     exact Array.eq_empty_of_size_eq_zero this
    subst hvs
    exact .tup #[] [] rfl (fun i v c hv=>by simp at hv)
   ·exact .any _
  | _=>simp[AV.flat]at hf
end
section
variable {cx:Cx} {nt:Nat}
theorem Zrg{h:Nat->Option AO}{ep:Nat}{g:Gh}{w:World}{L:List Nat}(m:Mem cx h ep g w)(hnd:L.Nodup)(hpre:∃ r,L=List.range cx.base++r):Mem cx (rnHeap h L L 0) 0 (normGh g L) w:=by
 have look:∀ k o',rnHeap h L L 0 k=some o'->∃ i o,L[k]?=some i/\L.getD k 0=i/\h i=some o/\o'=rnO L o:=by
  intro k o' ho
  rw[Zfn,Xr (Xp _),Xcx]at ho
  cases hk:L[k]? with
  | none=>rw[hk]at ho;cases ho
  | some i =>
   rw[hk,Option.bind_some]at ho
   cases hh:h i with
   | none=>rw[hh]at ho;cases ho
   | some o=>rw[hh]at ho;exact⟨i,o,rfl,by simp[List.getD,hk],hh,(Xf ho).symm⟩
 obtain⟨r,hr⟩:=hpre
 have hbase:∀ k,k<cx.base->L[k]?=some k/\L.getD k 0=k/\k<L.length:=fun k hk=>by
  have h1:L[k]?=some k:=by rw[hr,Xay (by simpa using hk)];simp[hk]
  exact⟨h1,by simp[List.getD,h1],(Xa.1 h1).1⟩
 refine⟨?_,?_,?_,?_,m.I_lt,m.I_up,m.I_new,m.I_N,m.N_up,m.N_new,fun k hk=>(hbase k hk).2.2,?_,m.N_lt,m.R_old,m.I_old,m.frame,m.fz,m.srt⟩
 ·intro k o' ho
  obtain⟨i,o,h1,h2,h3,rfl⟩:=look k o' ho
  have hm:=m.objs i o h3
  simp only[normGh,h2]
  cases o with
  | arr sz xs=>exact hm
  | box cells =>
   obtain⟨b,cur,e,h4,h5,h6,h7,h8,h9⟩:=hm
   refine⟨b,cur,e,h4,h5,by simpa using h6,h7,h8,fun j u c hu hc=>?_⟩
   rw[Xam]at hc
   cases hcj:cells[j]? with
   | none=>rw[hcj]at hc;cases hc
   | some c0 =>
    rw[hcj]at hc
    simp only[Xw,Xb]at hc
    subst hc
    obtain⟨h10,h11⟩:=h9 j u c0 hu hcj
    exact⟨h10,Zmc h11 (h11.flat_of h10)⟩
  | map kb kvs =>
   obtain⟨b,es,cl,l,h4,h5,h6,h7,hkl,h8,h9⟩:=hm
   refine⟨b,es,cl,l,h4,h5,h6,h7,hkl,h8,fun j e k c he hc=>?_⟩
   obtain⟨h10,h13,h11,h12⟩:=h9 j e k c he hc
   refine⟨h10,h13,h11,?_⟩
   generalize e.val=u at h12
   cases h12 with
   | bool=>exact .bool _
   | int=>exact .int _ _
   | str=>exact .str _
   | _=>simp[AV.plain]at h11
 ·intro k o' ho
  obtain⟨i,o,h1,_⟩:=look k o' ho
  exact (Xa.1 h1).1
 ·intro k k' o o' b ho ho' hf hf'
  obtain⟨i,o1,h1,h2,h3,_⟩:=look k o ho
  obtain⟨i',o1',h1',h2',h3',_⟩:=look k' o' ho'
  simp only[normGh,h2,h2']at hf hf'
  have:=m.disj i i' o1 o1' b h3 h3' hf hf'
  subst this
  exact Zhm hnd h1 h1'
 ·intro k o b ho hf
  obtain⟨i,o1,h1,h2,h3,_⟩:=look k o ho
  simp only[normGh,h2]at hf
  exact m.mine i o1 b h3 hf
 ·intro k o' hk ho
  obtain⟨i,o,h1,h2,h3,rfl⟩:=look k o' ho
  obtain⟨h4,h5,_⟩:=hbase k hk
  rw[h4]at h1
  obtain rfl:=Xf h1
  obtain⟨o0,h6,h7,h8⟩:=m.given k o hk h3
  exact⟨o0,h6,h7.trans (Zpz o),by simp only[normGh,h5];exact h8⟩
theorem Zpt{s:St}{g:Gh}{a:Act}{w:World}(c:Corr cx nt s g a w)(hb:s.base=cx.base)(keep:List Nat) :
  ∃ g',Corr cx nt (s.norm keep) g' a w/\(∀ id,g'.used id->id<(s.norm keep).next)/\(s.norm keep).base=cx.base:=by
 obtain⟨h1,r1,e1⟩:=Zdc s.slots keep (List.range s.base) List.nodup_range
 obtain⟨h2,r2,e2⟩:=Zb0 s.heap (idsOfSlots s.slots keep (List.range s.base)) _ h1
 generalize hL:idsOfBoxes s.heap (idsOfSlots s.slots keep (List.range s.base)) (idsOfSlots s.slots keep (List.range s.base))=L at h2 e2
 have hn:s.norm keep=⟨rnSlots s.slots L keep,rnHeap s.heap L L 0,0,L.length,s.base⟩:=by simp only[St.norm,hL]
 refine⟨normGh g L,?_,?_,by rw[hn];exact hb⟩
 ·rw[hn]
  refine⟨c.size,c.defers,fun t=>?_,Zrg c.mem h2 ⟨r1++r2,by rw[e2,e1,hb];simp⟩⟩
  simp only[Zhq]
  split
  ·exact Zsl (c.slots t)
  ·exact .any _
 ·rw[hn]
  exact fun id hid=>hid
theorem Zg2{s:St}{g:Gh}{a:Act}{w:World}(c:Corr cx nt s g a w)(keep:List Nat)(n:Nat):Corr cx nt (s.forget keep n) g a w:=by
 refine⟨c.size,c.defers,fun t=>?_,c.mem⟩
 simp only[St.forget,Zek]
 split
 ·exact c.slots t
 ·exact .any _
theorem Znx{s:St}{g:Gh}{a:Act}{w:World}(c:Corr cx nt s g a w):Corr cx nt s g a { w with drawn:=w.drawn+1 }:=by
 have t:Touch cx (fun _=>False) s.heap s.ep g w s.heap s.ep g { w with drawn:=w.drawn+1 } :=
  ⟨rfl,rfl,rfl,Xo _,Xo _,fun _ _=>⟨rfl,fun _=>⟨rfl,rfl⟩⟩,fun _ _ _=>rfl,fun _ h=>h,fun _ _ h=>h.elim,fun _ _ h=>h.elim,fun _ _ _ h=>h.elim,fun _ _ _ _ _ h=>h.elim,fun _ h=>h,fun _ h=>.inl h,c.mem.I_N,fun _ h=>h,fun _ h=>.inl h,fun _ _ _=>rfl⟩
 exact⟨c.size,c.defers,fun k=>(c.slots k).mono (t.keeps c.mem),t.mem c.mem (fun _ _ h=>h.elim)⟩
end
end Go.Proofs.YtgdfelbedghhnaaGreatDoor
namespace Go.Proofs.YtgdfelbedghhnaaGreatDoor
open Go Go.RowKit
set_option linter.unusedSimpArgs false
def chkCode(P:Program)(num:Nat->Option FuncId)(nt:Nat):CCode->Code->Bool
 | .skip,.skip=>true
 | .region cops _,.region _ ops false=>chkOps P num nt ops ops.toList cops
 | .quiet cops _,.region _ ops true=>chkOps P num nt ops ops.toList cops && (chkDeps (depsFrom [] ops.toList) 0 ops.toList (depsFrom [] ops.toList) && slotsClear 0 cops (depsFrom [] ops.toList))
 | .loud cops deps _,.region _ ops true=>chkOps P num nt ops ops.toList cops && (chkDeps deps 0 ops.toList deps && slotsClear 0 cops deps)
 | .seq a b,.seq x y=>chkCode P num nt a x && chkCode P num nt b y
 | .cond y a b,.cond x c d=>opdB num x y && (chkCode P num nt a c && chkCode P num nt b d)
 | .block id b,.block id' c=>id == id' && chkCode P num nt b c
 | .loop _ b,.loop c=>chkCode P num nt b c
 | .exit id,.exit id'=>id == id'
 | .ret,.ret=>true
 | _,_=>false
def AExit.ex:AExit->Exit
 | .normal=>.normal
 | .exit id=>.exit id
 | .ret=>.ret
def Good(cx:Cx)(nt:Nat)(s:St)(a:Act)(w:World):Prop:=∃ g,Corr cx nt s g a w/\(∀ id,g.used id->id<s.next)/\s.base=cx.base
section
variable {cx:Cx} {nt:Nat} {cl:Callee}
theorem Zhs:∀ {is:List CIns} {key:Nat} {s s':St},runIns cl is key s=some s'->s'.base=s.base
 | [],key,s,s',h=>by simp only[runIns,Xb]at h;rw[h]
 | i::is,key,s,s',h=>by
  simp only[runIns]at h
  cases h1:stepIns cl i key s with
  | none=>rw[h1]at h;cases h
  | some s1 =>
   rw[h1]at h
   rw[Zhs h]
   obtain⟨t,ht⟩:=Zgd h1
   obtain⟨v,ws,b,rfl,_⟩:=Zds ht
   rfl
theorem Zf9:∀ {is:List CIns} {key:Nat} {s s':St} {ts:List Tr},runLoud cl is key s=some (s',ts)->s'.base=s.base
 | [],key,s,s',ts,h=>by simp only[runLoud,Xb,Xk]at h;rw[h.1]
 | i::is,key,s,s',ts,h=>by
  simp only[runLoud]at h
  cases h1:stepLoud cl i key s with
  | none=>rw[h1]at h;cases h
  | some p =>
   obtain⟨s1,t⟩:=p
   rw[h1]at h
   simp only at h
   cases h2:runLoud cl is (key+64) s1 with
   | none=>rw[h2]at h;cases h
   | some q =>
    obtain⟨s2,ts'⟩:=q
    rw[h2]at h
    simp only[Xb,Xk]at h
    rw[<- h.1,Zf9 h2]
    obtain⟨v,ws,b,rfl,_⟩:=Zds h1
    rfl
theorem Zgu{deps:List Nat}:∀ {n:Nat} {os:List Oper} {ds:List Nat},chkDeps deps n os ds=true->ds.length=os.length
 | n,[],[],_=>rfl
 | n,o::os,d::ds,h=>by
  simp only[chkDeps,Xc]at h
  simp[Zgu h.2.2]
 | _,[],_::_,h=>by cases h
 | _,_::_,[],h=>by cases h
theorem Zkb(hm:cx.P.follows .mixedOrders=true)(hK:Known cx cl){id:Nat}{ops:Array Oper}{cops:List CIns}{deps:List Nat}{s s':St}{ts:List Tr}{a:Act}{w:World}{Q:Exit->Act->World->Prop}(hc:chkOps cx.P cx.num nt ops ops.toList cops=true)
  (hd:chkDeps deps 0 ops.toList deps=true) (hfree:Free deps (items 0 cops ts)) (hrun:runLoud cl cops s.next s=some (s',ts)) (hg:Good cx nt s a w) (keep:List Nat)
  (hq:∀ a' w',Good cx nt (s'.forget keep (s.next+64*cops.length)) a' w'->Q .normal a' w'):(Code.region id ops true).wp cx.P Q a w:=by
 obtain⟨g,c,hu,hb⟩:=hg
 obtain⟨hl,hops⟩:=Zfb hc
 rw[Xau]at hl
 obtain⟨htl,hR⟩:=Zer (k0:=s.next) (n:=0) (by rw[Nat.mul_zero,Nat.add_zero];exact hrun)
 have hdl:=Zgu hd
 rw[Xau]at hdl
 refine wp_region_any hm (Zqq hK (deps:=deps) (cops:=cops) (k0:=s.next) (sF:=s') hdl (fun n i hi=>?_) hl.symm (fun j o d ho hdj=>?_) (fun g' a' w' c' hu'=>hq a' w' ⟨g',Zg2 c' keep _,fun id hid=>?_,?_⟩)
  ops.size (items 0 cops ts) (Array.replicate ops.size false) s g a _ ?_ Zf2 hfree (fun p hp=>?_) hR (Znx c) (by simp) (fun n hn=>?_) (fun j d k hj=>?_) (fun id hid=>.inl (hu id hid)))
 ·obtain⟨o,h1,h2⟩:=hops n i hi
  exact⟨o,by simpa using h1,h2⟩
 ·have:=Zgt hd j o d (by simpa using ho) hdj
  rwa [Xbe]at this
 ·show id<s.next+64*cops.length
  rw[<- hl];exact hu' id hid
 ·show s'.base=cx.base
  rw[Zf9 hrun];exact hb
 ·have h1:=Xct List.length (Zfk (n:=0) htl)
  simp only[Xb1,List.length_range']at h1
  omega
 ·obtain⟨j,h1,h2,_⟩:=Zb1 hp
  rw[h1,Xbe];exact h2
 ·have h1:(Array.replicate ops.size false).getD n true=false:=by simp[hn]
  refine⟨fun _=>?_,fun _=>h1⟩
  have h2:=Zfk (n:=0) htl
  have h3:n∈(items 0 cops ts).map (·.1):=by rw[h2,List.mem_range'_1];omega
  obtain⟨p,hp,hpn⟩:=Xap.1 h3
  exact⟨p,hp,hpn⟩
 ·have h1:(Array.replicate ops.size false).getD j false=false:=by
   by_cases h:j<ops.size<;>simp[h]
  rw[h1]at hj
  cases hj
theorem Zhr{c:Code}{Q:Exit->Act->World->Prop}{f:St->Option (AExit×St)}{keep:List Nat}{ex:AExit}{s':St}
  (hbody:∀ s ex' s1 a w (Q':Exit->Act->World->Prop),f s=some (ex',s1)->Good cx nt s a w->(∀ a' w',Good cx nt s1 a' w'->Q' ex'.ex a' w')->c.wp cx.P Q' a w)
  (hq:∀ a' w',Good cx nt s' a' w'->Q ex.ex a' w'):∀ (n:Nat) (s:St) (a:Act) (w:World),rounds f keep n s=some (ex,s')->Good cx nt s a w->Code.rounds cx.P c Q n a w
 | 0,s,a,w,h,_=>by simp[rounds]at h
 | n+1,s,a,w,h,hg=>by
  obtain⟨g,hc,_,hb⟩:=hg
  obtain⟨g',hc',hu',hb'⟩:=Zpt hc hb keep
  have hgn:Good cx nt (s.norm keep) a w:=⟨g',hc',hu',hb'⟩
  simp only[rounds]at h
  rw[rounds_succ]
  cases hf:f (s.norm keep) with
  | none=>rw[hf]at h;cases h
  | some p =>
   obtain⟨ex',s1⟩:=p
   rw[hf]at h
   refine hbody (s.norm keep) ex' s1 a w _ hf hgn (fun a' w' hg1=>?_)
   cases ex' with
   | normal=>exact Zhr hbody hq n s1 a' w' h hg1
   | exit id =>
    simp only[Xb,Xk]at h
    obtain⟨rfl,rfl⟩:=h
    exact hq a' w' hg1
   | ret =>
    simp only[Xb,Xk]at h
    obtain⟨rfl,rfl⟩:=h
    exact hq a' w' hg1
theorem Zbx(hm:cx.P.follows .mixedOrders=true)(hK:Known cx cl):∀ (cc:CCode) (c:Code),chkCode cx.P cx.num nt cc c=true->∀ (s:St) (ex:AExit) (s':St) (a:Act) (w:World) (Q:Exit->Act->World->Prop),runCode cl cc s=some (ex,s')->Good cx nt s a w ->
  (∀ a' w',Good cx nt s' a' w'->Q ex.ex a' w')->c.wp cx.P Q a w
 | .skip,c,hc,s,ex,s',a,w,Q,h,hg,hq=>by
  cases c<;>simp only[chkCode,Xq]at hc
  simp only[runCode,Xb,Xk]at h
  obtain⟨rfl,rfl⟩:=h
  exact wp_skip (hq a w hg)
 | .ret,c,hc,s,ex,s',a,w,Q,h,hg,hq=>by
  cases c<;>simp only[chkCode,Xq]at hc
  simp only[runCode,Xb,Xk]at h
  obtain⟨rfl,rfl⟩:=h
  exact wp_ret (hq a w hg)
 | .exit id,c,hc,s,ex,s',a,w,Q,h,hg,hq=>by
  cases c<;>simp only[chkCode,Xq,Xan]at hc
  subst hc
  simp only[runCode,Xb,Xk]at h
  obtain⟨rfl,rfl⟩:=h
  exact wp_exit (hq a w hg)
 | .region cops keep,c,hc,s,ex,s',a,w,Q,h,hg,hq=>by
  cases c<;>try (simp only[chkCode,Xq]at hc;done)
  rename_i id ops draw
  cases draw<;>simp only[chkCode,Xq]at hc
  simp only[runCode]at h
  cases h1:runIns cl cops s.next s with
  | none=>rw[h1]at h;cases h
  | some s1 =>
   rw[h1]at h
   simp only[Xb,Xk]at h
   obtain⟨rfl,rfl⟩:=h
   obtain⟨g,hcr,hu,hb⟩:=hg
   obtain⟨hl,hops⟩:=Zfb hc
   rw[Xau]at hl
   refine wp_region ?_
   rw[List.range_eq_range',hl]
   refine Znb hK h1 rfl (fun j i hj=>?_) hcr hu (fun g' a' w' c' hu'=>hq a' w' ⟨g',Zg2 c' keep _,hu',?_⟩)
   ·obtain⟨o,h2,h3⟩:=hops j i hj
    exact⟨o,by simpa using h2,h3⟩
   ·show s1.base=cx.base
    rw[Zhs h1];exact hb
 | .quiet cops keep,c,hc,s,ex,s',a,w,Q,h,hg,hq=>by
  cases c<;>try (simp only[chkCode,Xq]at hc;done)
  rename_i id ops draw
  cases draw<;>simp only[chkCode,Xq,Xc]at hc
  simp only[runCode]at h
  cases h1:runQuiet cl cops s.next s with
  | none=>rw[h1]at h;cases h
  | some s1 =>
   rw[h1]at h
   simp only[Xb,Xk]at h
   obtain⟨rfl,rfl⟩:=h
   obtain⟨ts,h2,h3⟩:=Zes h1
   exact Zkb hm hK hc.1 hc.2.1 (Zn4 h3 hc.2.2) h2 hg keep hq
 | .loud cops deps keep,c,hc,s,ex,s',a,w,Q,h,hg,hq=>by
  cases c<;>try (simp only[chkCode,Xq]at hc;done)
  rename_i id ops draw
  cases draw<;>simp only[chkCode,Xq,Xc]at hc
  simp only[runCode]at h
  cases h1:runLoud cl cops s.next s with
  | none=>rw[h1]at h;cases h
  | some p =>
   obtain⟨s1,ts⟩:=p
   rw[h1]at h
   simp only at h
   split at h
   case isFalse=>cases h
   rename_i hclear
   simp only[Xb,Xk]at h
   obtain⟨rfl,rfl⟩:=h
   exact Zkb hm hK hc.1 hc.2.1 (Zn3 hclear hc.2.2) h1 hg keep hq
 | .seq x y,c,hc,s,ex,s',a,w,Q,h,hg,hq=>by
  cases c<;>simp only[chkCode,Xq,Xc]at hc
  simp only[runCode]at h
  cases h1:runCode cl x s with
  | none=>rw[h1]at h;cases h
  | some p =>
   obtain⟨ex1,s1⟩:=p
   rw[h1]at h
   refine wp_seq (Zbx hm hK x _ hc.1 s ex1 s1 a w _ h1 hg (fun a' w' hg'=>?_))
   cases ex1 with
   | normal=>exact Zbx hm hK y _ hc.2 s1 ex s' a' w' Q h hg' hq
   | exit id =>
    simp only[Xb,Xk]at h
    obtain⟨rfl,rfl⟩:=h
    exact hq a' w' hg'
   | ret =>
    simp only[Xb,Xk]at h
    obtain⟨rfl,rfl⟩:=h
    exact hq a' w' hg'
 | .cond y x z,c,hc,s,ex,s',a,w,Q,h,hg,hq=>by
  cases c<;>simp only[chkCode,Xq,Xc]at hc
  simp only[runCode]at h
  obtain⟨g,hcr,hu,hb⟩:=hg
  have hr:=Zdo hcr hc.1
  generalize y.ev s.slots=c1 at h hr
  rename_i xo _ _
  generalize hx:a.eval xo=v1 at hr
  cases c1<;>try (cases h;done)
  rename_i t
  cases hr
  cases t with
  | true=>exact wp_cond_true hx (Zbx hm hK x _ hc.2.1 s ex s' a w Q h ⟨g,hcr,hu,hb⟩ hq)
  | false=>exact wp_cond_false hx (Zbx hm hK z _ hc.2.2 s ex s' a w Q h ⟨g,hcr,hu,hb⟩ hq)
 | .block id x,c,hc,s,ex,s',a,w,Q,h,hg,hq=>by
  cases c<;>simp only[chkCode,Xq,Xc,Xan]at hc
  obtain⟨rfl,hc⟩:=hc
  simp only[runCode]at h
  cases h1:runCode cl x s with
  | none=>rw[h1]at h;cases h
  | some p =>
   obtain⟨ex1,s1⟩:=p
   rw[h1]at h
   refine wp_block (Zbx hm hK x _ hc s ex1 s1 a w _ h1 hg (fun a' w' hg'=>?_))
   cases ex1 with
   | normal =>
    simp only[Xb,Xk]at h
    obtain⟨rfl,rfl⟩:=h
    exact hq a' w' hg'
   | exit i =>
    simp only at h
    simp only[AExit.ex,Exit.inBlock]
    split at h
    ·simp only[Xb,Xk]at h
     obtain⟨rfl,rfl⟩:=h
     rw[Xr ‹_›]
     exact hq a' w' hg'
    ·simp only[Xb,Xk]at h
     obtain⟨rfl,rfl⟩:=h
     rw[Xu ‹_›]
     exact hq a' w' hg'
   | ret =>
    simp only[Xb,Xk]at h
    obtain⟨rfl,rfl⟩:=h
    exact hq a' w' hg'
 | .loop keep x,c,hc,s,ex,s',a,w,Q,h,hg,hq=>by
  cases c<;>simp only[chkCode,Xq]at hc
  simp only[runCode]at h
  exact wp_loop_rounds big (Zhr (fun s ex' s1 a w Q' hf hg' hq'=>Zbx hm hK x _ hc s ex' s1 a w Q' hf hg' hq') hq big s a w h hg)
end
end Go.Proofs.YtgdfelbedghhnaaGreatDoor
namespace Go.Proofs.YtgdfelbedghhnaaGreatDoor
open Go Go.RowKit
set_option linter.unusedSimpArgs false
def chkRes(P:Program):List ResultVar->List CRes->Bool
 | [],[]=>true
 | .tmp t::rs,.tmp t'::cs=>t == t' && chkRes P rs cs
 | .cell t ty::rs,.cell t' sz agg::cs=>t == t' && (sizeB P ty (fun i=>decide (i.size=sz)) && ((match P.underlying ty with|some d=>aggB d == agg && (aggB d || sz == 1)|none=>false) && chkRes P rs cs))
 | _,_=>false
def chkFn(P:Program)(num:Nat->Option FuncId)(fn:Func)(c:CFn):Bool :=
 (fn.name != "runtime.NumGoroutine") && (fn.ntmps == c.nt && (match fn.body with|some b => chkCode P num c.nt c.body b && chkRes P fn.results.toList c.res|none => false))
section
variable {cx:Cx} {h:Nat->Option AO} {ep:Nat} {g:Gh} {w:World}
def Fp(h:Nat->Option AO)(g:Gh)(is:List Nat)(x:Nat):Prop:=∃ i o,i∈is/\h i=some o/\g.fp i x
theorem Fp.apart(m:Mem cx h ep g w){is js:List Nat}(hd:∀ i∈is,i ∉ js){x:Nat}(h1:Fp h g is x)(h2:Fp h g js x):False:=by
 obtain⟨i,o,hi,ho,hf⟩:=h1
 obtain⟨j,o',hj,ho',hf'⟩:=h2
 exact hd i hi (m.disj i j o o' x ho ho' hf hf' ▸ hj)
theorem Fp.mono{is js:List Nat}(hs:∀ i∈is,i∈js){x:Nat}(h1:Fp h g is x):Fp h g js x:=by
 obtain⟨i,o,hi,ho,hf⟩:=h1
 exact⟨i,o,hs i hi,ho,hf⟩
theorem Zk6(m:Mem cx h ep g w){u:Value}{c d:AV}{is:List Nat}(hr:SRel cx.num w cx.R g h ep u c)(hs:shut1 h c=some (d,is)) :
  ∃ S,Cl w g.I u d S/\(∀ x,S x->Fp h g is x)/\(∀ x,S x->g.N x)/\∀ i∈is,∃ sz xs,h i=some (.arr sz xs):=by
 have none_:∀ {u d},Cl w g.I u d (fun _=>False)->∃ S,Cl w g.I u d S/\(∀ x,S x->Fp h g [] x)/\(∀ x,S x->g.N x)/\∀ i∈([]:List Nat),∃ sz xs,h i=some (.arr sz xs):=fun hc=>⟨_,hc,fun _ h=>h.elim,fun _ h=>h.elim,by simp⟩
 cases c<;>simp only[shut1,reduceCtorEq,Xb,Xk]at hs
 ·obtain⟨rfl,rfl⟩:=hs;cases hr;exact none_ (.bool _ _ (fun _ h=>h))
 ·obtain⟨rfl,rfl⟩:=hs;cases hr;exact none_ (.int _ _ _ (fun _ h=>h))
 ·obtain⟨rfl,rfl⟩:=hs;cases hr;exact none_ (.str _ _ (fun _ h=>h))
 ·rename_i md sz xs
  cases md with
  | own=>cases xs with
   | nil =>
    simp only[Xb,Xk]at hs
    obtain⟨rfl,rfl⟩:=hs
    cases hr with
    | nil=>exact none_ (.nil _ _ (fun _ h=>h))
    | sl _ _ _ _ _ _ _ hown=>exact absurd rfl hown
   | cons _ _=>simp at hs
  | imm =>
   have hb:d=.sl .imm sz xs/\is=[]:=by cases xs<;>simp_all
   obtain⟨rfl,rfl⟩:=hb
   cases hr with
   | sl _ _ _ _ _ hm=>exact none_ (.imm _ _ _ _ (hm rfl) (fun _ h=>h))
  | bor=>cases xs<;>simp at hs
  | snap e=>cases xs<;>simp at hs
 ·rename_i id
  cases hh:h id with
  | none=>rw[hh]at hs;cases hs
  | some ob =>
   rw[hh]at hs
   cases ob<;>simp only[reduceCtorEq,Xb,Xk]at hs
   obtain⟨rfl,rfl⟩:=hs
   cases hr with
   | ref _ _ _ _ hv =>
    rw[hv _ hh]
    obtain⟨h1,h2⟩:=m.objs id _ hh
    exact⟨_,h1,fun x hx=>⟨id,_,by simp,hh,hx⟩,h2,fun i hi=>by rw[Xn.1 hi];exact⟨_,_,hh⟩⟩
theorem Zp3(m:Mem cx h ep g w){u:Value}{c d:AV}{is:List Nat}(h1:u.oneCell'=true)(hr:SRel cx.num w cx.R g h ep u c)(hs:shutC h c=some (d,is)) :
  ∃ S,Cl w g.I u d S/\(∀ x,S x->Fp h g is x)/\(∀ x,S x->g.N x)/\∀ i∈is,∃ sz xs,h i=some (.arr sz xs):=by
 by_cases ha:c=.any
 ·subst ha
  simp only[shutC,Xb,Xk]at hs
  obtain⟨rfl,rfl⟩:=hs
  exact⟨fun _=>False,.any _ _ h1 (fun _ h=>h),fun _ h=>h.elim,fun _ h=>h.elim,by simp⟩
 ·have e:shutC h c=shut1 h c:=by cases c<;>first|rfl|exact absurd rfl ha
  exact Zk6 m hr (e ▸ hs)
theorem Zhy(m:Mem cx h ep g w):∀ {us:List Value} {cs ds:List AV} {is:List Nat},us.length=cs.length->(∀ (i:Nat) (u:Value) (c:AV),us[i]?=some u->cs[i]?=some c->u.oneCell'=true/\SRel cx.num w cx.R g h ep u c)->shutL h cs=some (ds,is)->is.Nodup ->
  ∃ fs,ClCells w g.I g.N us ds fs/\(∀ i x,i<ds.length->fs i x->Fp h g is x)/\∀ i∈is,∃ sz xs,h i=some (.arr sz xs)
 | [],[],ds,is,_,_,hs,_=>by
  simp only[shutL,Xb,Xk]at hs
  obtain⟨rfl,rfl⟩:=hs
  exact⟨fun _ _=>False,⟨rfl,fun i u c hu=>by simp at hu,fun i x hi=>by simp at hi,fun i j x hi=>by simp at hi⟩,fun i x hi=>by simp at hi,by simp⟩
 | [],_::_,_,_,hl,_,_,_=>by simp at hl
 | _::_,[],_,_,hl,_,_,_=>by simp at hl
 | u::us,c::cs,ds,is,hl,hr,hs,hn=>by
  simp only[shutL]at hs
  cases h1:shutC h c with
  | none=>rw[h1]at hs;cases hs
  | some p =>
   obtain⟨d,i1⟩:=p
   rw[h1]at hs
   simp only at hs
   cases h2:shutL h cs with
   | none=>rw[h2]at hs;cases hs
   | some q =>
    obtain⟨ds',i2⟩:=q
    rw[h2]at hs
    simp only[Xb,Xk]at hs
    obtain⟨rfl,rfl⟩:=hs
    obtain⟨n1,n2,n3⟩:=Xby.1 hn
    obtain⟨S,a1,a2,a3,a4⟩:=Zp3 m (hr 0 u c rfl rfl).1 (hr 0 u c rfl rfl).2 h1
    obtain⟨fs,b1,b2,b3⟩:=Zhy m (by simpa using hl) (fun i v e hv he=>hr (i+1) v e (by simpa using hv) (by simpa using he)) h2 n2
    have hdis:∀ i∈i1,i ∉ i2:=fun i h3 h4=>n3 i h3 i h4 rfl
    refine⟨fun k=>match k with|0=>S|k+1=>fs k,⟨by simp[b1.size],fun k v e hv he=>?_,fun k x hk hx=>?_,fun k l x hk hl' hx hx'=>?_⟩,fun k x hk hx=>?_,fun i hi=>?_⟩
    ·cases k with
     | zero=>simp only[Xm,Xb]at hv he;subst hv;subst he;exact a1
     | succ k=>exact b1.cl k v e (by simpa using hv) (by simpa using he)
    ·cases k with
     | zero=>exact a3 x hx
     | succ k=>exact b1.inN k x (by simpa using hk) hx
    ·cases k with
     | zero=>cases l with
      | zero=>rfl
      | succ l=>exact (Fp.apart m hdis (a2 x hx) (b2 l x (by simpa using hl') hx')).elim
     | succ k=>cases l with
      | zero=>exact (Fp.apart m hdis (a2 x hx') (b2 k x (by simpa using hk) hx)).elim
      | succ l=>exact Xct (·+1) (b1.dis k l x (by simpa using hk) (by simpa using hl') hx hx')
    ·cases k with
     | zero=>exact (a2 x hx).mono fun i hi=>Xg.2 (.inl hi)
     | succ k=>exact (b2 k x (by simpa using hk) hx).mono fun i hi=>Xg.2 (.inr hi)
    ·rcases Xg.1 hi with h3|h3
     ·exact a4 i h3
     ·exact b3 i h3
theorem Zmv(m:Mem cx h ep g w){id:Nat}{cells ds:List AV}{is:List Nat}(hh:h id=some (.box cells))(hs:shutL h cells=some (ds,is))(hn:is.Nodup) :
  ∃ S,Shut w g.I g.N (g.v id) (.cellp ds) S/\(∀ x,S x->Fp h g (id::is) x)/\∀ i∈is,∃ sz xs,h i=some (.arr sz xs):=by
 obtain⟨b,cur,e,h1,h2,h3,h4,h5,h6⟩:=m.objs id _ hh
 obtain⟨fs,b1,b2,b3⟩:=Zhy m (us:=cur.toList) (by simpa using h3) (fun i u c hu hc=>⟨(h6 i u c (by simpa using hu) hc).1,(h6 i u c (by simpa using hu) hc).2⟩) hs hn
 refine⟨fun x=>x=b\/∃ i,i<ds.length/\fs i x,by rw[h1];exact .cellp b cur e ds fs _ h2 b1 h5 (fun _=>Iff.rfl),?_,b3⟩
 rintro x (rfl|⟨i,hi,hx⟩)
 ·exact⟨id,_,Xi,hh,(h4 _).2 rfl⟩
 ·exact (b2 i x hi hx).mono fun i hi=>Xh _ hi
theorem Zp4(m:Mem cx h ep g w){u:Value}{c d:AV}{is:List Nat}(hr:SRel cx.num w cx.R g h ep u c)(hs:shutV h c=some (d,is))(hn:is.Nodup) :
  ∃ S,Shut w g.I g.N u d S/\(∀ x,S x->Fp h g is x)/\d.isTup=false:=by
 by_cases hv:∃ cs,c=.agg cs
 ·obtain⟨cs,rfl⟩:=hv
  simp only[shutV]at hs
  cases h2:shutL h cs with
  | none=>rw[h2]at hs;cases hs
  | some q =>
   obtain⟨ds,i2⟩:=q
   rw[h2]at hs
   simp only[Xb,Xk]at hs
   obtain⟨rfl,rfl⟩:=hs
   cases hr with
   | agg us _ hl h1 hc =>
    obtain⟨fs,b1,b2,b3⟩:=Zhy m (us:=us.toList) (by simpa using hl) (fun i u c hu hcc=>⟨h1 i u (by simpa using hu),hc i u c (by simpa using hu) hcc⟩) h2 hn
    exact⟨fun x=>∃ i,i<ds.length/\fs i x,.agg us ds fs _ b1 (fun _=>Iff.rfl),fun x ⟨i,hi,hx⟩=>b2 i x hi hx,rfl⟩
 ·by_cases hp:∃ id,c=.ptr id 0 0
  ·obtain⟨id,rfl⟩:=hp
   simp only[shutV]at hs
   cases hh:h id with
   | none=>rw[hh]at hs;cases hs
   | some ob =>
    rw[hh]at hs
    cases ob<;>simp only[reduceCtorEq]at hs
    rename_i cells
    cases h2:shutL h cells with
    | none=>rw[h2]at hs;cases hs
    | some q =>
     obtain⟨ds,i2⟩:=q
     rw[h2]at hs
     simp only[Xb,Xk]at hs
     obtain⟨rfl,rfl⟩:=hs
     obtain⟨S,h3,h4,_⟩:=Zmv m hh h2 (List.nodup_cons.1 hn).2
     cases hr with
     | ptr _ _ _ _ h1 hu hv' =>
      obtain⟨b,h5,h6⟩:=hv' _ hh
      rw[h6,<- h5]
      exact⟨S,h3,h4,rfl⟩
  ·have e1:shutV h c=shut1 h c:=by
    cases c<;>first|rfl|exact absurd ⟨_,rfl⟩ hv|skip
    rename_i id i off
    cases i<;>cases off<;>first|rfl|exact absurd ⟨_,rfl⟩ hp
   rw[e1]at hs
   obtain⟨S,h1,h2,h3,_⟩:=Zk6 m hr hs
   refine⟨S,.one _ _ _ h1 h3,h2,?_⟩
   cases h1<;>rfl
theorem Zk7(m:Mem cx h ep g w):∀ {us:List Value} {cs ds:List AV} {is:List Nat},us.length=cs.length->(∀ (i:Nat) (u:Value) (c:AV),us[i]?=some u->cs[i]?=some c->SRel cx.num w cx.R g h ep u c)->shutT h cs=some (ds,is)->is.Nodup ->
  ∃ fs,ShutL w g.I g.N us ds fs/\(∀ i x,i<ds.length->fs i x->Fp h g is x)/\∀ d∈ds,d.isTup=false
 | [],[],ds,is,_,_,hs,_=>by
  simp only[shutT,Xb,Xk]at hs
  obtain⟨rfl,rfl⟩:=hs
  exact⟨fun _ _=>False,⟨rfl,fun i u c hu=>by simp at hu,fun i j x hi=>by simp at hi⟩,fun i x hi=>by simp at hi,by simp⟩
 | [],_::_,_,_,hl,_,_,_=>by simp at hl
 | _::_,[],_,_,hl,_,_,_=>by simp at hl
 | u::us,c::cs,ds,is,hl,hr,hs,hn=>by
  simp only[shutT]at hs
  cases h1:shutV h c with
  | none=>rw[h1]at hs;cases hs
  | some p =>
   obtain⟨d,i1⟩:=p
   rw[h1]at hs
   simp only at hs
   cases h2:shutT h cs with
   | none=>rw[h2]at hs;cases hs
   | some q =>
    obtain⟨ds',i2⟩:=q
    rw[h2]at hs
    simp only[Xb,Xk]at hs
    obtain⟨rfl,rfl⟩:=hs
    obtain⟨n1,n2,n3⟩:=Xby.1 hn
    obtain⟨S,a1,a2,a3⟩:=Zp4 m (hr 0 u c rfl rfl) h1 n1
    obtain⟨fs,b1,b2,b3⟩:=Zk7 m (by simpa using hl) (fun i v e hv he=>hr (i+1) v e (by simpa using hv) (by simpa using he)) h2 n2
    have hdis:∀ i∈i1,i ∉ i2:=fun i h3 h4=>n3 i h3 i h4 rfl
    refine⟨fun k=>match k with|0=>S|k+1=>fs k,⟨by simp[b1.size],fun k v e hv he=>?_,fun k l x hk hl' hx hx'=>?_⟩,fun k x hk hx=>?_,fun e he=>?_⟩
    ·cases k with
     | zero=>simp only[Xm,Xb]at hv he;subst hv;subst he;exact a1
     | succ k=>exact b1.sh k v e (by simpa using hv) (by simpa using he)
    ·cases k with
     | zero=>cases l with
      | zero=>rfl
      | succ l=>exact (Fp.apart m hdis (a2 x hx) (b2 l x (by simpa using hl') hx')).elim
     | succ k=>cases l with
      | zero=>exact (Fp.apart m hdis (a2 x hx') (b2 k x (by simpa using hk) hx)).elim
      | succ l=>exact Xct (·+1) (b1.dis k l x (by simpa using hk) (by simpa using hl') hx hx')
    ·cases k with
     | zero=>exact (a2 x hx).mono fun i hi=>Xg.2 (.inl hi)
     | succ k=>exact (b2 k x (by simpa using hk) hx).mono fun i hi=>Xg.2 (.inr hi)
    ·rcases Xl.1 he with rfl|he
     ·exact a3
     ·exact b3 e he
/-! ### What was given, at the end -/
def innerIds(h:Nat->Option AO)(k:Nat):List Nat :=
 match h k with
 | some (.box cells)=>match shutL h cells with
  | some (_,is)=>is
  | none=>[]
 | _=>[]
theorem Zcc:∀ {n i:Nat} {js:List Nat},shutBoxes h i n=some js->js=(List.range' i n).flatMap (innerIds h)/\∀ k cells,i<=k->k<i+n->h k=some (.box cells)->∃ ds,shutL h cells=some (ds,innerIds h k)
 | 0,i,js,hs=>by
  simp only[shutBoxes,Xb]at hs
  subst hs
  exact⟨by simp,fun k cells h1 h2=>by omega⟩
 | n+1,i,js,hs=>by
  have other:(∀ cells,h i≠some (.box cells))->shutBoxes h i (n+1)=shutBoxes h (i+1) n:=fun hn=>by
   rw[shutBoxes]
   cases ho:h i with
   | none=>rfl
   | some o =>
    cases o with
    | box cells=>exact absurd ho (hn _)
    | arr _ _=>rfl
    | map _ _=>rfl
  by_cases hb:∃ cells,h i=some (.box cells)
  ·obtain⟨cells,ho⟩:=hb
   simp only[shutBoxes,ho]at hs
   cases h1:shutL h cells with
   | none=>rw[h1]at hs;cases hs
   | some p =>
    obtain⟨ds,is⟩:=p
    rw[h1]at hs
    simp only at hs
    cases h2:shutBoxes h (i+1) n with
    | none=>rw[h2]at hs;cases hs
    | some js' =>
     rw[h2]at hs
     simp only[Xb]at hs
     subst hs
     obtain⟨h3,h4⟩:=Zcc h2
     have hin:innerIds h i=is:=by simp[innerIds,ho,h1]
     refine⟨by rw[List.range'_succ,Xai,hin,h3],fun k c hk1 hk2 hk3=>?_⟩
     by_cases hki:k=i
     ·subst hki
      rw[ho]at hk3
      cases hk3
      exact⟨ds,by rw[hin];exact h1⟩
     ·exact h4 k c (by omega) (by omega) hk3
  ·have hn:∀ cells,h i≠some (.box cells):=fun cells e=>hb ⟨cells,e⟩
   rw[other hn]at hs
   obtain⟨h3,h4⟩:=Zcc hs
   have hin:innerIds h i=[]:=by
    unfold innerIds
    cases ho:h i with
    | none=>rfl
    | some o =>
     cases o with
     | box cells=>exact absurd ho (hn _)
     | arr _ _=>rfl
     | map _ _=>rfl
   refine⟨by rw[List.range'_succ,Xai,hin,h3];rfl,fun k c hk1 hk2 hk3=>?_⟩
   by_cases hki:k=i
   ·subst hki;exact absurd hk3 (hn _)
   ·exact h4 k c (by omega) (by omega) hk3
theorem Zi2{gone:List Nat}:∀ {n i k:Nat},k<n->(outsOf h gone i n)[k]?=some (outOf h gone (i+k))
 | 0,i,k,hk=>by omega
 | n+1,i,k,hk=>by
  cases k with
  | zero=>simp only[outsOf,Xm,Nat.add_zero]
  | succ k =>
   have:=Zi2 (gone:=gone) (n:=n) (i:=i+1) (k:=k) (by omega)
   simp only[outsOf,List.getElem?_cons_succ]
   rw[this,show i+1+k=i+(k+1) by omega]
theorem Zc3{gone:List Nat}:∀ (n i:Nat),(outsOf h gone i n).length=n
 | 0,_=>rfl
 | n+1,i=>by simp[outsOf,Zc3 n (i+1)]
theorem Zq4(m:Mem cx h ep g w){us:List Value}{vs ws:List AV}{is js:List Nat}(hl:us.length=vs.length)(hr:∀ (i:Nat) (u:Value) (c:AV),us[i]?=some u->vs[i]?=some c->SRel cx.num w cx.R g h ep u c)
  (hs:shutT h vs=some (ws,is)) (hb:shutBoxes h 0 cx.base=some js) (hd:distinct (is++js)=true) (hold:∀ i∈is++js,∀ cells,h i=some (.box cells)->cx.base<=i) :
  ∃ I N S fo,Post cx w (if hz:us.length=1 then us[0]'(by omega) else .tuple us.toArray) (match ws with|[v]=>v|ws=>.tup ws) (outsOf h (is++js) 0 cx.base) I N S fo:=by
 have hnd:=Za6 hd
 obtain⟨n1,n2,n3⟩:=Xby.1 hnd
 obtain⟨fs,b1,b2,b3⟩:=Zk7 m hl hr hs n1
 obtain⟨hjs,hbx⟩:=Zcc hb
 have hinner:∀ k,k<cx.base->∀ i∈innerIds h k,i∈js:=fun k hk i hi=>by
  rw[hjs];exact Xbn.2 ⟨k,by rw[List.mem_range'_1];omega,hi⟩
 have hinnd:∀ k,k<cx.base->(innerIds h k).Nodup:=fun k hk=>by
  have h1:=List.pairwise_flatMap.1 (hjs ▸ n2)
  exact h1.1 k (by rw[List.mem_range'_1];omega)
 have hindis:∀ k l,k<cx.base->l<cx.base->k≠l->∀ i∈innerIds h k,i ∉ innerIds h l:=fun k l hk hl' hne i hi hi'=>by
  have h1:=(List.pairwise_flatMap.1 (hjs ▸ n2)).2
  have hpw:=Xbs.1 h1
  rcases Nat.lt_or_gt_of_ne hne with hlt|hlt
  ·exact hpw k l (by simpa using hk) (by simpa using hl') hlt i (by simpa using hi) i (by simpa using hi') rfl
  ·exact hpw l k (by simpa using hl') (by simpa using hk) hlt i (by simpa using hi') i (by simpa using hi) rfl
 have houtgone:∀ k o,k<cx.base->outOf h (is++js) k=some o->k ∉ is++js:=by
  intro k o hk ho hm
  unfold outOf at ho
  cases hh:h k with
  | none=>rw[hh]at ho;cases ho
  | some ob =>
   rw[hh]at ho
   cases ob with
   | box cells=>have:=hold k hm cells hh;omega
   | arr sz xs =>
    have:(is++js).contains k=true:=by simpa using hm
    simp[this]at ho
    simp at hm
    rcases hm with hm|hm
    ·exact absurd hm ho.1.1
    ·exact absurd hm ho.1.2
   | map kb kvs=>cases ho
 have hFpS:∀ x,(∃ i,i<ws.length/\fs i x)->Fp h g is x:=fun x ⟨i,hi,hx⟩=>b2 i x hi hx
 have hmine:∀ ids x,Fp h g ids x->(cx.M x\/cx.w0.heap.size<=x)/\¬ g.I x:=fun ids x ⟨i,o,_,ho,hf⟩=>m.mine i o x ho hf
 -- the footprints of what comes back
 have hex:∀ k,∃ S:Nat->Prop,(∀ o,k<cx.base->outOf h (is++js) k=some o->Shut w g.I g.N (cx.v0 k) o.av S/\∃ o0,cx.h0 k=some o0/\o0.alike o)/\∀ x,S x->Fp h g (k::innerIds h k) x/\∃ o,outOf h (is++js) k=some o:=by
  intro k
  by_cases hkb:k<cx.base
  ·cases hout:outOf h (is++js) k with
   | none=>exact⟨fun _=>False,fun o _ ho=>(nomatch ho),fun _ hx=>hx.elim⟩
   | some o =>
    have ho':=hout
    unfold outOf at ho'
    cases hh:h k with
    | none=>rw[hh]at ho';cases ho'
    | some ob =>
     rw[hh]at ho'
     obtain⟨o0,g1,g2,g3⟩:=m.given k ob hkb hh
     cases ob with
     | box cells =>
      simp only at ho'
      obtain⟨ds,hds⟩:=hbx k cells (Xp _) (by omega) hh
      rw[hds]at ho'
      simp only[Xb]at ho'
      subst ho'
      obtain⟨S,h1,h2,_⟩:=Zmv m hh hds (hinnd k hkb)
      refine⟨S,fun o1 _ he=>?_,fun x hx=>⟨h2 x hx,_,rfl⟩⟩
      obtain rfl:=Xf he
      exact⟨by rw[<- g3];exact h1,o0,g1,AO.alike.trans (p:=.box cells) g2 trivial⟩
     | arr sz xs =>
      simp only at ho'
      split at ho'
      ·cases ho'
      ·simp only[Xb]at ho'
       subst ho'
       obtain⟨h1,h2⟩:=m.objs k _ hh
       refine⟨g.fp k,fun o1 _ he=>?_,fun x hx=>⟨⟨k,_,Xi,hh,hx⟩,_,rfl⟩⟩
       obtain rfl:=Xf he
       exact⟨by rw[<- g3];exact .one _ _ _ h1 h2,o0,g1,g2⟩
     | map kb kvs=>cases ho'
  ·exact⟨fun _=>False,fun o hk=>absurd hk hkb,fun _ hx=>hx.elim⟩
 refine⟨g.I,g.N,fun x=>∃ i,i<ws.length/\fs i x,fun k=>(hex k).choose,m.frame,Zc3 _ _,m.I_up,m.I_new,m.I_N,m.N_up,m.N_new,m.N_lt,?_,?_,fun x hx=>hmine is x (hFpS x hx),fun k x _ hx=>hmine _ x ((hex k).choose_spec.2 x hx).1,?_,?_⟩
 ·have hlw:=b1.size
  cases ws with
  | nil =>
   have hz:¬ us.length=1:=by simp at hlw;simp[hlw]
   rw[dif_neg hz]
   exact .tup _ _ fs _ (by simpa using b1) (fun x=>Iff.rfl)
  | cons v rest =>
   cases rest with
   | nil =>
    have hz:us.length=1:=by simpa using hlw
    rw[dif_pos hz]
    have hz0:0<us.length:=by omega
    have h1:=b1.sh 0 us[0] v (Xd hz0) rfl
    refine .one _ _ _ ?_ (b3 v Xi)
    have he:(fun x=>∃ i,i < [v].length/\fs i x)=fs 0:=funext fun x=>propext ⟨fun ⟨i,hi,hx⟩=>by
     have:i=0:=by simpa using hi
     subst this;exact hx,fun hx=>⟨0,by simp,hx⟩⟩
    rw[he]
    exact h1
   | cons v2 rest =>
    have hz:¬ us.length=1:=by simp at hlw;omega
    rw[dif_neg hz]
    exact .tup _ _ fs _ (by simpa using b1) (fun x=>Iff.rfl)
 ·intro k o hk
  have hkb:k<cx.base:=by
   have:=(Xa.1 hk).1
   rwa [Zc3]at this
  rw[Zi2 hkb,Xbe]at hk
  exact (hex k).choose_spec.1 o hkb (Xf hk)
 ·intro k x hk hx hf
  obtain⟨h1,o,ho⟩:=(hex k).choose_spec.2 x hf
  have hng:=houtgone k o hk ho
  refine Fp.apart m (fun i hi hi2=>?_) (hFpS x hx) h1
  rcases Xl.1 hi2 with rfl|hi2
  ·exact hng (Xg.2 (.inl hi))
  ·exact n3 i hi i (hinner k hk i hi2) rfl
 ·intro k l x hk hl' hf hf'
  obtain⟨h1,o,ho⟩:=(hex k).choose_spec.2 x hf
  obtain⟨h2,o',ho'⟩:=(hex l).choose_spec.2 x hf'
  have hng:=houtgone k o hk ho
  have hng':=houtgone l o' hl' ho'
  refine Classical.byContradiction fun hne=>Fp.apart m (fun i hi hi2=>?_) h1 h2
  rcases Xl.1 hi with rfl|hi<;>rcases Xl.1 hi2 with rfl|hi2
  ·exact hne rfl
  ·exact hng (Xg.2 (.inr (hinner l hl' _ hi2)))
  ·exact hng' (Xg.2 (.inr (hinner k hk _ hi)))
  ·exact hindis k l hk hl' hne i hi hi2
end
end Go.Proofs.YtgdfelbedghhnaaGreatDoor
