/- The library's contract of sort.Slice, in the form that the abstract machine asks. -/
import Derived.Test.YtgdfelbedghhnaaGreatDoorB4
import Derived.Shelf.SlSortFuncK.WholeK
import Derived.Shelf.GgSortFunc.Tiny
namespace Go.Proofs.YtgdfelbedghhnaaGreatDoor
open Go Go.RowKit Go.Shelf Go.Lib Go.Sort
set_option linter.unusedSimpArgs false
theorem sLt_false_iff(x y:ByteArray):sLt x y=false↔y.data.toList<=x.data.toList:=by
 rw[<- Bool.not_eq_true,Zj1,List.not_lt]
theorem swo_key(ks:Nat->ByteArray):Sort.SWO (fun a b=>sLt (ks a) (ks b)) where
 irrefl x:=Zao _
 trans x y z h1 h2:=Zb4 h1 h2
 ntrans x y z h1 h2:=by
  rw[sLt_false_iff]at *
  exact List.le_trans h2 h1
/-- The comparison: it reads the slice out of the variable that it captures (o cells in), and compares the texts at place c of two rows. -/
def LessFor(P:Program)(f:FuncId)(o c sz:Nat):Prop :=
 ∀ (W:World) (blk cap Bs n:Nat) (ks:Nat->ByteArray),W.cell? ⟨Bs,o,none⟩=some (.slice (some ⟨blk,0,none⟩) n cap)->(∀ i,i<n->W.cell? ⟨blk,0+i*sz+c,none⟩=some (.string (ks i))) ->
  ∀ i j:Nat,i<n->j<n->n<4611686018427387904->Calls P f #[.int .i64 i,.int .i64 j,.pointer (some ⟨Bs,0,none⟩)] W fun e w'=>e=.returned (.bool (sLt (ks i) (ks j)))/\∃ q,w'=W.drewN q
theorem heap_putRowK{α:Type}[Inhabited α](enc:α->List Value)(k:Nat)(w:World)(m blk:Nat)(d:Array α)(os:Array Obj){cur:Array Value}{e:TypeId}(hh:w.heap[blk]?=some (.cells cur e (0,0))) :
  (Sort.grow (putRowK enc k (Sort.ahead w m) blk 0 d) os).heap[blk]?=some (.cells (Sort.putCells id 0 (flatK enc k d) cur) e (0,0))/\∀ b,b<w.heap.size->b≠blk->(Sort.grow (putRowK enc k (Sort.ahead w m) blk 0 d) os).heap[b]?=w.heap[b]?:=by
 have hlt:=(Array.getElem?_eq_some_iff.1 hh).1
 have hsz:(putRowK enc k (Sort.ahead w m) blk 0 d).heap.size=w.heap.size:=by simp[putRowK,Sort.putRow,Sort.mapBlock,Sort.ahead]
 constructor
 ·simp only[Sort.grow]
  rw[Array.getElem?_append_left (by omega)]
  simp only[putRowK,Sort.putRow,Sort.mapBlock,Sort.ahead,Array.getElem?_modify,if_true,hh,Option.map_some,Sort.onCells]
 ·intro b hb hne
  simp only[Sort.grow]
  rw[Array.getElem?_append_left (by omega)]
  simp only[putRowK,Sort.putRow,Sort.mapBlock,Sort.ahead,Array.getElem?_modify,if_neg (Ne.symm hne)]
theorem swapperK_one(ie:TypeInfo)(ke:Nat):Lib.swapperK 1 ie ke=2:=by simp[Lib.swapperK]
theorem swapperK_nine{n:Nat}{ie:TypeInfo}(h2:2<=n)(hp:ie.hasPointers=true)(hb:(ie.bytes == 8)=false):Lib.swapperK n ie 25=9:=by
 have c:(n == 0)=false:=by simp;omega
 have d:(n == 1)=false:=by simp;omega
 simp[Lib.swapperK,c,d,hp,hb]
theorem sortOk_of{P:Program}{ρ:Ren}(L:LaysGg.n6 P ρ){f:FuncId}{t e:TypeId}{o c sz:Nat}(i ie:TypeInfo)(hi:P.info? t=some i)(hd:i.desc=.slice e)(hpk:P.packed t=false)(hie:P.info? e=some ie)(ke:Nat)
  (hke:∀ w,(Extern.Rtype.kind e).run P w=.ok ke w) (hs1:ie.size=sz) (hagg:∀ w,(isAgg e).run P w=.ok true w) (eg:∀ args w,(callFunc f args).run P w=.ok (.enter f args) w) (es:∀ args w,(callFunc (ρ.f 6) args).run P w=.ok (.enter (ρ.f 6) args) w)
  (hsw1:∃ fs,P.funcs.findIdx? (·.name == "internal/reflectlite" ++ ".Swapper$" ++ toString (Lib.swapperK 1 ie ke))=some fs)
  (hsw:∀ n,2≤n→∃ fs gS,P.funcs.findIdx? (·.name == "internal/reflectlite" ++ ".Swapper$" ++ toString (Lib.swapperK n ie ke))=some fs∧∀ args W,(callFunc fs args).run P W=((Extern.ReflectliteSwapper.swap gS args).run P W).andThen fun v w' => .ok (.value v) w')
  (hless:LessFor P f o c sz):SortOk P (ρ.f 6) f t o c sz:=by
 intro w blk cap Bs n cur e0 us ks hheap hn hmaxn hncap hcap hcur hcells hc hks hne hBs hslot
 have hlt:=(Array.getElem?_eq_some_iff.1 hheap).1
 intro oo aa next Q hnext
 rw[es,Oper.upon_enter]
 refine Calls.mono (R:=fun e w'=>∃ v,e=.returned v/\(v=.tuple #[]/\∃ (p:List Nat) (cur':Array Value),p.Perm (List.range n)/\p.Pairwise (fun a b=>sLt (ks b) (ks a)=false)/\w'.os=w.os/\w'.tape=w.tape/\w'.output=w.output/\w.heap.size<=w'.heap.size /\
    (∀ b,b<w.heap.size->b≠blk->w'.heap[b]?=w.heap[b]?)/\w'.heap[blk]?=some (.cells cur' e0 (0,0))/\cur'.size=cur.size/\∀ i j a,p[i]?=some a->j<sz->cur'[i*sz+j]?=some (us a j))) ?_ (fun e w' he=>by
  obtain⟨v,rfl,hR⟩:=he
  exact hnext v w' hR)
 rcases Nat.lt_or_ge 1 n with h2|h2
 case inr =>
  obtain rfl:n=1:=by omega
  obtain⟨fs,hf⟩:=hsw1
  refine (Any.sort_Slice_tiny L t e i ie hi hd hpk hie ke hke (some ⟨blk,0,none⟩) 1 cap (Nat.le_refl _) fs hf (.func f) #[] #[.pointer (some ⟨Bs,0,none⟩)] w).mono ?_
  rintro e w' ⟨rfl,os,rfl⟩
  refine⟨_,rfl,rfl,[0],cur,.refl _,List.pairwise_singleton _ _,rfl,rfl,rfl,by simp[Sort.grow],fun b hb _=>?_,?_,rfl,fun i j a hia hj=>?_⟩
  ·simp only[Sort.grow];rw[Array.getElem?_append_left hb]
  ·simp only[Sort.grow];rw[Array.getElem?_append_left hlt];exact hheap
  ·cases i with
   | zero =>
    simp only[List.getElem?_cons_zero,Option.some.injEq]at hia
    subst hia
    exact (hcells 0 j (by omega) hj).1
   | succ i=>simp at hia
 ·obtain⟨fs,gS,hf,hx⟩:=hsw n h2
  let r:Nat->Nat:=fun a=>if a<n then a else 0
  have hr:∀ a,r a<n:=fun a=>by simp only[r];split<;>omega
  have hrn:∀ a,a<n->r a=a:=fun a h=>by simp[r,h]
  let enc:Nat->List Value:=fun a=>(List.range sz).map fun j=>us (r a) j
  have hk:∀ x,(enc x).length=sz:=fun x=>by simp[enc]
  have hget:∀ x j,j<sz->(enc x)[j]! = us (r x) j:=fun x j hj=>by simp[enc,hj]
  let d:Array Nat:=Array.range n
  have hds:d.size=n:=by simp[d]
  have hdg:∀ x,x<n->d[x]! = x:=fun x hx=>by simp[d,hx]
  have hdiv:∀ t,t<n*sz->t / sz<n/\t % sz<sz/\t / sz*sz+t % sz=t:=fun t ht=>by
   have hp:0<sz:=by omega
   exact⟨Nat.div_lt_of_lt_mul (by rw[Nat.mul_comm];exact ht),Nat.mod_lt _ hp,by rw[Nat.mul_comm];exact Nat.div_add_mod t sz⟩
  have hH:HoldsK enc sz w blk 0 d:=by
   intro t ht
   rw[size_flatK,hds]at ht
   obtain⟨h3,h4,h5⟩:=hdiv t ht
   obtain⟨h6,_⟩:=hcells (t / sz) (t % sz) h3 h4
   rw[h5]at h6
   refine⟨?_,?_⟩
   ·rw[get_flatK _ _ _ _ (by rw[hds];exact ht),hdg _ h3,hget _ _ h4,hrn _ h3,Zaf hheap,Nat.zero_add,h6];rfl
   ·simp[World.frozen?,hheap]
  have hlessK:LessReadsK P f #[.pointer (some ⟨Bs,0,none⟩)] enc sz (fun a b=>sLt (ks (r a)) (ks (r b))) blk 0 d.size w:=by
   intro m os dk hs i j hi hj
   have e1:sortWorldK enc sz w blk 0 m dk os=putRowK enc sz (Sort.grow (Sort.ahead w m) os) blk 0 dk:=by
    unfold sortWorldK;rw[putRowK_grow _ _ (Sort.ahead w m) _ blk 0 _ hlt]
   have hHg:HoldsK enc sz (Sort.grow (Sort.ahead w m) os) blk 0 d:=holdsK_grow _ _ _ _ blk 0 d hlt (holdsK_ahead _ _ _ _ _ _ _ hH)
   refine hless _ blk cap Bs n (fun t=>ks (r dk[t]!)) ?_ (fun t ht=>?_) i j (by omega) (by omega) hmaxn
   ·rw[e1,cell?_putRowK_other _ _ _ blk 0 dk _ (by exact hne),Sort.cell?_grow _ _ _ (by exact hBs)];exact hslot
   ·rw[e1,((holdsK_putRowK _ _ _ blk 0 d dk hHg hs).cell (i:=t) (c:=c) (by omega) hc).1,hget _ _ hc,hks _ (hr _)]
  have h1:∀ x,∀ v∈enc x,v.oneCell'=true:=fun x v hv=>by
   obtain⟨j,hj,rfl⟩:=List.mem_map.1 hv
   exact (hcells (r x) j (hr x) (List.mem_range.1 hj)).2
  have hA:=Any.sort_Slice_cells_sorted L t e i ie hi hd hpk hie ke hke enc sz hk hs1 hagg h1 (fun a b=>sLt (ks (r a)) (ks (r b))) (swo_key fun a=>ks (r a)) f #[.pointer (some ⟨Bs,0,none⟩)] eg blk 0 cap d (by omega) (by omega) fs (by rw[hds];exact hf) gS hx w hlessK hH hlt
  rw[hds]at hA
  refine hA.mono ?_
  ·rintro e w' ⟨rfl,d',m,os,⟨hp1,_,hp2⟩,hso,rfl⟩
   obtain⟨hb1,hb2⟩:=heap_putRowK enc sz w m blk d' os hheap
   have hds':d'.size=n:=by rw[hp1,hds]
   have hperm:d'.toList.Perm (List.range n):=by
    have e1:(d'.extract 0 n).toList=d'.toList:=by simp[<- hds']
    have e2:(d.extract 0 n).toList=List.range n:=by simp[d]
    rw[e1,e2]at hp2
    exact hp2
   have hlt':∀ (i a:Nat),d'.toList[i]?=some a->a<n:=fun i a h=>List.mem_range.1 (hperm.mem_iff.1 (List.mem_of_getElem? h))
   have hg':∀ (i a:Nat),d'.toList[i]?=some a->d'[i]! = a:=fun i a h=>by
    rw[Array.getElem?_toList]at h
    simp[getElem!_def,h]
   refine⟨_,rfl,rfl,d'.toList,Sort.putCells id 0 (flatK enc sz d') cur,hperm,?_,rfl,rfl,rfl,?_,hb2,hb1,by simp[Sort.putCells],fun i j a hia hj=>?_⟩
   ·refine List.pairwise_iff_getElem.2 fun i j hi hj hij=>?_
    have hi':d'.toList[i]?=some d'.toList[i]:=List.getElem?_eq_getElem hi
    have hj':d'.toList[j]?=some d'.toList[j]:=List.getElem?_eq_getElem hj
    have:=hso i j (Nat.zero_le _) hij (by simpa [hds'] using hj)
    rw[hg' i _ hi',hg' j _ hj']at this
    simp only[hrn _ (hlt' i _ hi'),hrn _ (hlt' j _ hj')]at this
    exact this
   ·simp[Sort.grow,putRowK,Sort.putRow,Sort.mapBlock,Sort.ahead]
   ·have hin:i<n:=by have:=(List.getElem?_eq_some_iff.1 hia).1;simpa [hds'] using this
    have hlim:i*sz+j<n*sz:=by
     have:=Nat.mul_le_mul_right sz (show i+1<=n from hin)
     rw[Nat.add_mul,Nat.one_mul]at this
     omega
    have hcs:n*sz<=cap*sz:=Nat.mul_le_mul_right sz hncap
    have hp:0<sz:=by omega
    have e1:(i*sz+j) / sz=i:=by rw[Nat.mul_comm,Nat.mul_add_div hp,Nat.div_eq_of_lt hj,Nat.add_zero]
    have e2:(i*sz+j) % sz=j:=by rw[Nat.mul_comm,Nat.mul_add_mod,Nat.mod_eq_of_lt hj]
    simp only[Sort.putCells,Array.getElem?_mapIdx,size_flatK,hds']
    rw[Array.getElem?_eq_getElem (by omega:i*sz+j<cur.size),Option.map_some,if_pos ⟨Nat.zero_le _,by omega⟩,Nat.sub_zero,get_flatK _ _ _ _ (by rw[hds'];exact hlim),e1,e2,hg' i a hia,hget _ _ hj,hrn a (hlt' i a hia)]
    rfl
end Go.Proofs.YtgdfelbedghhnaaGreatDoor
