/- The abstract machine on values without addresses: what the program's operations compute, memory seen as trees and named arrays. No Go and no memory here. And what follows from it, part by part, as the proof needs it. -/
import GoSem.Core.Value
import GoSem.Core.Ast
import GoSem.Op.String
import Derived.IntWalk
import Derived.WalkKit
import Derived.ProofKit
import Derived.Lib.Join
import Derived.Lib.Split
import Derived.Lib.ItoaNum
import Derived.Lib.AtoiAll
namespace Go.Proofs.YtgdfelbedghhnaaGreatDoor
theorem Xa:type_of% @List.getElem?_eq_some_iff:=@List.getElem?_eq_some_iff
theorem Xb:type_of% @Option.some.injEq:=@Option.some.injEq
theorem Xc:type_of% @Bool.and_eq_true:=@Bool.and_eq_true
theorem Xd:type_of% @List.getElem?_eq_getElem:=@List.getElem?_eq_getElem
theorem Xe:type_of% @List.mem_of_getElem?:=@List.mem_of_getElem?
theorem Xf:type_of% @Option.some.inj:=@Option.some.inj
theorem Xg:type_of% @List.mem_append:=@List.mem_append
theorem Xh:type_of% @List.mem_cons_of_mem:=@List.mem_cons_of_mem
theorem Xi:type_of% @List.mem_cons_self:=@List.mem_cons_self
theorem Xj:type_of% @decide_eq_true_eq:=@decide_eq_true_eq
theorem Xk:type_of% @Prod.mk.injEq:=@Prod.mk.injEq
theorem Xl:type_of% @List.mem_cons:=@List.mem_cons
theorem Xm:type_of% @List.getElem?_cons_zero:=@List.getElem?_cons_zero
theorem Xn:type_of% @List.mem_singleton:=@List.mem_singleton
theorem Xo:type_of% @Nat.le_refl:=@Nat.le_refl
theorem Xp:type_of% @Nat.zero_le:=@Nat.zero_le
theorem Xq:type_of% @Bool.false_eq_true:=@Bool.false_eq_true
theorem Xr:type_of% @if_pos:=@if_pos
theorem Xs:type_of% @List.length_append:=@List.length_append
theorem Xt:type_of% @List.map_nil:=@List.map_nil
theorem Xu:type_of% @if_neg:=@if_neg
theorem Xv:type_of% @Bool.not_eq_true':=@Bool.not_eq_true'
theorem Xw:type_of% @Option.map_some:=@Option.map_some
theorem Xx:type_of% @List.map_cons:=@List.map_cons
theorem Xy:type_of% @Nat.le_succ_of_le:=@Nat.le_succ_of_le
theorem Xz:type_of% @Array.getElem?_eq_getElem:=@Array.getElem?_eq_getElem
theorem Xaa:type_of% @List.length_cons:=@List.length_cons
theorem Xab:type_of% @Array.getElem?_eq_some_iff:=@Array.getElem?_eq_some_iff
theorem Xac:type_of% @Nat.le_trans:=@Nat.le_trans
theorem Xad:type_of% @List.pairwise_cons:=@List.pairwise_cons
theorem Xae:type_of% @List.take_of_length_le:=@List.take_of_length_le
theorem Xaf:type_of% @Nat.mul_le_mul_right:=@Nat.mul_le_mul_right
theorem Xag:type_of% @if_true:=@if_true
theorem Xah:type_of% @List.drop_eq_getElem_cons:=@List.drop_eq_getElem_cons
theorem Xai:type_of% @List.flatMap_cons:=@List.flatMap_cons
theorem Xaj:type_of% @if_false:=@if_false
theorem Xak:type_of% @List.getElem?_of_mem:=@List.getElem?_of_mem
theorem Xal:type_of% @List.getElem?_take:=@List.getElem?_take
theorem Xam:type_of% @List.getElem?_map:=@List.getElem?_map
theorem Xan:type_of% @beq_iff_eq:=@beq_iff_eq
theorem Xao:type_of% @List.all_eq_true:=@List.all_eq_true
theorem Xap:type_of% @List.mem_map:=@List.mem_map
theorem Xaq:type_of% @List.getElem?_drop:=@List.getElem?_drop
theorem Xar:type_of% @List.getElem?_append_right:=@List.getElem?_append_right
theorem Xas:type_of% @Bool.or_eq_true:=@Bool.or_eq_true
theorem Xat:type_of% @List.mem_or_eq_of_mem_set:=@List.mem_or_eq_of_mem_set
theorem Xau:type_of% @Array.length_toList:=@Array.length_toList
theorem Xav:type_of% @List.not_mem_nil:=@List.not_mem_nil
theorem Xaw:type_of% @Nat.lt_of_lt_of_le:=@Nat.lt_of_lt_of_le
theorem Xax:type_of% @List.take_add_one:=@List.take_add_one
theorem Xay:type_of% @List.getElem?_append_left:=@List.getElem?_append_left
theorem Xaz:type_of% @Array.getD_eq_getD_getElem?:=@Array.getD_eq_getD_getElem?
theorem Xa0:type_of% @List.length_set:=@List.length_set
theorem Xa1:type_of% @List.cons_append:=@List.cons_append
theorem Xa2:type_of% @Nat.add_mul:=@Nat.add_mul
theorem Xa3:type_of% @List.map_set:=@List.map_set
theorem Xa4:type_of% @Bool.or_eq_false_iff:=@Bool.or_eq_false_iff
theorem Xa5:type_of% @List.pairwise_append:=@List.pairwise_append
theorem Xa6:type_of% @decide_eq_false_iff_not:=@decide_eq_false_iff_not
theorem Xa7:type_of% @List.append_assoc:=@List.append_assoc
theorem Xa8:type_of% @List.nil_append:=@List.nil_append
theorem Xa9:type_of% @List.getElem?_append:=@List.getElem?_append
theorem Xba:type_of% @Int.tmod_eq_emod_of_nonneg:=@Int.tmod_eq_emod_of_nonneg
theorem Xbb:type_of% @Option.getD_some:=@Option.getD_some
theorem Xbc:type_of% @List.any_cons:=@List.any_cons
theorem Xbd:type_of% @List.getElem?_toArray:=@List.getElem?_toArray
theorem Xbe:type_of% @Nat.zero_add:=@Nat.zero_add
theorem Xbf:type_of% @List.mem_of_mem_take:=@List.mem_of_mem_take
theorem Xbg:type_of% @List.take_length:=@List.take_length
theorem Xbh:type_of% @Int.toNat_natCast:=@Int.toNat_natCast
theorem Xbi:type_of% @Array.getElem?_toList:=@Array.getElem?_toList
theorem Xbj:type_of% @List.length_take:=@List.length_take
theorem Xbk:type_of% @Bool.false_or:=@Bool.false_or
theorem Xbl:type_of% @List.foldl_cons:=@List.foldl_cons
theorem Xbm:type_of% @List.length_singleton:=@List.length_singleton
theorem Xbn:type_of% @List.mem_flatMap:=@List.mem_flatMap
theorem Xbo:type_of% @List.any_eq_false:=@List.any_eq_false
theorem Xbp:type_of% @List.pairwise_singleton:=@List.pairwise_singleton
theorem Xbq:type_of% @List.mem_of_mem_drop:=@List.mem_of_mem_drop
theorem Xbr:type_of% @List.getElem?_eq_none_iff:=@List.getElem?_eq_none_iff
theorem Xbs:type_of% @List.pairwise_iff_getElem:=@List.pairwise_iff_getElem
theorem Xbt:type_of% @Nat.min_eq_left:=@Nat.min_eq_left
theorem Xbu:type_of% @Option.map_none:=@Option.map_none
theorem Xbv:type_of% @and_true:=@and_true
theorem Xbw:type_of% @List.find?_eq_none:=@List.find?_eq_none
theorem Xbx:type_of% @List.getElem_mem:=@List.getElem_mem
theorem Xby:type_of% @List.nodup_append:=@List.nodup_append
theorem Xbz:type_of% @Bool.not_true:=@Bool.not_true
theorem Xb0:type_of% @Nat.add_assoc:=@Nat.add_assoc
theorem Xb1:type_of% @List.length_map:=@List.length_map
theorem Xb2:type_of% @Bool.not_eq_true:=@Bool.not_eq_true
theorem Xb3:type_of% @List.length_drop:=@List.length_drop
theorem Xb4:type_of% @List.Sublist.refl:=@List.Sublist.refl
theorem Xb5:type_of% @List.length_range:=@List.length_range
theorem Xb6:type_of% @List.append_nil:=@List.append_nil
theorem Xb7:type_of% @List.length_nil:=@List.length_nil
theorem Xb8:type_of% @List.map_append:=@List.map_append
theorem Xb9:type_of% @List.mem_filter:=@List.mem_filter
theorem Xca:type_of% @Nat.le_succ:=@Nat.le_succ
theorem Xcb:type_of% @or_false:=@or_false
theorem Xcc:type_of% @Bool.and_eq_false_iff:=@Bool.and_eq_false_iff
theorem Xcd:type_of% @Bool.true_and:=@Bool.true_and
theorem Xce:type_of% @List.getElem_range:=@List.getElem_range
theorem Xcf:type_of% @List.length_filter_le:=@List.length_filter_le
theorem Xcg:type_of% @Bool.and_eq_true_iff:=@Bool.and_eq_true_iff
theorem Xch:type_of% @List.contains_eq_mem:=@List.contains_eq_mem
theorem Xci:type_of% @List.foldl_append:=@List.foldl_append
theorem Xcj:type_of% @Nat.lt_trichotomy:=@Nat.lt_trichotomy
theorem Xck:type_of% @Nat.lt_or_ge:=@Nat.lt_or_ge
theorem Xcl:type_of% @List.filter_eq_self:=@List.filter_eq_self
theorem Xcm:type_of% @List.filter_sublist:=@List.filter_sublist
theorem Xcn:type_of% @List.length_pos_iff:=@List.length_pos_iff
theorem Xco:type_of% @Nat.mul_le_mul_left:=@Nat.mul_le_mul_left
theorem Xcp:type_of% @List.any_eq_true:=@List.any_eq_true
theorem Xcq:type_of% @List.drop_length:=@List.drop_length
theorem Xcr:type_of% @List.isEmpty_iff:=@List.isEmpty_iff
theorem Xcs:type_of% @Array.ext':=@Array.ext'
theorem Xct:type_of% @congrArg:=@congrArg
theorem Xcu:type_of% @Int.lt_or_le:=@Int.lt_or_le
theorem Xcv:type_of% @List.cons.injEq:=@List.cons.injEq
theorem Xcw:type_of% @Nat.sub_self:=@Nat.sub_self
theorem Xcx:type_of% @Nat.sub_zero:=@Nat.sub_zero
theorem Xcy:type_of% @and_self:=@and_self
open Go
inductive Md where
 | own
 | imm
 | bor
 | snap (e:Nat)
inductive AV where
 | any
 | bool (b:Bool)
 | int (k:IntKind) (n:Int)
 | str (s:ByteArray)
 | sl (m:Md) (sz:Nat) (xs:List (List AV))
 | ref (id:Nat)
 | view (id lo len:Nat)
 | ptr (id i off:Nat)
 | bptr (m:Md) (row:List AV) (off:Nat)
 | agg (cs:List AV)
 | tup (vs:List AV)
 | cellp (cells:List AV)
 | mapr (id:Nat)
 | fn (k:Nat)
 | inn (e id i off:Nat)
 | ifs (kl id:Nat)
 | clo (kl id:Nat)
 | cut (id n:Nat)
 | inp (e id i off j sz:Nat)
inductive AO where
 | box (cells:List AV)
 | arr (sz:Nat) (xs:List (List AV))
 | map (kb:Bool) (kvs:ByteArray->Option AV)
structure St where
 slots:Nat->AV
 heap:Nat->Option AO
 ep:Nat
 next:Nat
 base:Nat
def upd{α:Type}(f:Nat->α)(k:Nat)(v:α):Nat->α:=fun j=>if j=k then v else f j
inductive CK where
 | i
 | s
 | b
 deriving DecidableEq
inductive Opd where
 | tmp (t:Nat)
 | const (v:AV)
inductive Hint where
 | plain
 | take
 | share
 | freeze
inductive COp where
 | mov (x:Opd)
 | nilck (x:Opd)
 | pick (c a b:Opd)
 | bin (op:BinOp) (x y:Opd)
 | beq (neg:Bool) (x y:Opd)
 | eqs (neg:Bool) (ks:List CK) (x y:Opd)
 | un (op:UnOp) (x:Opd)
 | conv (k:IntKind) (x:Opd)
 | toStr (x:Opd)
 | sconv (x:Opd)
 | alloc (zs:List AV)
 | box (x:Opd)
 | build (zs:List AV) (parts:List (Nat×Nat×Opd))
 | bslice (sz:Nat) (zs:List AV) (len:Nat) (parts:List (Nat×Opd))
 | mksl (sz:Nat) (zs:List AV) (bytes:Nat) (l:Opd)
 | load (x:Opd) (sz:Nat) (agg:Bool) (hint:Hint)
 | store (a x:Opd) (sz:Nat)
 | faddr (x:Opd) (off:Nat)
 | iaddr (sz:Nat) (x i:Opd)
 | sidx (x i:Opd)
 | slice (sz:Nat) (x:Opd) (lo hi:Option Opd)
 | sslice (x:Opd) (lo hi:Option Opd)
 | len (str:Bool) (x:Opd)
 | append (sz bytes:Nat) (flat:Bool) (s x:Opd)
 | ext (x:Opd) (i:Nat)
 | mx (hi:Bool) (x y:Opd)
 | mkmap (kb:Bool)
 | lookup (kb:Bool) (z:AV) (m k:Opd)
 | mapset (kb:Bool) (m k v:Opd)
 | call (k:Nat) (modes:List Bool) (args:List Opd)
 | callf (f:Opd) (modes:List Bool) (args:List Opd)
 | callin (k:Nat) (x:Opd) (args:List Opd)
 | mkifs (kl:Nat) (x:Opd)
 | mkclo (kl:Nat) (x:Opd)
 | cut3 (sz:Nat) (x hi mx:Opd)
 | blank (sz:Nat) (x:Opd)
 | soft (sz:Nat) (x:Opd)
 | fslice (sz:Nat) (x lo:Opd)
 | sortc (kl o c sz:Nat) (x y:Opd)
structure CIns where
 dst:Option Nat
 op:COp
 guard:Option (Nat×Bool)
inductive CCode where
 | skip
 | region (ops:List CIns) (keep:List Nat)
 | quiet (ops:List CIns) (keep:List Nat)
 | loud (ops:List CIns) (deps:List Nat) (keep:List Nat)
 | seq (a b:CCode)
 | cond (c:Opd) (thn els:CCode)
 | block (id:Nat) (body:CCode)
 | loop (keep:List Nat) (body:CCode)
 | exit (id:Nat)
 | ret
inductive CRes where
 | tmp (t:Nat)
 | cell (t:Nat) (sz:Nat) (agg:Bool)
structure CFn where
 nt:Nat
 res:List CRes
 body:CCode
inductive AExit where
 | normal
 | exit (id:Nat)
 | ret
/-! ### Small helpers -/
def Opd.ev(g:Nat->AV):Opd->AV
 | .tmp t=>g t
 | .const v=>v
def AV.parts:AV->Option (List AV)
 | .agg cs=>some cs
 | .any=>none
 | .tup _=>none
 | .cellp _=>none
 | v=>some [v]
def AV.lend(m:Md):AV->AV
 | .sl _ sz xs=>.sl m sz xs
 | v=>v
def AV.lendO(ep:Nat):AV->AV
 | .sl .own sz xs=>.sl (.snap ep) sz xs
 | v=>v
def AV.frz:AV->AV
 | .sl .own sz xs=>.sl .imm sz xs
 | v=>v
def AV.soft(ep:Nat):AV->AV
 | .sl .imm sz xs=>.sl (.snap ep) sz xs
 | v=>v
def Md.ok(ep:Nat):Md->Bool
 | .own=>false
 | .imm=>true
 | .bor=>true
 | .snap e=>e == ep
def Md.isSnap:Md->Bool
 | .snap _=>true
 | _=>false
def distinct:List Nat->Bool
 | []=>true
 | i::is=>!(is.contains i) && distinct is
def kill(is:List Nat):List (Nat×Option AO):=is.map fun i=>(i,none)
def lay(cs:List AV)(off:Nat)(vs:List AV):List AV:=cs.take off++(vs++cs.drop (off+vs.length))
def absorb1(h:Nat->Option AO):AV->Option (AV×List Nat)
 | .ref id=>match h id with
  | some (.arr sz xs)=>some (.sl .own sz xs,[id])
  | _=>none
 | .bool b=>some (.bool b,[])
 | .int k n=>some (.int k n,[])
 | .str s=>some (.str s,[])
 | .sl .own sz []=>some (.sl .own sz [],[])
 | .sl .imm sz xs=>some (.sl .imm sz xs,[])
 | _=>none
def absorb(h:Nat->Option AO):List AV->Option (List AV×List Nat)
 | []=>some ([],[])
 | c::cs=>match absorb1 h c with
  | none=>none
  | some (d,i)=>match absorb h cs with
   | none=>none
   | some (ds,is)=>some (d::ds,i++is)
structure Out where
 v:AV
 ws:List (Nat×Option AO)
 bump:Bool
def Out.val(v:AV):Option Out:=some ⟨v,[],false⟩
def Out.opt:Option AV->Option Out
 | some v=>some ⟨v,[],false⟩
 | none=>none
def sEq(x y:ByteArray):Bool:=x.toList == y.toList
def sLt(x y:ByteArray):Bool:=Op.bytesLess x.toList y.toList
def binInt(op:BinOp)(k:IntKind)(a b:Int):Option AV :=
 match op with
 | .add=>some (.int k (k.wrap (a+b)))
 | .sub=>some (.int k (k.wrap (a-b)))
 | .mul=>some (.int k (k.wrap (a*b)))
 | .quo=>if b=0 then none else some (.int k (k.wrap (a.tdiv b)))
 | .rem=>if b=0 then none else some (.int k (a.tmod b))
 | .xor=>some (.int k (k.wrap (BitVec.ofInt k.bits a ^^^ BitVec.ofInt k.bits b).toNat))
 | .eql=>some (.bool (a == b))
 | .neq=>some (.bool (a != b))
 | .lss=>some (.bool (decide (a<b)))
 | .leq=>some (.bool (decide (a<=b)))
 | .gtr=>some (.bool (decide (a > b)))
 | .geq=>some (.bool (decide (a >= b)))
 | _=>none
def binStr(op:BinOp)(x y:ByteArray):Option AV :=
 match op with
 | .add=>if x.size+y.size<=9223372036854775807 then some (.str (x++y)) else none
 | .eql=>some (.bool (sEq x y))
 | .neq=>some (.bool (!sEq x y))
 | .lss=>some (.bool (sLt x y))
 | .leq=>some (.bool (sLt x y || sEq x y))
 | .gtr=>some (.bool (!(sLt x y || sEq x y)))
 | .geq=>some (.bool (!sLt x y))
 | _=>none
def binAV(op:BinOp):AV->AV->Option AV
 | .int k a,.int k' b=>match op with
  | .shl=>if b<0 then none else some (.int k (k.wrap (a*2 ^ min b.toNat k.bits)))
  | .shr=>if b<0 then none else some (.int k (a.fdiv (2 ^ min b.toNat k.bits)))
  | op=>if k=k' then binInt op k a b else none
 | .str x,.str y=>binStr op x y
 | _,_=>none
def eqCell:CK->AV->AV->Option Bool
 | .i,.int k a,.int k' b=>if k=k' then some (a == b) else none
 | .s,.str x,.str y=>some (sEq x y)
 | .b,.bool a,.bool b=>some (a == b)
 | _,_,_=>none
def eqCells:List CK->List AV->List AV->Option Bool
 | [],[],[]=>some true
 | k::ks,c::cs,d::ds=>match eqCell k c d with
  | some true=>eqCells ks cs ds
  | some false=>if ks.length=cs.length/\ks.length=ds.length then some false else none
  | none=>none
 | _,_,_=>none
def content(h:Nat->Option AO)(ep:Nat):AV->Option (Nat×List (List AV))
 | .ref id=>match h id with
  | some (.arr sz xs)=>some (sz,xs)
  | _=>none
 | .view id lo len=>match h id with
  | some (.arr sz xs)=>if lo+len<=xs.length then some (sz,(xs.drop lo).take len) else none
  | _=>none
 | .sl .own sz []=>some (sz,[])
 | .sl m sz xs=>if m.ok ep then some (sz,xs) else none
 | _=>none
def AV.id?:AV->List Nat
 | .ref id=>[id]
 | .view id _ _=>[id]
 | .ptr id _ _=>[id]
 | .mapr id=>[id]
 | .inn _ id _ _=>[id]
 | .ifs _ id=>[id]
 | .clo _ id=>[id]
 | .cut id _=>[id]
 | .inp _ id _ _ _ _=>[id]
 | _=>[]
def AO.isArr:AO->Bool
 | .arr _ _=>true
 | _=>false
/-! ### Calls: arguments out, results in -/
def lend1(h:Nat->Option AO)(ep:Nat):AV->Option AV
 | .bool b=>some (.bool b)
 | .int k n=>some (.int k n)
 | .str s=>some (.str s)
 | .fn k=>some (.fn k)
 | .sl .imm sz xs=>some (.sl .imm sz xs)
 | v=>match content h ep v with
  | some (sz,xs)=>some (.sl .bor sz xs)
  | none=>none
def lendL(h:Nat->Option AO)(ep:Nat):List AV->Option (List AV)
 | []=>some []
 | c::cs=>match lend1 h ep c with
  | none=>none
  | some d=>match lendL h ep cs with
   | none=>none
   | some ds=>some (d::ds)
def lendV(h:Nat->Option AO)(ep:Nat):AV->Option AV
 | .agg cs=>match lendL h ep cs with
  | some ds=>some (.agg ds)
  | none=>none
 | v=>lend1 h ep v
def give1(h:Nat->Option AO)(n:Nat):AV->Option (AV×List Nat×List AO)
 | .bool b=>some (.bool b,[],[])
 | .int k m=>some (.int k m,[],[])
 | .str s=>some (.str s,[],[])
 | .sl .own sz []=>some (.sl .own sz [],[],[])
 | .sl .imm sz xs=>some (.sl .imm sz xs,[],[])
 | .ref id=>match h id with
  | some (.arr sz xs)=>some (.ref n,[id],[.arr sz xs])
  | _=>none
 | _=>none
def giveL(h:Nat->Option AO)(n:Nat):List AV->Option (List AV×List Nat×List AO)
 | []=>some ([],[],[])
 | c::cs=>match give1 h n c with
  | none=>none
  | some (d,is,os)=>match giveL h (n+is.length) cs with
   | none=>none
   | some (ds,js,ps)=>some (d::ds,is++js,os++ps)
def giveV(h:Nat->Option AO)(n:Nat):AV->Option (AV×List Nat×List AO)
 | .agg cs=>match giveL h n cs with
  | some (ds,is,os)=>some (.agg ds,is,os)
  | none=>none
 | .ptr id 0 0=>match h id with
  | some (.box cells)=>match giveL h (n+1) cells with
   | some (ds,is,os)=>some (.ptr n 0 0,id::is,.box ds::os)
   | none=>none
  | _=>none
 | v=>give1 h n v
def AV.ids:AV->List Nat
 | .agg cs=>cs.flatMap AV.id?
 | v=>v.id?
def AV.snaps1:AV->Bool
 | .sl m _ _=>m.isSnap
 | .inn ..=>true
 | .inp ..=>true
 | _=>false
def AV.snaps:AV->Bool
 | .agg cs=>cs.any AV.snaps1
 | v=>v.snaps1
structure Given where
 args:List AV
 ids:List Nat
 objs:List AO
 looks:List Nat
 snaps:Bool
def passArgs(h:Nat->Option AO)(ep:Nat)(n:Nat):List Bool->List AV->Option Given
 | true::ms,v::vs=>match giveV h n v with
  | none=>none
  | some (d,is,os)=>match passArgs h ep (n+is.length) ms vs with
   | none=>none
   | some g=>some ⟨d::g.args,is++g.ids,os++g.objs,g.looks,g.snaps⟩
 | false::ms,v::vs=>match lendV h ep v with
  | none=>none
  | some d=>match passArgs h ep n ms vs with
   | none=>none
   | some g=>some ⟨d::g.args,g.ids,g.objs,v.ids++g.looks,v.snaps || g.snaps⟩
 | [],[]=>some ⟨[],[],[],[],false⟩
 | _,_=>none
def open1(key:Nat):AV->AV×List (Nat×Option AO)
 | .sl .own sz xs=>(.ref key,[(key,some (.arr sz xs))])
 | v=>(v,[])
def openL(key:Nat):List AV->List AV×List (Nat×Option AO)
 | []=>([],[])
 | c::cs=>((open1 key c).1::(openL (key+(open1 key c).2.length) cs).1,(open1 key c).2++(openL (key+(open1 key c).2.length) cs).2)
def openV(key:Nat):AV->AV×List (Nat×Option AO)
 | .agg cs=>(.agg (openL key cs).1,(openL key cs).2)
 | .cellp cs=>(.ptr key 0 0,(key,some (.box (openL (key+1) cs).1))::(openL (key+1) cs).2)
 | v=>open1 key v
def openT(key:Nat):List AV->List AV×List (Nat×Option AO)
 | []=>([],[])
 | c::cs=>((openV key c).1::(openT (key+(openV key c).2.length) cs).1,(openV key c).2++(openT (key+(openV key c).2.length) cs).2)
def openR(key:Nat):AV->AV×List (Nat×Option AO)
 | .tup vs=>(.tup (openT key vs).1,(openT key vs).2)
 | v=>openV key v
def takeBack(key:Nat):List Nat->List (Option AO)->List (Nat×Option AO)×List (Nat×Option AO)
 | id::is,o::os=>match o with
  | some (.box cells)=>((id,some (.box (openL key cells).1))::(takeBack (key+(openL key cells).2.length) is os).1,(openL key cells).2++(takeBack (key+(openL key cells).2.length) is os).2)
  | o=>((id,o)::(takeBack key is os).1,(takeBack key is os).2)
 | _,_=>([],[])
abbrev Callee:=Nat->List AV->List AO->Option (AV×List (Option AO))
def semCall(cl:Callee)(k:Nat)(modes:List Bool)(vs:List AV)(key:Nat)(h:Nat->Option AO)(ep:Nat):Option Out :=
 match passArgs h ep 0 modes vs with
 | none=>none
 | some g =>
  if distinct g.ids && g.ids.all (fun i=>!g.looks.contains i) && (!g.objs.any AO.isArr || !g.snaps) then
   match cl k g.args g.objs with
   | none=>none
   | some (r,outs) =>
    if outs.length=g.ids.length then
     let back:=takeBack (key+(openR key r).2.length) g.ids outs
     if (openR key r).2.length+back.2.length<=64 then some ⟨(openR key r).1,back.1++((openR key r).2++back.2),g.objs.any AO.isArr⟩ else none
    else none
  else none
def evL(g:Nat->AV):List Opd->List AV
 | []=>[]
 | o::os=>o.ev g::evL g os
/-! ### The operations -/
def fillParts(g:Nat->AV):List AV->List (Nat×Nat×Opd)->Option (List AV)
 | cs,[]=>some cs
 | cs,(off,n,x)::ps=>match (x.ev g).parts with
  | some vs=>if vs.length=n/\off+n<=cs.length then fillParts g (lay cs off vs) ps else none
  | none=>none
def fillRows(h:Nat->Option AO)(g:Nat->AV)(sz:Nat):List (List AV)->List (Nat×Opd)->Option (List (List AV)×List Nat)
 | rows,[]=>some (rows,[])
 | rows,(i,x)::ps=>match (x.ev g).parts with
  | none=>none
  | some vs=>match absorb h vs with
   | none=>none
   | some (row,is)=>if row.length=sz/\i<rows.length then
     match fillRows h g sz (rows.set i row) ps with
     | none=>none
     | some (rs,js)=>some (rs,is++js)
    else none
def toBytes:List (List AV)->Option (List UInt8)
 | []=>some []
 | [.int .u8 n]::r=>match toBytes r with
  | some bs=>some (UInt8.ofNat n.toNat::bs)
  | none=>none
 | _=>none
def loadFrom(cs:List AV)(off sz:Nat)(agg:Bool):Option AV :=
 if agg then (if off+sz<=cs.length then some (.agg ((cs.drop off).take sz)) else none) else cs[off]?
def lendA(m:Md):AV->AV
 | .agg cs=>.agg (cs.map (AV.lend m))
 | v=>v.lend m
def lendAO(ep:Nat):AV->AV
 | .agg cs=>.agg (cs.map (AV.lendO ep))
 | v=>v.lendO ep
def slBounds(lo hi:Option AV)(n:Nat):Option (Nat×Nat) :=
 match hi with
 | some (.int _ b)=>match lo with
  | some (.int _ a)=>if 0<=a/\a<=b/\b<=n then some (a.toNat,b.toNat) else none
  | none=>if 0<=b/\b<=n then some (0,b.toNat) else none
  | _=>none
 | none=>match lo with
  | some (.int _ a)=>if 0<=a/\a<=n then some (a.toNat,n) else none
  | none=>some (0,n)
  | _=>none
 | _=>none
def AV.plain:AV->Bool
 | .bool _=>true
 | .int _ _=>true
 | .str _=>true
 | _=>false
def rowsPlain(xs:List (List AV)):Bool:=xs.all fun row=>row.all AV.plain
def takeRows(h:Nat->Option AO)(ep:Nat)(flat:Bool)(x:AV):Option (Nat×List (List AV)×List (Nat×Option AO)) :=
 match flat,x with
 | false,.ref id=>match h id with
  | some (.arr sz xs)=>some (sz,xs,[(id,none)])
  | _=>none
 | false,.view id lo len=>match h id with
  | some (.arr sz xs)=>if lo+len<=xs.length then
    some (sz,(xs.drop lo).take len,[(id,some (.arr sz (xs.take lo++(List.replicate len (List.replicate sz .any)++xs.drop (lo+len)))))])
   else none
  | _=>none
 | false,.sl .own sz []=>some (sz,[],[])
 | false,_=>none
 | true,x=>match content h ep x with
  | some (sz,xs)=>if rowsPlain xs then some (sz,xs,[]) else none
  | none=>none
def bkey(b:Bool):ByteArray:=if b then ⟨#[1]⟩ else ⟨#[0]⟩
def keyOf:Bool->AV->Option ByteArray
 | false,.str s=>some s
 | true,.bool b=>some (bkey b)
 | _,_=>none
def noKeys:ByteArray->Option AV:=fun _=>none
def mapGet(k:ByteArray)(m:ByteArray->Option AV):Option AV:=m k
def mapPut(k:ByteArray)(v:AV)(m:ByteArray->Option AV):ByteArray->Option AV:=fun x=>if sEq x k then some v else m x
theorem Zi1(k j:ByteArray)(v:AV)(m:ByteArray->Option AV):mapGet k (mapPut j v m)=if sEq k j then some v else mapGet k m:=rfl
def listGet(k:ByteArray):List (ByteArray×AV)->Option AV
 | []=>none
 | (k',v)::r=>if sEq k k' then some v else listGet k r
def listPut(k:ByteArray)(v:AV):List (ByteArray×AV)->List (ByteArray×AV)
 | []=>[(k,v)]
 | (k',v')::r=>if sEq k k' then (k,v)::r else (k',v')::listPut k v r
/-! ### Sorting by a text -/
def keyAt(c:Nat)(row:List AV):Option ByteArray:=match row[c]? with
 | some (.str s)=>some s
 | _=>none
def keysApart(c:Nat):List (List AV)->Bool
 | []=>true
 | r::rs=>(keyAt c r).isSome && (rs.all (fun r'=>!sEq ((keyAt c r).getD ByteArray.empty) ((keyAt c r').getD ByteArray.empty)) && keysApart c rs)
def rowLt(c:Nat)(r r':List AV):Bool:=sLt ((keyAt c r).getD ByteArray.empty) ((keyAt c r').getD ByteArray.empty)
def insRow(c:Nat)(r:List AV):List (List AV)->List (List AV)
 | []=>[r]
 | x::xs=>if rowLt c r x then r::x::xs else x::insRow c r xs
def sortRows(c:Nat):List (List AV)->List (List AV)
 | []=>[]
 | r::rs=>insRow c r (sortRows c rs)
def isRef(id:Nat):Option AV->Bool
 | some (.ref j)=>j == id
 | _=>false
def sortTab:List (Nat×Nat×Nat×Nat):=[(183,2,0,3),(184,0,0,5),(248,0,0,4),(247,0,0,11),(246,0,0,7)]
def sem(cl:Callee)(o:COp)(key:Nat)(g:Nat->AV)(h:Nat->Option AO)(ep:Nat):Option Out :=
 match o with
 | .mov x=>Out.val (x.ev g)
 | .nilck x=>match x.ev g with
  | .ptr id i off=>match h id with
   | some (.box _)=>Out.val (.ptr id i off)
   | some (.arr _ _)=>Out.val (.ptr id i off)
   | _=>none
  | .bptr m row off=>if m.ok ep then Out.val (.bptr m row off) else none
  | _=>none
 | .pick c a b=>match c.ev g with
  | .bool t=>Out.val (if t then a.ev g else b.ev g)
  | _=>none
 | .bin op x y=>Out.opt (binAV op (x.ev g) (y.ev g))
 | .beq neg x y=>match x.ev g,y.ev g with
  | .bool a,.bool b=>Out.val (.bool (if neg then !(a == b) else a == b))
  | _,_=>none
 | .eqs neg ks x y=>match x.ev g,y.ev g with
  | .agg cs,.agg ds=>match eqCells ks cs ds with
   | some b=>Out.val (.bool (if neg then !b else b))
   | none=>none
  | _,_=>none
 | .un op x=>match op,x.ev g with
  | .not,.bool b=>Out.val (.bool !b)
  | .neg,.int k n=>Out.val (.int k (k.wrap (0-n)))
  | _,_=>none
 | .conv k x=>match x.ev g with
  | .int _ n=>Out.val (.int k (k.wrap n))
  | _=>none
 | .toStr x=>match content h ep (x.ev g) with
  | some (_,xs)=>match toBytes xs with
   | some bs=>Out.val (.str ⟨bs.toArray⟩)
   | none=>none
  | none=>none
 | .sconv x=>match x.ev g with
  | .str s=>Out.val (.str s)
  | _=>none
 | .alloc zs=>some ⟨.ptr key 0 0,[(key,some (.box zs))],false⟩
 | .box x=>match (x.ev g).parts with
  | some vs=>some ⟨.ptr key 0 0,[(key,some (.box vs))],false⟩
  | none=>none
 | .build zs parts=>match fillParts g zs parts with
  | some cs=>Out.val (.agg cs)
  | none=>none
 | .bslice sz zs len parts=>match fillRows h g sz (List.replicate len zs) parts with
  | some (rows,is)=>if distinct is then some ⟨.ref key,(key,some (.arr sz rows))::kill is,false⟩ else none
  | none=>none
 | .mksl sz zs bytes l=>match l.ev g with
  | .int .i64 n=>if 0<=n/\n*bytes<=140737488355328 then some ⟨.ref key,[(key,some (.arr sz (List.replicate n.toNat zs)))],false⟩ else none
  | _=>none
 | .load x sz agg hint=>match x.ev g with
  | .ptr id i off=>match h id with
   | some (.box cells)=>if i=0 then Out.opt (loadFrom cells off sz agg) else none
   | some (.arr sz' xs)=>match xs[i]? with
    | none=>none
    | some row=>match hint with
     | .plain=>match loadFrom row off sz agg with
      | some v=>Out.val (lendAO ep v)
      | none=>none
     | .take=>match row[off]? with
      | some (.sl .own sz2 ys)=>some ⟨.ref key,[(id,some (.arr sz' (xs.set i (row.set off .any)))),(key,some (.arr sz2 ys))],true⟩
      | _=>none
     | .share=>match row[off]? with
      | some (.sl .own _ _)=>Out.val (.inn ep id i off)
      | _=>none
     | .freeze=>match loadFrom (row.map AV.frz) off sz agg with
      | some v=>some ⟨v,[(id,some (.arr sz' (xs.map (·.map AV.frz))))],true⟩
      | none=>none
   | _=>none
  | .bptr m row off=>if m.ok ep then (match loadFrom row off sz agg with
   | some v=>Out.val (lendA m v)
   | none=>none) else none
  | _=>none
 | .store a x sz=>match a.ev g,(x.ev g).parts with
  | .ptr id i off,some vs=>if vs.length=sz then match h id with
   | some (.box cells)=>if i=0/\off+sz<=cells.length then some ⟨.any,[(id,some (.box (lay cells off vs)))],false⟩ else none
   | some (.arr sz' xs)=>match xs[i]? with
    | none=>none
    | some row=>match absorb h vs with
     | none=>none
     | some (us,is)=>if off+sz<=row.length/\distinct (id::is) then
       some ⟨.any,(id,some (.arr sz' (xs.set i (lay row off us))))::kill is,true⟩ else none
   | _=>none
   else none
  | .inp e id i off j sz2,some vs=>if vs.length=sz/\e=ep/\vs.all AV.plain then match h id with
   | some (.arr sz' xs)=>match xs[i]? with
    | none=>none
    | some row=>match row[off]? with
     | some (.sl .own sz3 ys)=>if j<ys.length/\sz3=sz2/\sz=sz2/\rowsPlain ys=true then some ⟨.any,[(id,some (.arr sz' (xs.set i (row.set off (.sl .own sz3 (ys.set j vs))))))],true⟩ else none
     | _=>none
   | _=>none
   else none
  | _,_=>none
 | .faddr x n=>match x.ev g with
  | .ptr id i off=>match h id with
   | some (.box _)=>Out.val (.ptr id i (off+n))
   | some (.arr _ _)=>Out.val (.ptr id i (off+n))
   | _=>none
  | .bptr m row off=>if m.ok ep then Out.val (.bptr m row (off+n)) else none
  | _=>none
 | .iaddr sz x i=>match i.ev g with
  | .int _ n=>if 0<=n then match x.ev g with
   | .ref id=>match h id with
    | some (.arr sz' xs)=>if n.toNat<xs.length/\sz'=sz then Out.val (.ptr id n.toNat 0) else none
    | _=>none
   | .view id lo len=>match h id with
    | some (.arr sz' xs)=>if n.toNat<len/\lo+len<=xs.length/\sz'=sz then Out.val (.ptr id (lo+n.toNat) 0) else none
    | _=>none
   | .sl m sz' xs=>if m.ok ep/\sz'=sz then match xs[n.toNat]? with
    | some row=>Out.val (.bptr m row 0)
    | none=>none
    else none
   | .inn e id k off=>if e=ep then match h id with
    | some (.arr _ xs)=>match xs[k]? with
     | none=>none
     | some row=>match row[off]? with
      | some (.sl .own sz2 ys)=>if n.toNat<ys.length/\sz2=sz then Out.val (.inp e id k off n.toNat sz2) else none
      | _=>none
    | _=>none
    else none
   | _=>none
   else none
  | _=>none
 | .sidx x i=>match x.ev g,i.ev g with
  | .str s,.int _ n=>if 0<=n then match s.data.toList[n.toNat]? with
   | some b=>Out.val (.int .u8 b.toNat)
   | none=>none
   else none
  | _,_=>none
 | .sslice x lo hi=>match x.ev g with
  | .str s=>match slBounds (lo.map (·.ev g)) (hi.map (·.ev g)) s.size with
   | some (a,b)=>Out.val (.str (s.extract a b))
   | none=>none
  | _=>none
 | .slice sz x lo hi=>match x.ev g with
  | .ref id=>match h id with
   | some (.arr sz' xs)=>if sz'=sz then match slBounds (lo.map (·.ev g)) (hi.map (·.ev g)) xs.length with
    | some (a,b)=>Out.val (.view id a (b-a))
    | none=>none
    else none
   | _=>none
  | .view id l n=>match h id with
   | some (.arr sz' xs)=>if l+n<=xs.length/\sz'=sz then match slBounds (lo.map (·.ev g)) (hi.map (·.ev g)) n with
    | some (a,b)=>Out.val (.view id (l+a) (b-a))
    | none=>none
    else none
   | _=>none
  | .sl .own sz' []=>if sz'=sz then match slBounds (lo.map (·.ev g)) (hi.map (·.ev g)) 0 with
   | some _=>Out.val (.sl .own sz' [])
   | none=>none
   else none
  | .sl m sz' xs=>if m.ok ep/\sz'=sz then match slBounds (lo.map (·.ev g)) (hi.map (·.ev g)) xs.length with
   | some (a,b)=>Out.val (.sl m sz' ((xs.drop a).take (b-a)))
   | none=>none
   else none
  | _=>none
 | .len true x=>match x.ev g with
  | .str s=>Out.val (.int .i64 s.size)
  | _=>none
 | .len false x=>match content h ep (x.ev g) with
  | some (_,xs)=>Out.val (.int .i64 xs.length)
  | none=>none
 | .append sz bytes flat s x=>match takeRows h ep flat (x.ev g) with
  | none=>none
  | some (sz',ys,ws)=>if sz'=sz\/ys=[] then match s.ev g with
   | .sl .own _ []=>if ys.length*bytes<=140737488355328/\ys.length<=140737488355328 then some ⟨.ref key,(key,some (.arr sz ys))::ws,true⟩ else none
   | .cut id n=>match h id with
    | some (.arr sz2 xs)=>if n<=xs.length/\(n+ys.length)*bytes<=140737488355328/\n+ys.length<=140737488355328/\ws.all (fun w=>w.1 != id)/\sz2=sz then
      some ⟨.ref key,(key,some (.arr sz (xs.take n++ys)))::(id,none)::ws,true⟩ else none
    | _=>none
   | .ref id=>match h id with
    | some (.arr sz2 xs)=>if (xs.length+ys.length)*bytes<=140737488355328/\xs.length+ys.length<=140737488355328/\ws.all (fun w=>w.1 != id)/\sz2=sz then
      some ⟨.ref key,(key,some (.arr sz (xs++ys)))::(id,none)::ws,true⟩ else none
    | _=>none
   | _=>none
   else none
 | .ext x i=>match x.ev g with
  | .tup vs=>Out.opt vs[i]?
  | _=>none
 | .mx hi x y=>match x.ev g,y.ev g with
  | .int k a,.int _ b=>Out.val (.int k (if hi then (if b > a then b else a) else (if b<a then b else a)))
  | _,_=>none
 | .mkmap kb=>some ⟨.mapr key,[(key,some (.map kb noKeys))],false⟩
 | .lookup kb z m k=>match m.ev g,keyOf kb (k.ev g) with
  | .mapr id,some s=>match h id with
   | some (.map kb' kvs)=>if kb'=kb then Out.val ((mapGet s kvs).getD z) else none
   | _=>none
  | _,_=>none
 | .mapset kb m k v=>match m.ev g,keyOf kb (k.ev g) with
  | .mapr id,some s=>match h id with
   | some (.map kb' kvs)=>if kb'=kb/\(v.ev g).plain=true then some ⟨.any,[(id,some (.map kb (mapPut s (v.ev g) kvs)))],false⟩ else none
   | _=>none
  | _,_=>none
 | .call k modes args=>semCall cl k modes (evL g args) key h ep
 | .callf f modes args=>match f.ev g with
  | .fn k=>semCall cl k modes (evL g args) key h ep
  | _=>none
 | .callin k x args=>match x.ev g with
  | .inn e id i off=>if e=ep/\(evL g args).all AV.plain then match h id with
   | some (.arr sz xs)=>match xs[i]? with
    | none=>none
    | some row=>match row[off]? with
     | some (.sl .own sz2 zs)=>match cl k (.ref 0::evL g args) [.arr sz2 zs] with
      | some (r,[some (.arr sz3 zs')])=>if r.plain/\sz3=sz2 then some ⟨r,[(id,some (.arr sz (xs.set i (row.set off (.sl .own sz2 zs')))))],true⟩ else none
      | _=>none
     | _=>none
   | _=>none
   else none
  | _=>none
 | .mkifs kl x=>match x.ev g with
  | .ref id=>match h id with
   | some (.arr _ _)=>Out.val (.ifs kl id)
   | _=>none
  | _=>none
 | .mkclo kl x=>match x.ev g with
  | .ptr id 0 0=>match h id with
   | some (.box _)=>Out.val (.clo kl id)
   | _=>none
  | _=>none
 | .blank sz x=>match x.ev g with
  | .ptr id 0 off=>match h id with
   | some (.box cells)=>match loadFrom cells off sz true with
    | some (.agg cs)=>Out.val (.agg (cs.map fun _=>.any))
    | _=>none
   | _=>none
  | _=>none
 | .soft sz x=>match x.ev g with
  | .ptr id 0 off=>match h id with
   | some (.box cells)=>match loadFrom cells off sz true with
    | some (.agg cs)=>Out.val (.agg (cs.map (AV.soft ep)))
    | _=>none
   | _=>none
  | _=>none
 | .fslice sz x lo=>match x.ev g,lo.ev g with
  | .ref id,.int _ a=>match h id with
   | some (.arr sz' xs)=>if sz'=sz/\0<=a/\a<=xs.length then some ⟨.sl .imm sz (xs.drop a.toNat),[(id,none)],true⟩ else none
   | _=>none
  | _,_=>none
 | .cut3 sz x hi mx=>match x.ev g with
  | .ref id=>match h id with
   | some (.arr sz' xs)=>match hi.ev g,mx.ev g with
    | .int _ n,.int _ n2=>if sz'=sz/\n=n2/\0<=n/\n<=xs.length then Out.val (.cut id n.toNat) else none
    | _,_=>none
   | _=>none
  | _=>none
 | .sortc kl o c sz x y=>match x.ev g,y.ev g with
  | .ifs k1 id,.clo k2 b=>match h id,h b with
   | some (.arr sz' xs),some (.box cells) =>
    if k1=kl/\k2=kl/\sortTab.contains (kl,o,c,sz)=true/\sz'=sz/\isRef id cells[o]?=true/\xs.isEmpty=false/\xs.length<=1000000000/\keysApart c xs=true then
     some ⟨.tup [],[(id,some (.arr sz (sortRows c xs)))],true⟩ else none
   | _,_=>none
  | _,_=>none
/-! ### Regions -/
def wsOn(h:Nat->Option AO):List (Nat×Option AO)->Nat->Option AO
 | []=>h
 | (i,o)::ws=>wsOn (upd h i o) ws
def putTo(g:Nat->AV)(dst:Option Nat)(v:AV):Nat->AV :=
 match dst with
 | some d=>upd g d v
 | none=>g
def guardA(g:Nat->AV):Option (Nat×Bool)->Option Bool
 | none=>some true
 | some (t,b)=>match g t with
  | .bool c=>some (c == b)
  | .tup []=>some false
  | _=>none
def keepSlots(g:Nat->AV):List Nat->Nat->AV
 | []=>fun _=>.any
 | t::ts=>upd (keepSlots g ts) t (g t)
def St.forget(s:St)(keep:List Nat)(n:Nat):St:=⟨keepSlots s.slots keep,s.heap,s.ep,n,s.base⟩
def Out.app(o:Out)(dst:Option Nat)(s:St):St:=⟨putTo s.slots dst o.v,wsOn s.heap o.ws,if o.bump then s.ep+1 else s.ep,s.next,s.base⟩
def stepIns(cl:Callee)(i:CIns)(key:Nat)(s:St):Option St :=
 match guardA s.slots i.guard with
 | some true=>match sem cl i.op key s.slots s.heap s.ep with
  | some o=>some (o.app i.dst s)
  | none=>none
 | some false=>some ⟨putTo s.slots i.dst (.tup []),s.heap,s.ep,s.next,s.base⟩
 | none=>none
def runIns(cl:Callee):List CIns->Nat->St->Option St
 | [],_,s=>some s
 | i::is,key,s=>match stepIns cl i key s with
  | some s'=>runIns cl is (key+64) s'
  | none=>none
def stepQuiet(cl:Callee)(i:CIns)(key:Nat)(s:St):Option St :=
 match guardA s.slots i.guard with
 | some true=>match sem cl i.op key s.slots s.heap s.ep with
  | some ⟨v,[],false⟩=>some ⟨putTo s.slots i.dst v,s.heap,s.ep,s.next,s.base⟩
  | _=>none
 | some false=>some ⟨putTo s.slots i.dst (.tup []),s.heap,s.ep,s.next,s.base⟩
 | none=>none
def runQuiet(cl:Callee):List CIns->Nat->St->Option St
 | [],_,s=>some s
 | i::is,key,s=>match stepQuiet cl i key s with
  | some s'=>runQuiet cl is (key+64) s'
  | none=>none
/-! ### What an operation looks at in memory -/
def inner(h:Nat->Option AO):AV->List Nat
 | .ptr id _ _=>match h id with
  | some (.box cells)=>cells.flatMap AV.id?
  | _=>[]
 | _=>[]
def COp.looks(o:COp)(g:Nat->AV)(h:Nat->Option AO):List Nat :=
 match o with
 | .mov _|.pick ..|.bin ..|.beq ..|.eqs ..|.un ..|.conv ..|.sconv _|.alloc _|.box _|.build ..|.mksl ..|.sslice ..|.sidx ..|.ext ..|.mx ..|.mkmap _=>[]
 | .toStr x|.len _ x|.nilck x|.faddr x _=>(x.ev g).id?
 | .load x _ _ _=>(x.ev g).id?
 | .store a x _=>(a.ev g).id?++(x.ev g).ids
 | .bslice _ _ _ parts=>parts.flatMap fun p=>(p.2.ev g).ids
 | .iaddr _ x _|.slice _ x _ _|.cut3 _ x _ _|.blank _ x|.soft _ x|.fslice _ x _=>(x.ev g).id?
 | .append _ _ _ s x=>(s.ev g).id?++(x.ev g).id?
 | .lookup _ _ m _|.mapset _ m _ _=>(m.ev g).id?
 | .call _ _ args=>(evL g args).flatMap fun v=>v.ids++inner h v
 | .callf _ _ args=>(evL g args).flatMap fun v=>v.ids++inner h v
 | .callin _ x _=>(x.ev g).id?
 | .mkifs _ x|.mkclo _ x=>(x.ev g).id?
 | .sortc _ _ _ _ x y=>(x.ev g).id?++(y.ev g).id?
def COp.opds:COp->List Opd
 | .mov x|.nilck x|.un _ x|.conv _ x|.toStr x|.sconv x|.box x|.mksl _ _ _ x|.load x _ _ _|.faddr x _|.len _ x|.ext x _=>[x]
 | .pick c a b=>[c,a,b]
 | .mx _ x y|.bin _ x y|.beq _ x y|.eqs _ _ x y|.store x y _|.iaddr _ x y|.sidx x y|.append _ _ _ x y|.lookup _ _ x y=>[x,y]
 | .mapset _ m k v=>[m,k,v]
 | .cut3 _ x h1 h2=>[x,h1,h2]
 | .blank _ x|.soft _ x=>[x]
 | .fslice _ x lo=>[x,lo]
 | .alloc _|.mkmap _=>[]
 | .build _ ps=>ps.map (·.2.2)
 | .bslice _ _ _ ps=>ps.map (·.2)
 | .slice _ x lo hi|.sslice x lo hi=>x::(lo.toList++hi.toList)
 | .call _ _ args=>args
 | .callf f _ args=>f::args
 | .callin _ x args=>x::args
 | .mkifs _ x|.mkclo _ x=>[x]
 | .sortc _ _ _ _ x y=>[x,y]
structure Tr where
 rd:List Nat
 wr:List Nat
 ue:Bool
 we:Bool
 km:Option (Nat×ByteArray)
def bsnap:AV->Bool
 | .bptr m _ _=>m.isSnap
 | v=>v.snaps
def mapMark(op:COp)(g:Nat->AV)(ws:List (Nat×Option AO)):Option (Nat×ByteArray) :=
 match ws with
 | [(id,some (.map _ _))]=>match op with
  | .mapset kb _ k _=>match keyOf kb (k.ev g) with
   | some s=>some (id,s)
   | none=>none
  | _=>none
 | _=>none
def stepLoud(cl:Callee)(i:CIns)(key:Nat)(s:St):Option (St×Tr) :=
 match guardA s.slots i.guard with
 | some true=>match sem cl i.op key s.slots s.heap s.ep with
  | some o=>some (o.app i.dst s,⟨i.op.looks s.slots s.heap,o.ws.map (·.1),bsnap o.v || (evL s.slots i.op.opds).any bsnap,o.bump,mapMark i.op s.slots o.ws⟩)
  | none=>none
 | some false=>some (⟨putTo s.slots i.dst (.tup []),s.heap,s.ep,s.next,s.base⟩,⟨[],[],false,false,none⟩)
 | none=>none
def runLoud(cl:Callee):List CIns->Nat->St->Option (St×List Tr)
 | [],_,s=>some (s,[])
 | i::is,key,s=>match stepLoud cl i key s with
  | none=>none
  | some (s',t)=>match runLoud cl is (key+64) s' with
   | none=>none
   | some (s'',ts)=>some (s'',t::ts)
def meets(a b:List Nat):Bool:=a.any fun x=>b.contains x
def Tr.meet(a b:Tr):Bool:=meets a.wr b.rd || meets a.wr b.wr || meets a.rd b.wr || (a.we && (b.ue || b.we)) || (a.ue && b.we)
def Tr.clash(a b:Tr):Bool:=match a.km,b.km with
 | some (i,k),some (j,l)=>if i=j then sEq l k else a.meet b
 | _,_=>a.meet b
def clearOf(a:Tr)(i:Nat):List Tr->List Nat->Bool
 | b::bs,d::ds=>(d.testBit i || !a.clash b) && clearOf a i bs ds
 | [],[]=>true
 | _,_=>false
def allClear(i:Nat):List Tr->List Nat->Bool
 | a::as,_::ds=>clearOf a i as ds && allClear (i+1) as ds
 | [],[]=>true
 | _,_=>false
/-! ### Loops: names and arrays as at the head of every round -/
def rn1(L:List Nat):AV->AV
 | .ref id=>if L.contains id then .ref (L.idxOf id) else .any
 | .view id lo len=>if L.contains id then .view (L.idxOf id) lo len else .any
 | .ptr id i off=>if L.contains id then .ptr (L.idxOf id) i off else .any
 | .mapr id=>if L.contains id then .mapr (L.idxOf id) else .any
 | .sl (.snap _) _ _=>.any
 | .bptr (.snap _) _ _=>.any
 | .inn ..=>.any
 | .ifs ..=>.any
 | .clo ..=>.any
 | .cut ..=>.any
 | .inp ..=>.any
 | v=>v
def rnV(L:List Nat):AV->AV
 | .agg cs=>.agg (cs.map (rn1 L))
 | .tup vs=>if vs.isEmpty then .tup [] else .any
 | v=>rn1 L v
def rnO(L:List Nat):AO->AO
 | .box cells=>.box (cells.map (rn1 L))
 | o=>o
def addNew(L is:List Nat):List Nat:=is.foldl (fun L i=>if L.contains i then L else L++[i]) L
def idsOfSlots(g:Nat->AV):List Nat->List Nat->List Nat
 | [],L=>L
 | t::ts,L=>idsOfSlots g ts (addNew L (g t).ids)
def idsOfBoxes(h:Nat->Option AO):List Nat->List Nat->List Nat
 | [],L=>L
 | i::is,L=>match h i with
  | some (.box cells)=>idsOfBoxes h is (addNew L (cells.flatMap AV.id?))
  | _=>idsOfBoxes h is L
def rnHeap(h:Nat->Option AO)(L:List Nat):List Nat->Nat->Nat->Option AO
 | [],_=>fun _=>none
 | i::is,n=>upd (rnHeap h L is (n+1)) n ((h i).map (rnO L))
def rnSlots(g:Nat->AV)(L:List Nat):List Nat->Nat->AV
 | []=>fun _=>.any
 | t::ts=>upd (rnSlots g L ts) t (rnV L (g t))
def St.norm(s:St)(keep:List Nat):St :=
 let L1:=idsOfSlots s.slots keep (List.range s.base)
 let L:=idsOfBoxes s.heap L1 L1
 ⟨rnSlots s.slots L keep,rnHeap s.heap L L 0,0,L.length,s.base⟩
def rounds(f:St->Option (AExit×St))(keep:List Nat):Nat->St->Option (AExit×St)
 | 0,_=>none
 | n+1,s=>match f (s.norm keep) with
  | some (.normal,s')=>rounds f keep n s'
  | r=>r
def big:Nat:=1000000000000000
def runCode(cl:Callee):CCode->St->Option (AExit×St)
 | .skip,s=>some (.normal,s)
 | .region ops keep,s=>match runIns cl ops s.next s with
  | some s'=>some (.normal,s'.forget keep (s.next+64*ops.length))
  | none=>none
 | .quiet ops keep,s=>match runQuiet cl ops s.next s with
  | some s'=>some (.normal,s'.forget keep (s.next+64*ops.length))
  | none=>none
 | .loud ops deps keep,s=>match runLoud cl ops s.next s with
  | some (s',ts)=>if allClear 0 ts deps then some (.normal,s'.forget keep (s.next+64*ops.length)) else none
  | none=>none
 | .seq a b,s=>match runCode cl a s with
  | some (.normal,s')=>runCode cl b s'
  | r=>r
 | .cond c a b,s=>match c.ev s.slots with
  | .bool true=>runCode cl a s
  | .bool false=>runCode cl b s
  | _=>none
 | .block id b,s=>match runCode cl b s with
  | some (.exit i,s')=>if i=id then some (.normal,s') else some (.exit i,s')
  | r=>r
 | .loop keep b,s=>rounds (runCode cl b) keep big s
 | .exit id,s=>some (.exit id,s)
 | .ret,s=>some (.ret,s)
/-! ### Functions -/
def shut1(h:Nat->Option AO):AV->Option (AV×List Nat)
 | .ref id=>match h id with
  | some (.arr sz xs)=>some (.sl .own sz xs,[id])
  | _=>none
 | .bool b=>some (.bool b,[])
 | .int k n=>some (.int k n,[])
 | .str s=>some (.str s,[])
 | .sl .own sz []=>some (.sl .own sz [],[])
 | .sl .imm sz xs=>some (.sl .imm sz xs,[])
 | _=>none
def shutC(h:Nat->Option AO):AV->Option (AV×List Nat)
 | .any=>some (.any,[])
 | v=>shut1 h v
def shutL(h:Nat->Option AO):List AV->Option (List AV×List Nat)
 | []=>some ([],[])
 | c::cs=>match shutC h c with
  | none=>none
  | some (d,is)=>match shutL h cs with
   | none=>none
   | some (ds,js)=>some (d::ds,is++js)
def shutV(h:Nat->Option AO):AV->Option (AV×List Nat)
 | .agg cs=>match shutL h cs with
  | some (ds,is)=>some (.agg ds,is)
  | none=>none
 | .ptr id 0 0=>match h id with
  | some (.box cells)=>match shutL h cells with
   | some (ds,is)=>some (.cellp ds,id::is)
   | none=>none
  | _=>none
 | v=>shut1 h v
def shutT(h:Nat->Option AO):List AV->Option (List AV×List Nat)
 | []=>some ([],[])
 | c::cs=>match shutV h c with
  | none=>none
  | some (d,is)=>match shutT h cs with
   | none=>none
   | some (ds,js)=>some (d::ds,is++js)
def shutBoxes(h:Nat->Option AO):Nat->Nat->Option (List Nat)
 | _,0=>some []
 | i,n+1=>match h i with
  | some (.box cells)=>match shutL h cells with
   | some (_,is)=>match shutBoxes h (i+1) n with
    | some js=>some (is++js)
    | none=>none
   | none=>none
  | _=>shutBoxes h (i+1) n
def outOf(h:Nat->Option AO)(gone:List Nat)(i:Nat):Option AO :=
 match h i with
 | some (.box cells)=>match shutL h cells with
  | some (ds,_)=>some (.box ds)
  | none=>none
 | some (.arr sz xs)=>if gone.contains i then none else some (.arr sz xs)
 | _=>none
def outsOf(h:Nat->Option AO)(gone:List Nat):Nat->Nat->List (Option AO)
 | _,0=>[]
 | i,n+1=>outOf h gone i::outsOf h gone (i+1) n
def resVal(s:St):CRes->Option AV
 | .tmp t=>some (s.slots t)
 | .cell t sz agg=>match s.slots t with
  | .ptr id 0 0=>match s.heap id with
   | some (.box cells)=>if cells.length=sz then loadFrom cells 0 sz agg else none
   | _=>none
  | _=>none
def resVals(s:St):List CRes->Option (List AV)
 | []=>some []
 | r::rs=>match resVal s r with
  | none=>none
  | some v=>match resVals s rs with
   | none=>none
   | some vs=>some (v::vs)
def startSlots:List AV->Nat->Nat->AV
 | [],_=>fun _=>.any
 | v::vs,t=>upd (startSlots vs (t+1)) t v
def startHeap:List AO->Nat->Nat->Option AO
 | [],_=>fun _=>none
 | o::os,i=>upd (startHeap os (i+1)) i (some o)
def endFn(c:CFn)(n:Nat)(s:St):Option (AV×List (Option AO)) :=
 match resVals s c.res with
 | none=>none
 | some vs=>match shutT s.heap vs with
  | none=>none
  | some (ws,is)=>match shutBoxes s.heap 0 n with
   | none=>none
   | some js=>if distinct (is++js) && (is++js).all (fun i=>match s.heap i with|some (.box _)=>decide (n<=i)|_=>true) then
     some (match ws with|[v]=>v|ws=>.tup ws,outsOf s.heap (is++js) 0 n)
    else none
def runFn(cl:Callee)(c:CFn)(args:List AV)(objs:List AO):Option (AV×List (Option AO)) :=
 if args.length<=c.nt then
  match runCode cl c.body ⟨startSlots args 0,startHeap objs 0,0,objs.length,objs.length⟩ with
  | some (.ret,s)=>endFn c objs.length s
  | some (.normal,s)=>endFn c objs.length s
  | _=>none
 else none
structure CProg where
 fn:Nat->Option CFn
 prim:Callee
def CProg.call(p:CProg):Nat->Callee
 | 0,_,_,_=>none
 | d+1,k,args,objs=>match p.fn k with
  | some c=>runFn (p.call d) c args objs
  | none=>p.prim k args objs
end Go.Proofs.YtgdfelbedghhnaaGreatDoor
namespace Go.Proofs.YtgdfelbedghhnaaGreatDoor
open Go
def Ev{α:Type}(E:Nat->Option α)(r:α):Prop:=∃ d,∀ e,d<=e->E e=some r
theorem Ev.one{α:Type}{E:Nat->Option α}{r s:α}:Ev E r->Ev E s->r=s:=fun ⟨d,h⟩ ⟨e,k⟩=>by
 have h1:=h (max d e) (Nat.le_max_left _ _)
 rw[k (max d e) (Nat.le_max_right _ _)]at h1
 exact (Xf h1).symm
theorem Ev.const{α:Type}{x:Option α}{r:α}(h:x=some r):Ev (fun _=>x) r:=⟨0,fun _ _=>h⟩
theorem Ev.and{α β:Type}{E:Nat->Option α}{G:Nat->Option β}{r:α}{s:β}:Ev E r->Ev G s->∃ d,∀ e,d<=e->E e=some r/\G e=some s:=fun ⟨d,h⟩ ⟨e,k⟩ =>
 ⟨max d e,fun _ hm=>⟨h _ (Xac (Nat.le_max_left _ _) hm),k _ (Xac (Nat.le_max_right _ _) hm)⟩⟩
open Classical in
noncomputable def CProg.lim(p:CProg):Callee:=fun k args objs =>
 if h:∃ r,Ev (fun d=>p.call d k args objs) r then some h.choose else none
theorem Zko{p:CProg}{k:Nat}{args:List AV}{objs:List AO}{r:AV×List (Option AO)}:p.lim k args objs=some r↔Ev (fun d=>p.call d k args objs) r:=by
 unfold CProg.lim
 constructor
 ·intro h
  split at h
  ·rename_i hx
   rw[<- Xf h]
   exact hx.choose_spec
  ·cases h
 ·intro h
  rw[dif_pos ⟨r,h⟩]
  have hx:∃ r,Ev (fun d=>p.call d k args objs) r:=⟨r,h⟩
  exact Xct some (hx.choose_spec.one h)
section
variable {p:CProg}
theorem Zip{k:Nat}{modes:List Bool}{vs:List AV}{key:Nat}{h:Nat->Option AO}{ep:Nat}{o:Out}(hs:semCall p.lim k modes vs key h ep=some o):Ev (fun d=>semCall (p.call d) k modes vs key h ep) o:=by
 unfold semCall at hs ⊢
 cases hp:passArgs h ep 0 modes vs with
 | none=>rw[hp]at hs;cases hs
 | some g =>
  rw[hp]at hs
  simp only at hs ⊢
  split at hs
  case isFalse=>cases hs
  rename_i hc
  simp only[hc,Xag]
  cases hl:p.lim k g.args g.objs with
  | none=>rw[hl]at hs;cases hs
  | some q =>
   rw[hl]at hs
   obtain⟨d,hd⟩:=Zko.1 hl
   refine⟨d,fun e he=>?_⟩
   have:=hd e he
   dsimp only at this ⊢
   rw[this]
   exact hs
theorem Zpc{o:COp}{key:Nat}{g:Nat->AV}{h:Nat->Option AO}{ep:Nat}{out:Out}(hs:sem p.lim o key g h ep=some out):Ev (fun d=>sem (p.call d) o key g h ep) out:=by
 cases o
 case call k modes args=>exact Zip hs
 case callf f modes args =>
  simp only[sem]at hs ⊢
  generalize f.ev g=v at hs ⊢
  cases v<;>simp only[reduceCtorEq]at hs ⊢
  exact Zip hs
 case len b x=>cases b<;>exact⟨0,fun _ _=>hs⟩
 case callin k x args =>
  simp only[sem]at hs ⊢
  generalize x.ev g=v at hs ⊢
  cases v<;>simp only[reduceCtorEq]at hs ⊢
  rename_i e id i off
  split at hs
  case isFalse=>cases hs
  rename_i hc
  simp only[Xr hc]
  generalize h id=ho at hs ⊢
  match ho with
  | none=>cases hs
  | some (.box _)=>cases hs
  | some (.map _ _)=>cases hs
  | some (.arr sz xs) =>
   simp only at hs ⊢
   generalize hrow:xs[i]?=ro at hs ⊢
   cases ro with
   | none=>cases hs
   | some row =>
    dsimp only at hs ⊢
    generalize row[off]?=ce at hs ⊢
    obtain⟨sz2,zs,rfl⟩:∃ sz2 zs,ce=some (.sl .own sz2 zs):=by
     split at hs
     ·exact⟨_,_,rfl⟩
     ·cases hs
    dsimp only at hs ⊢
    cases hl:p.lim k (.ref 0::evL g args) [.arr sz2 zs] with
    | none=>rw[hl]at hs;cases hs
    | some q =>
     rw[hl]at hs
     obtain⟨d,hd⟩:=Zko.1 hl
     refine⟨d,fun e2 he=>?_⟩
     have:=hd e2 he
     dsimp only at this ⊢
     rw[this]
     exact hs
 all_goals exact⟨0,fun _ _=>by dsimp only;exact hs⟩
theorem Zny{i:CIns}{key:Nat}{s s':St}(hs:stepIns p.lim i key s=some s'):Ev (fun d=>stepIns (p.call d) i key s) s':=by
 unfold stepIns at hs ⊢
 generalize guardA s.slots i.guard=q at hs ⊢
 match q with
 | none=>cases hs
 | some false=>exact .const hs
 | some true =>
  simp only at hs ⊢
  cases ho:sem p.lim i.op key s.slots s.heap s.ep with
  | none=>rw[ho]at hs;cases hs
  | some o =>
   rw[ho]at hs
   obtain⟨d,hd⟩:=Zpc ho
   exact⟨d,fun e he=>by have:=hd e he;dsimp only at this ⊢;rw[this];exact hs⟩
theorem Zke:∀ {is:List CIns} {key:Nat} {s s':St},runIns p.lim is key s=some s'->Ev (fun d=>runIns (p.call d) is key s) s'
 | [],_,_,_,h=>.const h
 | i::is,key,s,s',h=>by
  simp only[runIns]at h ⊢
  cases h1:stepIns p.lim i key s with
  | none=>rw[h1]at h;cases h
  | some s1 =>
   rw[h1]at h
   obtain⟨d,hd⟩:=(Zny h1).and (Zke h)
   exact⟨d,fun e he=>by dsimp only;rw[(hd e he).1];exact (hd e he).2⟩
theorem Zkf{i:CIns}{key:Nat}{s s':St}(hs:stepQuiet p.lim i key s=some s'):Ev (fun d=>stepQuiet (p.call d) i key s) s':=by
 unfold stepQuiet at hs ⊢
 generalize guardA s.slots i.guard=q at hs ⊢
 match q with
 | none=>cases hs
 | some false=>exact .const hs
 | some true =>
  simp only at hs ⊢
  cases ho:sem p.lim i.op key s.slots s.heap s.ep with
  | none=>rw[ho]at hs;cases hs
  | some o =>
   rw[ho]at hs
   obtain⟨d,hd⟩:=Zpc ho
   exact⟨d,fun e he=>by have:=hd e he;dsimp only at this ⊢;rw[this];exact hs⟩
theorem Zg0:∀ {is:List CIns} {key:Nat} {s s':St},runQuiet p.lim is key s=some s'->Ev (fun d=>runQuiet (p.call d) is key s) s'
 | [],_,_,_,h=>.const h
 | i::is,key,s,s',h=>by
  simp only[runQuiet]at h ⊢
  cases h1:stepQuiet p.lim i key s with
  | none=>rw[h1]at h;cases h
  | some s1 =>
   rw[h1]at h
   obtain⟨d,hd⟩:=(Zkf h1).and (Zg0 h)
   exact⟨d,fun e he=>by dsimp only;rw[(hd e he).1];exact (hd e he).2⟩
theorem Zlv{i:CIns}{key:Nat}{s:St}{q':St×Tr}(hs:stepLoud p.lim i key s=some q'):Ev (fun d=>stepLoud (p.call d) i key s) q':=by
 unfold stepLoud at hs ⊢
 generalize guardA s.slots i.guard=q at hs ⊢
 match q with
 | none=>cases hs
 | some false=>exact .const hs
 | some true =>
  simp only at hs ⊢
  cases ho:sem p.lim i.op key s.slots s.heap s.ep with
  | none=>rw[ho]at hs;cases hs
  | some o =>
   rw[ho]at hs
   obtain⟨d,hd⟩:=Zpc ho
   exact⟨d,fun e he=>by have:=hd e he;dsimp only at this ⊢;rw[this];exact hs⟩
theorem Zio:∀ {is:List CIns} {key:Nat} {s:St} {q:St×List Tr},runLoud p.lim is key s=some q->Ev (fun d=>runLoud (p.call d) is key s) q
 | [],_,_,_,h=>.const h
 | i::is,key,s,q,h=>by
  simp only[runLoud]at h ⊢
  cases h1:stepLoud p.lim i key s with
  | none=>rw[h1]at h;cases h
  | some q1 =>
   obtain⟨s1,t⟩:=q1
   rw[h1]at h
   simp only at h
   cases h2:runLoud p.lim is (key+64) s1 with
   | none=>rw[h2]at h;cases h
   | some q2 =>
    rw[h2]at h
    obtain⟨d,hd⟩:=(Zlv h1).and (Zio h2)
    exact⟨d,fun e he=>by dsimp only;rw[(hd e he).1];simp only;rw[(hd e he).2];exact h⟩
theorem Zkd{f:Nat->St->Option (AExit×St)}{f0:St->Option (AExit×St)}{keep:List Nat}(hf:∀ s r,f0 s=some r->Ev (fun d=>f d s) r):∀ {n:Nat} {s:St} {r:AExit×St},rounds f0 keep n s=some r->Ev (fun d=>rounds (f d) keep n s) r
 | 0,_,_,h=>by cases h
 | n+1,s,r,h=>by
  simp only[rounds]at h ⊢
  cases h1:f0 (s.norm keep) with
  | none=>rw[h1]at h;cases h
  | some q =>
   obtain⟨ex,s'⟩:=q
   rw[h1]at h
   cases ex with
   | normal =>
    obtain⟨d,hd⟩:=(hf _ _ h1).and (Zkd hf h)
    exact⟨d,fun e he=>by dsimp only;rw[(hd e he).1];exact (hd e he).2⟩
   | exit i=>obtain⟨d,hd⟩:=hf _ _ h1;exact⟨d,fun e he=>by have:=hd e he;dsimp only at this ⊢;rw[this];exact h⟩
   | ret=>obtain⟨d,hd⟩:=hf _ _ h1;exact⟨d,fun e he=>by have:=hd e he;dsimp only at this ⊢;rw[this];exact h⟩
theorem Za2:∀ {c:CCode} {s:St} {r:AExit×St},runCode p.lim c s=some r->Ev (fun d=>runCode (p.call d) c s) r
 | .skip,_,_,h=>.const h
 | .exit _,_,_,h=>.const h
 | .ret,_,_,h=>.const h
 | .region ops keep,s,r,h=>by
  simp only[runCode]at h ⊢
  cases h1:runIns p.lim ops s.next s with
  | none=>rw[h1]at h;cases h
  | some s1=>rw[h1]at h;obtain⟨d,hd⟩:=Zke h1;exact⟨d,fun e he=>by have:=hd e he;dsimp only at this ⊢;rw[this];exact h⟩
 | .quiet ops keep,s,r,h=>by
  simp only[runCode]at h ⊢
  cases h1:runQuiet p.lim ops s.next s with
  | none=>rw[h1]at h;cases h
  | some s1=>rw[h1]at h;obtain⟨d,hd⟩:=Zg0 h1;exact⟨d,fun e he=>by have:=hd e he;dsimp only at this ⊢;rw[this];exact h⟩
 | .loud ops deps keep,s,r,h=>by
  simp only[runCode]at h ⊢
  cases h1:runLoud p.lim ops s.next s with
  | none=>rw[h1]at h;cases h
  | some s1=>rw[h1]at h;obtain⟨d,hd⟩:=Zio h1;exact⟨d,fun e he=>by have:=hd e he;dsimp only at this ⊢;rw[this];exact h⟩
 | .seq a b,s,r,h=>by
  simp only[runCode]at h ⊢
  cases h1:runCode p.lim a s with
  | none=>rw[h1]at h;cases h
  | some q =>
   obtain⟨ex,s'⟩:=q
   rw[h1]at h
   cases ex with
   | normal =>
    obtain⟨d,hd⟩:=(Za2 h1).and (Za2 h)
    exact⟨d,fun e he=>by dsimp only;rw[(hd e he).1];exact (hd e he).2⟩
   | exit i=>obtain⟨d,hd⟩:=Za2 h1;exact⟨d,fun e he=>by have:=hd e he;dsimp only at this ⊢;rw[this];exact h⟩
   | ret=>obtain⟨d,hd⟩:=Za2 h1;exact⟨d,fun e he=>by have:=hd e he;dsimp only at this ⊢;rw[this];exact h⟩
 | .cond c a b,s,r,h=>by
  simp only[runCode]at h ⊢
  generalize c.ev s.slots=v at h ⊢
  match v with
  | .bool true=>exact Za2 h
  | .bool false=>exact Za2 h
  | .any|.int _ _|.str _|.sl _ _ _|.ref _|.view _ _ _|.ptr _ _ _|.bptr _ _ _|.agg _|.tup _|.cellp _|.mapr _|.fn _=>cases h
 | .block id b,s,r,h=>by
  simp only[runCode]at h ⊢
  cases h1:runCode p.lim b s with
  | none=>rw[h1]at h;cases h
  | some q =>
   obtain⟨ex,s'⟩:=q
   rw[h1]at h
   obtain⟨d,hd⟩:=Za2 h1
   exact⟨d,fun e he=>by have:=hd e he;dsimp only at this ⊢;rw[this];exact h⟩
 | .loop keep b,s,r,h=>by
  simp only[runCode]at h ⊢
  exact Zkd (fun s r hr=>Za2 hr) h
theorem Zq6{c:CFn}{args:List AV}{objs:List AO}{r:AV×List (Option AO)}(h:runFn p.lim c args objs=some r):Ev (fun d=>runFn (p.call d) c args objs) r:=by
 unfold runFn at h ⊢
 split at h
 case isFalse=>cases h
 rename_i hl
 simp only[hl,Xag]
 cases h1:runCode p.lim c.body ⟨startSlots args 0,startHeap objs 0,0,objs.length,objs.length⟩ with
 | none=>rw[h1]at h;cases h
 | some q =>
  rw[h1]at h
  obtain⟨d,hd⟩:=Za2 h1
  exact⟨d,fun e he=>by have:=hd e he;dsimp only at this ⊢;rw[this];exact h⟩
theorem Zs9{k:Nat}{c:CFn}{args:List AV}{objs:List AO}{r:AV×List (Option AO)}(hc:p.fn k=some c)(h:runFn p.lim c args objs=some r):p.lim k args objs=some r:=by
 obtain⟨d,hd⟩:=Zq6 h
 refine Zko.2 ⟨d+1,fun e he=>?_⟩
 obtain⟨e',rfl⟩:∃ e',e=e'+1:=⟨e-1,by omega⟩
 simp only[CProg.call,hc]
 exact hd e' (by omega)
theorem Zel{k:Nat}{args:List AV}{objs:List AO}{r:AV×List (Option AO)}(hc:p.fn k=none)(h:p.prim k args objs=some r):p.lim k args objs=some r :=
 Zko.2 ⟨1,fun e he=>by
  obtain⟨e',rfl⟩:∃ e',e=e'+1:=⟨e-1,by omega⟩
  simp only[CProg.call,hc]
  exact h⟩
end
end Go.Proofs.YtgdfelbedghhnaaGreatDoor
namespace Go.Proofs.YtgdfelbedghhnaaGreatDoor
open Go
inductive Fr where
 | code (c:CCode)
 | blk (id:Nat)
 | back (y:St->Option (AExit×St))
def X(cl:Callee):List Fr->AExit×St->Option (AExit×St)
 | [],r=>some r
 | .code c::fs,(.normal,s)=>match runCode cl c s with
  | some r=>X cl fs r
  | none=>none
 | .code _::fs,(.exit i,s)=>X cl fs (.exit i,s)
 | .code _::fs,(.ret,s)=>X cl fs (.ret,s)
 | .blk id::fs,(.exit i,s)=>if i=id then X cl fs (.normal,s) else X cl fs (.exit i,s)
 | .blk _::fs,(.normal,s)=>X cl fs (.normal,s)
 | .blk _::fs,(.ret,s)=>X cl fs (.ret,s)
 | .back y::_,(.normal,s)=>y s
 | .back _::fs,(.exit i,s)=>X cl fs (.exit i,s)
 | .back _::fs,(.ret,s)=>X cl fs (.ret,s)
def XR(cl:Callee)(is:List CIns)(key:Nat)(s:St)(keep:List Nat)(nx:Nat)(fs:List Fr):Option (AExit×St) :=
 match runIns cl is key s with
 | some s'=>X cl fs (.normal,s'.forget keep nx)
 | none=>none
def XQ(cl:Callee)(is:List CIns)(key:Nat)(s:St)(keep:List Nat)(nx:Nat)(fs:List Fr):Option (AExit×St) :=
 match runQuiet cl is key s with
 | some s'=>X cl fs (.normal,s'.forget keep nx)
 | none=>none
def XO(cl:Callee)(o:Option Out)(dst:Option Nat)(is:List CIns)(key:Nat)(s:St)(keep:List Nat)(nx:Nat)(fs:List Fr):Option (AExit×St) :=
 match o with
 | some o=>XR cl is key (o.app dst s) keep nx fs
 | none=>none
def XOQ(cl:Callee)(o:Option Out)(dst:Option Nat)(is:List CIns)(key:Nat)(s:St)(keep:List Nat)(nx:Nat)(fs:List Fr):Option (AExit×St) :=
 match o with
 | some ⟨v,[],false⟩=>XQ cl is key ⟨putTo s.slots dst v,s.heap,s.ep,s.next,s.base⟩ keep nx fs
 | _=>none
def XG(cl:Callee)(v:AV)(t:Nat)(b:Bool)(op:COp)(dst:Option Nat)(is:List CIns)(key:Nat)(s:St)(keep:List Nat)(nx:Nat)(fs:List Fr):Option (AExit×St) :=
 match v with
 | .bool c=>if c=b then XR cl (⟨dst,op,none⟩::is) key ⟨upd s.slots t (.bool b),s.heap,s.ep,s.next,s.base⟩ keep nx fs
  else XR cl is (key+64) ⟨putTo (upd s.slots t (.bool !b)) dst (.tup []),s.heap,s.ep,s.next,s.base⟩ keep nx fs
 | .tup []=>XR cl is (key+64) ⟨putTo s.slots dst (.tup []),s.heap,s.ep,s.next,s.base⟩ keep nx fs
 | _=>none
def XGQ(cl:Callee)(v:AV)(t:Nat)(b:Bool)(op:COp)(dst:Option Nat)(is:List CIns)(key:Nat)(s:St)(keep:List Nat)(nx:Nat)(fs:List Fr):Option (AExit×St) :=
 match v with
 | .bool c=>if c=b then XQ cl (⟨dst,op,none⟩::is) key ⟨upd s.slots t (.bool b),s.heap,s.ep,s.next,s.base⟩ keep nx fs
  else XQ cl is (key+64) ⟨putTo (upd s.slots t (.bool !b)) dst (.tup []),s.heap,s.ep,s.next,s.base⟩ keep nx fs
 | .tup []=>XQ cl is (key+64) ⟨putTo s.slots dst (.tup []),s.heap,s.ep,s.next,s.base⟩ keep nx fs
 | _=>none
def XD(cl:Callee)(is:List CIns)(key:Nat)(s:St)(acc:List Tr)(deps keep:List Nat)(nx:Nat)(fs:List Fr):Option (AExit×St) :=
 match runLoud cl is key s with
 | some (s',ts)=>if allClear 0 (acc++ts) deps then X cl fs (.normal,s'.forget keep nx) else none
 | none=>none
def XOD(cl:Callee)(o:Option Out)(dst:Option Nat)(op:COp)(is:List CIns)(key:Nat)(s:St)(acc:List Tr)(deps keep:List Nat)(nx:Nat)(fs:List Fr):Option (AExit×St) :=
 match o with
 | some o=>XD cl is key (o.app dst s) (acc++[⟨op.looks s.slots s.heap,o.ws.map (·.1),bsnap o.v || (evL s.slots op.opds).any bsnap,o.bump,mapMark op s.slots o.ws⟩]) deps keep nx fs
 | none=>none
def XGD(cl:Callee)(v:AV)(t:Nat)(b:Bool)(op:COp)(dst:Option Nat)(is:List CIns)(key:Nat)(s:St)(acc:List Tr)(deps keep:List Nat)(nx:Nat)(fs:List Fr):Option (AExit×St) :=
 match v with
 | .bool c=>if c=b then XD cl (⟨dst,op,none⟩::is) key ⟨upd s.slots t (.bool b),s.heap,s.ep,s.next,s.base⟩ acc deps keep nx fs
  else XD cl is (key+64) ⟨putTo (upd s.slots t (.bool !b)) dst (.tup []),s.heap,s.ep,s.next,s.base⟩ (acc++[⟨[],[],false,false,none⟩]) deps keep nx fs
 | .tup []=>XD cl is (key+64) ⟨putTo s.slots dst (.tup []),s.heap,s.ep,s.next,s.base⟩ (acc++[⟨[],[],false,false,none⟩]) deps keep nx fs
 | _=>none
def cset(c:Opd)(w:Bool)(s:St):St :=
 match c with
 | .tmp t=>⟨upd s.slots t (.bool w),s.heap,s.ep,s.next,s.base⟩
 | .const _=>s
def XC(cl:Callee)(v:AV)(c:Opd)(a b:CCode)(s:St)(fs:List Fr):Option (AExit×St) :=
 match v with
 | .bool w=>if w=true then X cl (.code a::fs) (.normal,cset c true s) else X cl (.code b::fs) (.normal,cset c false s)
 | _=>none
def XL(cl:Callee)(r:Option (AExit×St))(fs:List Fr):Option (AExit×St) :=
 match r with
 | some r=>X cl fs r
 | none=>none
section
variable {cl:Callee}
theorem Zc6{α:Type}{f:Nat->α}{t:Nat}{v:α}(h:f t=v):upd f t v=f:=by
 funext j
 unfold upd
 split
 ·rename_i hj;rw[hj,h]
 ·rfl
theorem Zti(r:AExit×St):X cl [] r=some r:=by rw[X]
theorem Zmt:∀ (fs:List Fr) (s:St),X cl fs (.ret,s)=some (.ret,s)
 | [],_=>by rw[X]
 | .code _::fs,s=>by rw[X];exact Zmt fs s
 | .blk _::fs,s=>by rw[X];exact Zmt fs s
 | .back _::fs,s=>by rw[X];exact Zmt fs s
theorem Zs1(c:CCode)(fs:List Fr)(i:Nat)(s:St):X cl (.code c::fs) (.exit i,s)=X cl fs (.exit i,s):=by rw[X]
theorem Zj6(i:Nat)(fs:List Fr)(s:St):X cl (.blk i::fs) (.normal,s)=X cl fs (.normal,s):=by rw[X]
theorem Zne(i j:Nat)(fs:List Fr)(s:St):X cl (.blk i::fs) (.exit j,s)=if j=i then X cl fs (.normal,s) else X cl fs (.exit j,s):=by rw[X]
theorem Zjb(y:St->Option (AExit×St))(fs:List Fr)(s:St):X cl (.back y::fs) (.normal,s)=y s:=by rw[X]
theorem Zlg(y:St->Option (AExit×St))(fs:List Fr)(i:Nat)(s:St):X cl (.back y::fs) (.exit i,s)=X cl fs (.exit i,s):=by rw[X]
theorem Zs5(fs:List Fr)(s:St):X cl (.code .skip::fs) (.normal,s)=X cl fs (.normal,s):=by rw[X];rfl
theorem Zrw(i:Nat)(fs:List Fr)(s:St):X cl (.code (.exit i)::fs) (.normal,s)=X cl fs (.exit i,s):=by rw[X];rfl
theorem Zs4(fs:List Fr)(s:St):X cl (.code .ret::fs) (.normal,s)=X cl fs (.ret,s):=by rw[X];rfl
theorem Ztj(a b:CCode)(fs:List Fr)(s:St):X cl (.code (.seq a b)::fs) (.normal,s)=X cl (.code a::.code b::fs) (.normal,s):=by
 rw[X,X,runCode]
 cases h:runCode cl a s with
 | none=>rfl
 | some r =>
  obtain⟨ex,s'⟩:=r
  cases ex<;>simp only[X]
theorem Zrv(i:Nat)(b:CCode)(fs:List Fr)(s:St):X cl (.code (.block i b)::fs) (.normal,s)=X cl (.code b::.blk i::fs) (.normal,s):=by
 rw[X,X,runCode]
 cases h:runCode cl b s with
 | none=>rfl
 | some r =>
  obtain⟨ex,s'⟩:=r
  cases ex with
  | exit j=>by_cases hj:j=i<;>simp[X,hj]
  | _=>simp only[X]
theorem Zs0(c:Opd)(a b:CCode)(fs:List Fr)(s:St):X cl (.code (.cond c a b)::fs) (.normal,s)=XC cl (c.ev s.slots) c a b s fs:=by
 rw[X,runCode]
 unfold XC
 cases h:c.ev s.slots with
 | bool w =>
  have hs:cset c w s=s:=by
   cases c with
   | tmp t=>simp only[Opd.ev]at h;simp only[cset,Zc6 h]
   | const v=>rfl
  cases w
  ·simp only[Xq,Xaj];rw[X,hs]
  ·simp only[Xag];rw[X,hs]
 | _=>rfl
theorem Zs2(keep:List Nat)(b:CCode)(fs:List Fr)(s:St):X cl (.code (.loop keep b)::fs) (.normal,s)=XL cl (rounds (runCode cl b) keep big s) fs:=by rw[X,runCode];rfl
theorem Zqp(ops:List CIns)(keep:List Nat)(fs:List Fr)(s:St):X cl (.code (.region ops keep)::fs) (.normal,s)=XR cl ops s.next s keep (s.next+64*ops.length) fs:=by
 rw[X,runCode,XR];cases runIns cl ops s.next s<;>rfl
theorem Zrx(ops:List CIns)(keep:List Nat)(fs:List Fr)(s:St):X cl (.code (.quiet ops keep)::fs) (.normal,s)=XQ cl ops s.next s keep (s.next+64*ops.length) fs:=by
 rw[X,runCode,XQ];cases runQuiet cl ops s.next s<;>rfl
theorem Zs3(ops:List CIns)(deps keep:List Nat)(fs:List Fr)(s:St):X cl (.code (.loud ops deps keep)::fs) (.normal,s)=XD cl ops s.next s [] deps keep (s.next+64*ops.length) fs:=by
 rw[X,runCode,XD]
 cases runLoud cl ops s.next s with
 | none=>rfl
 | some q =>
  obtain⟨s',ts⟩:=q
  simp only[Xa8]
  by_cases h:allClear 0 ts deps=true<;>simp[h]
theorem Zsw(key:Nat)(s:St)(acc:List Tr)(deps keep:List Nat)(nx:Nat)(fs:List Fr):XD cl [] key s acc deps keep nx fs=if allClear 0 acc deps then X cl fs (.normal,s.forget keep nx) else none:=by simp only[XD,runLoud,Xb6]
theorem Zlf(i:CIns)(is:List CIns)(key:Nat)(s:St)(acc:List Tr)(deps keep:List Nat)(nx:Nat)(fs:List Fr) :
  XD cl (i::is) key s acc deps keep nx fs=match stepLoud cl i key s with
   | some (s',t)=>XD cl is (key+64) s' (acc++[t]) deps keep nx fs
   | none=>none:=by
 simp only[XD,runLoud]
 cases stepLoud cl i key s with
 | none=>rfl
 | some q =>
  obtain⟨s',t⟩:=q
  simp only
  cases runLoud cl is (key+64) s' with
  | none=>rfl
  | some q=>obtain⟨s'',ts⟩:=q;simp
theorem Ztf(dst:Option Nat)(op:COp)(is:List CIns)(key:Nat)(s:St)(acc:List Tr)(deps keep:List Nat)(nx:Nat)(fs:List Fr) :
  XD cl (⟨dst,op,none⟩::is) key s acc deps keep nx fs=XOD cl (sem cl op key s.slots s.heap s.ep) dst op is (key+64) s acc deps keep nx fs:=by
 rw[Zlf]
 simp only[stepLoud,guardA]
 cases h:sem cl op key s.slots s.heap s.ep<;>rfl
theorem Zql(o:Out)(dst:Option Nat)(op:COp)(is:List CIns)(key:Nat)(s:St)(acc:List Tr)(deps keep:List Nat)(nx:Nat)(fs:List Fr) :
  XOD cl (some o) dst op is key s acc deps keep nx fs=XD cl is key (o.app dst s) (acc++[⟨op.looks s.slots s.heap,o.ws.map (·.1),bsnap o.v || (evL s.slots op.opds).any bsnap,o.bump,mapMark op s.slots o.ws⟩]) deps keep nx fs:=rfl
theorem Zqi(dst:Option Nat)(op:COp)(t:Nat)(b:Bool)(is:List CIns)(key:Nat)(s:St)(acc:List Tr)(deps keep:List Nat)(nx:Nat)(fs:List Fr) :
  XD cl (⟨dst,op,some (t,b)⟩::is) key s acc deps keep nx fs=XGD cl (s.slots t) t b op dst is key s acc deps keep nx fs:=by
 rw[Zlf]
 simp only[stepLoud,guardA]
 cases h:s.slots t with
 | bool c =>
  simp only[XGD]
  by_cases hc:c=b
  ·subst hc
   simp only[beq_self_eq_true,Xag,Zc6 h]
   rw[Zlf]
   simp only[stepLoud,guardA]
  ·have:(c == b)=false:=by simpa using hc
   rw[Xu hc,this]
   have hb:c=!b:=by cases c<;>cases b<;>simp_all
   rw[hb]at h
   simp only[Zc6 h]
 | tup vs =>
  cases vs with
  | nil=>rfl
  | cons _ _=>rfl
 | _=>rfl
theorem Zqj(c:Bool)(t:Nat)(b:Bool)(op:COp)(dst:Option Nat)(is:List CIns)(key:Nat)(s:St)(acc:List Tr)(deps keep:List Nat)(nx:Nat)(fs:List Fr) :
  XGD cl (.bool c) t b op dst is key s acc deps keep nx fs=if c=b then XD cl (⟨dst,op,none⟩::is) key ⟨upd s.slots t (.bool b),s.heap,s.ep,s.next,s.base⟩ acc deps keep nx fs
  else XD cl is (key+64) ⟨putTo (upd s.slots t (.bool !b)) dst (.tup []),s.heap,s.ep,s.next,s.base⟩ (acc++[⟨[],[],false,false,none⟩]) deps keep nx fs:=rfl
theorem Zrq(t:Nat)(b:Bool)(op:COp)(dst:Option Nat)(is:List CIns)(key:Nat)(s:St)(acc:List Tr)(deps keep:List Nat)(nx:Nat)(fs:List Fr) :
  XGD cl (.tup []) t b op dst is key s acc deps keep nx fs=XD cl is (key+64) ⟨putTo s.slots dst (.tup []),s.heap,s.ep,s.next,s.base⟩ (acc++[⟨[],[],false,false,none⟩]) deps keep nx fs:=rfl
theorem Zsz(key:Nat)(s:St)(keep:List Nat)(nx:Nat)(fs:List Fr):XR cl [] key s keep nx fs=X cl fs (.normal,s.forget keep nx):=by rw[XR,runIns]
theorem Zsy(key:Nat)(s:St)(keep:List Nat)(nx:Nat)(fs:List Fr):XQ cl [] key s keep nx fs=X cl fs (.normal,s.forget keep nx):=by rw[XQ,runQuiet]
theorem Zth(dst:Option Nat)(op:COp)(is:List CIns)(key:Nat)(s:St)(keep:List Nat)(nx:Nat)(fs:List Fr) :
  XR cl (⟨dst,op,none⟩::is) key s keep nx fs=XO cl (sem cl op key s.slots s.heap s.ep) dst is (key+64) s keep nx fs:=by
 simp only[XR,runIns,stepIns,guardA]
 cases h:sem cl op key s.slots s.heap s.ep<;>rfl
theorem Ztg(dst:Option Nat)(op:COp)(is:List CIns)(key:Nat)(s:St)(keep:List Nat)(nx:Nat)(fs:List Fr) :
  XQ cl (⟨dst,op,none⟩::is) key s keep nx fs=XOQ cl (sem cl op key s.slots s.heap s.ep) dst is (key+64) s keep nx fs:=by
 simp only[XQ,runQuiet,stepQuiet,guardA]
 rcases h:sem cl op key s.slots s.heap s.ep with _|⟨v,ws,bu⟩
 ·rfl
 ·cases ws<;>cases bu<;>rfl
theorem Zru(o:Out)(dst:Option Nat)(is:List CIns)(key:Nat)(s:St)(keep:List Nat)(nx:Nat)(fs:List Fr):XO cl (some o) dst is key s keep nx fs=XR cl is key (o.app dst s) keep nx fs:=by rw[XO]
theorem Zqm(v:AV)(dst:Option Nat)(is:List CIns)(key:Nat)(s:St)(keep:List Nat)(nx:Nat)(fs:List Fr) :
  XOQ cl (some ⟨v,[],false⟩) dst is key s keep nx fs=XQ cl is key ⟨putTo s.slots dst v,s.heap,s.ep,s.next,s.base⟩ keep nx fs:=by rw[XOQ]
theorem Zqo(dst:Option Nat)(op:COp)(t:Nat)(b:Bool)(is:List CIns)(key:Nat)(s:St)(keep:List Nat)(nx:Nat)(fs:List Fr) :
  XR cl (⟨dst,op,some (t,b)⟩::is) key s keep nx fs=XG cl (s.slots t) t b op dst is key s keep nx fs:=by
 rw[XR,runIns,stepIns,guardA,XG.eq_def]
 cases h:s.slots t with
 | bool c =>
  simp only
  by_cases hc:c=b
  ·subst hc
   simp only[beq_self_eq_true,Xag,Zc6 h]
   rw[XR,runIns,stepIns,guardA]
  ·have:(c == b)=false:=by simpa using hc
   rw[Xu hc,this]
   have hb:c=!b:=by cases c<;>cases b<;>simp_all
   rw[hb]at h
   simp only[Zc6 h]
   rw[XR]
 | tup vs =>
  cases vs with
  | nil=>rfl
  | cons _ _=>rfl
 | _=>rfl
theorem Zqn(dst:Option Nat)(op:COp)(t:Nat)(b:Bool)(is:List CIns)(key:Nat)(s:St)(keep:List Nat)(nx:Nat)(fs:List Fr) :
  XQ cl (⟨dst,op,some (t,b)⟩::is) key s keep nx fs=XGQ cl (s.slots t) t b op dst is key s keep nx fs:=by
 rw[XQ,runQuiet,stepQuiet,guardA,XGQ.eq_def]
 cases h:s.slots t with
 | bool c =>
  simp only
  by_cases hc:c=b
  ·subst hc
   simp only[beq_self_eq_true,Xag,Zc6 h]
   rw[XQ,runQuiet,stepQuiet,guardA]
  ·have:(c == b)=false:=by simpa using hc
   rw[Xu hc,this]
   have hb:c=!b:=by cases c<;>cases b<;>simp_all
   rw[hb]at h
   simp only[Zc6 h]
   rw[XQ]
 | tup vs =>
  cases vs with
  | nil=>rfl
  | cons _ _=>rfl
 | _=>rfl
theorem Zrs(c:Bool)(t:Nat)(b:Bool)(op:COp)(dst:Option Nat)(is:List CIns)(key:Nat)(s:St)(keep:List Nat)(nx:Nat)(fs:List Fr) :
  XG cl (.bool c) t b op dst is key s keep nx fs=if c=b then XR cl (⟨dst,op,none⟩::is) key ⟨upd s.slots t (.bool b),s.heap,s.ep,s.next,s.base⟩ keep nx fs
  else XR cl is (key+64) ⟨putTo (upd s.slots t (.bool !b)) dst (.tup []),s.heap,s.ep,s.next,s.base⟩ keep nx fs:=by rw[XG]
theorem Zsx(t:Nat)(b:Bool)(op:COp)(dst:Option Nat)(is:List CIns)(key:Nat)(s:St)(keep:List Nat)(nx:Nat)(fs:List Fr) :
  XG cl (.tup []) t b op dst is key s keep nx fs=XR cl is (key+64) ⟨putTo s.slots dst (.tup []),s.heap,s.ep,s.next,s.base⟩ keep nx fs:=by rw[XG]
theorem Zqk(c:Bool)(t:Nat)(b:Bool)(op:COp)(dst:Option Nat)(is:List CIns)(key:Nat)(s:St)(keep:List Nat)(nx:Nat)(fs:List Fr) :
  XGQ cl (.bool c) t b op dst is key s keep nx fs=if c=b then XQ cl (⟨dst,op,none⟩::is) key ⟨upd s.slots t (.bool b),s.heap,s.ep,s.next,s.base⟩ keep nx fs
  else XQ cl is (key+64) ⟨putTo (upd s.slots t (.bool !b)) dst (.tup []),s.heap,s.ep,s.next,s.base⟩ keep nx fs:=by rw[XGQ]
theorem Zrr(t:Nat)(b:Bool)(op:COp)(dst:Option Nat)(is:List CIns)(key:Nat)(s:St)(keep:List Nat)(nx:Nat)(fs:List Fr) :
  XGQ cl (.tup []) t b op dst is key s keep nx fs=XQ cl is (key+64) ⟨putTo s.slots dst (.tup []),s.heap,s.ep,s.next,s.base⟩ keep nx fs:=by rw[XGQ]
theorem Zsv(w:Bool)(t:Nat)(a b:CCode)(s:St)(fs:List Fr):XC cl (.bool w) (.tmp t) a b s fs =
  if w=true then X cl (.code a::fs) (.normal,⟨upd s.slots t (.bool true),s.heap,s.ep,s.next,s.base⟩) else X cl (.code b::fs) (.normal,⟨upd s.slots t (.bool false),s.heap,s.ep,s.next,s.base⟩):=rfl
theorem Zqh(w:Bool)(v:AV)(a b:CCode)(s:St)(fs:List Fr):XC cl (.bool w) (.const v) a b s fs =
  if w=true then X cl (.code a::fs) (.normal,s) else X cl (.code b::fs) (.normal,s):=rfl
theorem Zrt(r:AExit×St)(fs:List Fr):XL cl (some r) fs=X cl fs r:=rfl
theorem Zp0(c:CCode)(s:St):runCode cl c s=X cl [.code c] (.normal,s):=by
 rw[X]
 cases runCode cl c s with
 | none=>rfl
 | some r=>simp only[X]
end
def fin(rs:List CRes)(n:Nat):Option (AExit×St)->Option (AV×List (Option AO))
 | some (.ret,s)=>endFn ⟨0,rs,.skip⟩ n s
 | some (.normal,s)=>endFn ⟨0,rs,.skip⟩ n s
 | _=>none
theorem Zsb(rs:List CRes)(n:Nat)(s:St):fin rs n (some (.ret,s))=endFn ⟨0,rs,.skip⟩ n s:=rfl
theorem Zn0(rs:List CRes)(n:Nat)(s:St):fin rs n (some (.normal,s))=endFn ⟨0,rs,.skip⟩ n s:=rfl
theorem Zsa(rs:List CRes)(n:Nat)(p:Prop)[Decidable p](a b:Option (AExit×St)):fin rs n (if p then a else b)=if p then fin rs n a else fin rs n b:=by split<;>rfl
theorem Zse{p:CProg}{k:Nat}{c:CFn}{args:List AV}{objs:List AO}{r:AV×List (Option AO)}(hc:p.fn k=some c)(hl:args.length<=c.nt)
  (h:fin c.res objs.length (X p.lim [.code c.body] (.normal,⟨startSlots args 0,startHeap objs 0,0,objs.length,objs.length⟩))=some r):p.lim k args objs=some r:=by
 refine Zs9 hc ?_
 rw[<- Zp0]at h
 rw[runFn,Xr hl]
 generalize runCode p.lim c.body ⟨startSlots args 0,startHeap objs 0,0,objs.length,objs.length⟩=q at h
 match q with
 | some (.ret,s)=>exact h
 | some (.normal,s)=>exact h
 | some (.exit i,s)=>cases h
 | none=>cases h
def sl:List (Nat×AV)->Nat->AV
 | []=>fun _=>.any
 | (t,v)::r=>upd (sl r) t v
def hp:List AO->Nat->Nat->Option AO
 | [],_=>fun _=>none
 | o::os,n=>upd (hp os (n+1)) n (some o)
def hd(vs:List (Nat×AV))(os:List AO)(base:Nat):St:=⟨sl vs,hp os 0,0,os.length,base⟩
theorem Zry{cl:Callee}(keep:List Nat)(b:CCode)(n:Nat)(fs:List Fr)(s:St) :
  XL cl (rounds (runCode cl b) keep (n+1) s) fs=X cl (.code b::.back (fun s'=>XL cl (rounds (runCode cl b) keep n s') fs)::fs) (.normal,s.norm keep):=by
 rw[rounds,X]
 cases h:runCode cl b (s.norm keep) with
 | none=>rfl
 | some r =>
  obtain⟨ex,s'⟩:=r
  cases ex<;>simp only[X,XL]
theorem Zaz{cl:Callee}{ρ σ:Type}{K:Option (AExit×St)->Option ρ}{keep:List Nat}{b:CCode}{fs:List Fr}(H:σ->St)(Inv:σ->Prop)(μ:σ->Nat)(G:σ->ρ)
  (step:∀ x Y,Inv x->(∀ y s',Inv y->μ y<μ x->s'.norm keep=H y->K (Y s')=some (G y))->K (X cl (.code b::.back Y::fs) (.normal,H x))=some (G x))
  (x:σ) {s:St} (hs:s.norm keep=H x) (hi:Inv x) (hm:μ x<big):K (X cl (.code (.loop keep b)::fs) (.normal,s))=some (G x):=by
 have h:∀ (n:Nat) (x:σ) (s:St),Inv x->μ x<n->s.norm keep=H x->K (XL cl (rounds (runCode cl b) keep n s) fs)=some (G x):=by
  intro n
  induction n with
  | zero=>intro x s _ hm;exact absurd hm (Nat.not_lt_zero _)
  | succ n ih =>
   intro x s hi hm hs
   rw[Zry,hs]
   exact step x _ hi (fun y s' h1 h2 h3=>ih y s' h1 (by omega) h3)
 rw[Zs2]
 exact h big x s hi hm hs
theorem Zaa{cl:Callee}{ρ α σ:Type}{K:Option (AExit×St)->Option ρ}{keep:List Nat}{b:CCode}{fs:List Fr}(xs:List α)(H:Nat->σ->St)(Inv:Nat->σ->Prop)(G:Nat->List α->σ->ρ)
  (stop:∀ acc Y,Inv xs.length acc->K (X cl (.code b::.back Y::fs) (.normal,H xs.length acc))=some (G xs.length [] acc))
  (step:∀ i a r acc Y,xs[i]?=some a->i<xs.length->r=xs.drop (i+1)->Inv i acc->(∀ acc' s',Inv (i+1) acc'->s'.norm keep=H (i+1) acc'->K (Y s')=some (G (i+1) r acc'))->K (X cl (.code b::.back Y::fs) (.normal,H i acc))=some (G i (a::r) acc))
  (acc:σ) {s:St} (hs:s.norm keep=H 0 acc) (hi:Inv 0 acc) (hl:xs.length<big):K (X cl (.code (.loop keep b)::fs) (.normal,s))=some (G 0 xs acc):=by
 have h:=Zaz (cl:=cl) (K:=K) (keep:=keep) (b:=b) (fs:=fs) (σ:=Nat×σ) (fun x=>H x.1 x.2) (fun x=>x.1<=xs.length/\Inv x.1 x.2) (fun x=>xs.length-x.1) (fun x=>G x.1 (xs.drop x.1) x.2) (fun ⟨i,acc⟩ Y ⟨h1,h2⟩ hY=>by
  simp only at h1 h2 hY ⊢
  rcases Xck i xs.length with h3|h3
  ·have h5:xs.drop i=xs[i]'h3::xs.drop (i+1):=Xah h3
   rw[h5]
   exact step i _ _ acc Y (Xd _) h3 rfl h2 (fun acc' s' h6 h7=>hY (i+1,acc') s' ⟨h3,h6⟩ (by simp only;omega) h7)
  ·obtain rfl:i=xs.length:=Nat.le_antisymm h1 h3
   rw[Xcq]
   exact stop acc Y h2) (0,acc) hs ⟨Xp _,hi⟩ (by simp only[Xcx];exact hl)
 simpa using h
theorem i64w{n:Int}(h1 : -9223372036854775808<=n)(h2:n<=9223372036854775807):IntKind.i64.wrap n=n:=by rw[IntKind.wrap_i64];omega
attribute [simp] Zti Zmt Zs1 Zj6 Zne Zjb Zlg Zs5 Zrw Zs4 Ztj Zrv Zs0 Zqp Zrx Zsz Zsy Zth Ztg Zru Zqm Zqo Zqn Zrs Zsx Zqk Zrr Zsv Zqh Zs3 Zsw Ztf Zql Zqi Zqj Zrq Zrt Zsb Zn0 Zsa
attribute [simp] keyOf sem Opd.ev Out.val Out.opt Out.app putTo upd wsOn St.forget keepSlots startSlots startHeap AV.parts loadFrom binAV binInt binStr endFn resVals resVal shutT shutV shut1 shutC shutL shutBoxes distinct outsOf outOf lendA lendAO AV.lend AV.lendO semCall passArgs lendV lendL lend1 giveV giveL give1 content openR openV openT open1 openL takeBack evL lay AV.snaps AV.ids AV.id? AV.snaps1 AV.plain Md.ok Md.isSnap kill fillParts fillRows absorb absorb1
attribute [simp] allClear clearOf Tr.clash Tr.meet mapMark meets COp.looks COp.opds bsnap inner Nat.testBit
attribute [simp] List.idxOf_cons
attribute [simp] sl hp hd St.norm rnSlots rnHeap rnV rn1 rnO addNew idsOfSlots idsOfBoxes
end Go.Proofs.YtgdfelbedghhnaaGreatDoor
namespace Go.Proofs.YtgdfelbedghhnaaGreatDoor
open Go
set_option linter.unusedSimpArgs false
/-! ### Texts -/
theorem Zac(x y:ByteArray):sEq x y=true↔x=y:=by
 unfold sEq
 rw[ByteArray.toList_eq,ByteArray.toList_eq,Xan]
 constructor
 ·intro h
  cases x;cases y
  congr
  exact Xcs h
 ·rintro rfl;rfl
theorem Zfw:∀ (x y:List UInt8),Op.bytesLess x y=decide (x<y)
 | [],[]=>by simp[Op.bytesLess]
 | _::_,[]=>by simp[Op.bytesLess]
 | [],_::_=>by simp[Op.bytesLess]
 | a::x,b::y=>by
  rw[Op.bytesLess,Zfw x y]
  simp only[List.cons_lt_cons_iff]
  by_cases h1:a<b<;>by_cases h2:a=b<;>by_cases h3:x<y<;>simp[h1,h2,h3]
theorem Zj1(x y:ByteArray):sLt x y=true↔x.data.toList<y.data.toList:=by
 unfold sLt
 rw[ByteArray.toList_eq,ByteArray.toList_eq,Zfw,Xj]
theorem Zao(x:ByteArray):sLt x x=false:=by
 rw[<- Xb2,Zj1]
 exact List.lt_irrefl _
theorem Zb4{x y z:ByteArray}(h:sLt x y=true)(k:sLt y z=true):sLt x z=true:=by
 rw[Zj1]at *
 exact List.lt_trans h k
theorem Zhw{x y:ByteArray}(h:sLt x y=false)(k:sLt y x=false):x=y:=by
 rw[<- Xb2,Zj1]at h k
 have:=List.le_antisymm (List.not_lt.1 h) (List.not_lt.1 k)
 cases x;cases y
 congr
 exact (Xcs this).symm
theorem Zp1{x y:ByteArray}(h:sLt x y=true):sLt y x=false:=by
 cases k:sLt y x with
 | false=>rfl
 | true=>have:=Zb4 h k;rw[Zao]at this;cases this
theorem Zk3{x y:ByteArray}(h:sLt x y=true):x≠y:=by
 rintro rfl
 rw[Zao]at h
 cases h
@[simp] theorem sEq_self(x:ByteArray):sEq x x=true:=(Zac x x).2 rfl
theorem Zad{x y:ByteArray}(h:x≠y):sEq x y=false:=by
 rw[<- Xb2,Zac];exact h
theorem Zeu(x y:ByteArray):sEq x y=sEq y x:=by
 by_cases h:x=y
 ·subst h;rfl
 ·rw[Zad h,Zad (Ne.symm h)]
/-! ### Sorting -/
theorem Zd7(c:Nat)(r:List AV):∀ xs:List (List AV),(insRow c r xs).Perm (r::xs)
 | []=>.refl _
 | x::xs=>by
  unfold insRow
  split
  ·exact .refl _
  ·exact ((Zd7 c r xs).cons x).trans (.swap _ _ _)
theorem Zbu(c:Nat):∀ xs:List (List AV),(sortRows c xs).Perm xs
 | []=>.refl _
 | r::rs=>by
  unfold sortRows
  exact (Zd7 c r _).trans ((Zbu c rs).cons r)
theorem Zmh{c:Nat}{x y z:List AV}(h:rowLt c x y=true)(k:rowLt c y z=true):rowLt c x z=true:=Zb4 h k
theorem Zmf{c:Nat}{x y:List AV}(h:rowLt c x y=true):rowLt c y x=false:=Zp1 h
def Diff(c:Nat)(xs:List (List AV)):Prop:=xs.Pairwise fun a b=>(keyAt c a).getD ByteArray.empty≠(keyAt c b).getD ByteArray.empty
theorem Zca(c:Nat):∀ {xs:List (List AV)},keysApart c xs=true->Diff c xs/\∀ r∈xs,∃ s,keyAt c r=some s
 | [],_=>⟨.nil,fun _ h=>by simp at h⟩
 | r::rs,h=>by
  simp only[keysApart,Xc,Xao,Xv]at h
  obtain⟨h1,h2,h3⟩:=h
  obtain⟨k1,k2⟩:=Zca c h3
  refine⟨.cons (fun x hx e=>?_) k1,fun x hx=>?_⟩
  ·have:=h2 x hx
   rw[e,sEq_self]at this
   cases this
  ·rcases Xl.1 hx with rfl|hx
   ·exact Option.isSome_iff_exists.1 h1
   ·exact k2 x hx
theorem Zmg{c:Nat}{x y:List AV}(h:(keyAt c x).getD ByteArray.empty≠(keyAt c y).getD ByteArray.empty)(k:rowLt c x y=false):rowLt c y x=true:=by
 cases e:rowLt c y x with
 | true=>rfl
 | false=>exact absurd (Zhw k e) h
theorem Zej{c:Nat}{r:List AV}:∀ {xs:List (List AV)},xs.Pairwise (fun a b=>rowLt c a b=true)->(∀ x∈xs,(keyAt c r).getD ByteArray.empty≠(keyAt c x).getD ByteArray.empty)->(insRow c r xs).Pairwise (fun a b=>rowLt c a b=true)
 | [],_,_=>Xbp _ _
 | x::xs,h,hd=>by
  unfold insRow
  have h1:=Xad.1 h
  split
  ·rename_i hlt
   refine .cons (fun y hy=>?_) h
   rcases Xl.1 hy with rfl|hy
   ·exact hlt
   ·exact Zmh hlt (h1.1 y hy)
  ·rename_i hlt
   have hlt':=Zmg (hd x Xi) (by simpa using hlt)
   refine .cons (fun y hy=>?_) (Zej h1.2 fun y hy=>hd y (Xh _ hy))
   rcases Xl.1 ((Zd7 c r xs).mem_iff.1 hy) with rfl|hy
   ·exact hlt'
   ·exact h1.1 y hy
theorem Zb5{c:Nat}:∀ {xs:List (List AV)},Diff c xs->(sortRows c xs).Pairwise (fun a b=>rowLt c a b=true)
 | [],_=>.nil
 | r::rs,h=>by
  have h1:=Xad.1 h
  exact Zej (Zb5 h1.2) fun x hx=>h1.1 x ((Zbu c rs).mem_iff.1 hx)
theorem Zfp{c:Nat}:∀ {xs ys:List (List AV)},xs.Perm ys->xs.Pairwise (fun a b=>rowLt c a b=true)->ys.Pairwise (fun a b=>rowLt c a b=true)->xs=ys
 | [],ys,h,_,_=>(List.nil_perm.1 h).symm
 | x::xs,[],h,_,_=>by cases List.perm_nil.1 h
 | x::xs,y::ys,h,h1,h2=>by
  have k1:=Xad.1 h1
  have k2:=Xad.1 h2
  have e:x=y:=by
   rcases Xl.1 (h.mem_iff.1 Xi) with e|hx
   ·exact e
   ·rcases Xl.1 (h.symm.mem_iff.1 Xi) with e|hy
    ·exact e.symm
    ·have:=Zmf (k2.1 x hx)
     rw[k1.1 y hy]at this
     cases this
  subst e
  rw[Zfp (List.Perm.cons_inv h) k1.2 k2.2]
theorem Zso{c:Nat}{xs:List (List AV)}{p:List Nat}{ks:Nat->ByteArray}(hk:keysApart c xs=true)(hp:p.Perm (List.range xs.length))(hks:∀ i r,xs[i]?=some r->keyAt c r=some (ks i))
  (hs:p.Pairwise fun a b=>sLt (ks b) (ks a)=false):sortRows c xs=p.map fun a=>xs.getD a []:=by
 obtain⟨hd,_⟩:=Zca c hk
 have e0:(List.range xs.length).map (fun a=>xs.getD a [])=xs:=by
  apply List.ext_getElem
  ·simp
  ·intro i h1 h2
   simp[List.getD,Xd h2]
 have hperm:(p.map fun a=>xs.getD a []).Perm xs:=by
  have:=hp.map (fun a=>xs.getD a [])
  rwa [e0]at this
 refine Zfp ((Zbu c xs).trans hperm.symm) (Zb5 hd) ?_
 have hnd:p.Nodup:=hp.nodup_iff.2 List.nodup_range
 have hkey:∀ a∈p,∃ r,xs[a]?=some r/\xs.getD a []=r/\keyAt c r=some (ks a):=fun a ha=>by
  have hlt:a<xs.length:=List.mem_range.1 (hp.mem_iff.1 ha)
  exact⟨xs[a],Xd hlt,by simp[List.getD,Xd hlt],hks a _ (Xd hlt)⟩
 rw[List.pairwise_map]
 have hboth:=List.Pairwise.and hs hnd
 refine hboth.imp_of_mem fun {a b} ha hb ⟨h1,h2⟩=>?_
 obtain⟨ra,ea,ga,ka⟩:=hkey a ha
 obtain⟨rb,eb,gb,kb⟩:=hkey b hb
 simp only[ga,gb]
 have hne:ks a≠ks b:=by
  intro e
  obtain⟨la,xa⟩:=Xa.1 ea
  obtain⟨lb,xb⟩:=Xa.1 eb
  have hpw:=Xbs.1 hd
  rcases Xcj a b with h|h|h
  ·have:=hpw a b la lb h
   rw[xa,xb,ka,kb]at this
   exact this (by simp[e])
  ·exact h2 h
  ·have:=hpw b a lb la h
   rw[xa,xb,ka,kb]at this
   exact this (by simp[e])
 cases e:rowLt c ra rb with
 | true=>rfl
 | false =>
  unfold rowLt at e
  rw[ka,kb]at e
  exact absurd (Zhw e h1) hne
def textsOf:List (List AV)->Option (List ByteArray)
 | []=>some []
 | [.str s]::r=>match textsOf r with
  | some xs=>some (s::xs)
  | none=>none
 | _=>none
def joinT(xs:List ByteArray)(sep:ByteArray):ByteArray:=⟨(Lib.join (xs.map (·.data.toList)) sep.data.toList).toArray⟩
def splitT(s sep:ByteArray):List ByteArray:=Lib.splitB sep 0 (Lib.countB s sep) s
def itoaT(n:Int):ByteArray:=⟨(Lib.itoa n).toArray⟩
def numT(s:ByteArray):Int:=match Lib.atoiAll s.data.toList with
 | .ok v=>v
 | _=>-1
def primGo(k:Nat)(args:List AV):Option (AV×List (Option AO)) :=
 if k=222 then match args with
  | [.str s,.str p]=>if s.size<=9223372036854775807 then some (.bool (Lib.hasSuffix s.data.toList p.data.toList),[]) else none
  | _=>none
 else if k=220 then match args with
  | [.str s,.str sep]=>if s.size<4294967281/\1<=sep.size then some (.sl .own 1 ((splitT s sep).map fun x=>[.str x]),[]) else none
  | _=>none
 else if k=230 then match args with
  | [.sl .bor 1 rows,.str sep]=>match textsOf rows with
   | some xs=>if xs.length<=140737488355328/\(joinT xs sep).size<=140737488355328 then some (.str (joinT xs sep),[]) else none
   | none=>none
  | _=>none
 else if k=231 then match args with
  | [.int .i64 n]=>if -9223372036854775808<=n/\n<=9223372036854775807 then some (.str (itoaT n),[]) else none
  | _=>none
 else if k=221 then match args with
  | [.str s]=>if s.size<=281474976710656 then some (.int .i64 (numT s),[]) else none
  | _=>none
 else none
def prim:Callee:=fun k args objs=>match objs with
 | []=>primGo k args
 | _=>none
end Go.Proofs.YtgdfelbedghhnaaGreatDoor
