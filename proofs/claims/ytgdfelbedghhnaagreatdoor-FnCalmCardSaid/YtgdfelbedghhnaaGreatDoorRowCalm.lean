/- FnCalm: for every input the law returns true. -/
import Derived.Test.YtgdfelbedghhnaaGreatDoorB9
import Derived.Test.YtgdfelbedghhnaaGreatDoorBind
import Derived.Test.YtgdfelbedghhnaaGreatDoorB5
import Derived.Test.YtgdfelbedghhnaaGreatDoorRows
import Derived.Test.YtgdfelbedghhnaaGreatDoorB10
import Derived.Test.YtgdfelbedghhnaaGreatDoorPrims
import Derived.Test.YtgdfelbedghhnaaGreatDoorCards
import Derived.Test.YtgdfelbedghhnaaGreatDoorTie
import Derived.SevenTiedAt
import Derived.JoinedOf
import Derived.WalkKit
import Derived.ProofKit
import Derived.OpenShut
import Derived.ChangeOld
import Derived.Below
import Derived.SizedLaws
import Derived.KernelRfl
import Derived.Carry
namespace Go.Proofs.YtgdfelbedghhnaaGreatDoor.FnCalmRow
open Go.ChangeShapes Go.WideShapes Go.ChangeAt Go.RowKit Go.Proofs.YtgdfelbedghhnaaGreatDoor
theorem own:ownKnob Tryz.prog.godebug=none:=by kernel_rfl
theorem laidOut:laidOutB Tryz.prog=true:=by kernel_rfl
theorem params:Tryz.f3.params=#[Tryz.f3.params.getD 0 0,Tryz.f3.params.getD 1 0]:=by kernel_rfl
theorem readable0:Tryz.prog.readableRec (Tryz.f3.params.getD 0 0)=true:=by kernel_rfl
theorem inTable0:(Tryz.f3.params.getD 0 0)<Tryz.prog.types.size:=of_decide_eq_true (by kernel_rfl)
theorem shape0:shOf Tryz.prog 9 (Tryz.f3.params.getD 0 0)=some [.sl [.int .u8]]:=by kernel_rfl
theorem kind0:(match Tryz.prog.underlying (Tryz.f3.params.getD 0 0) with|some (.slice _)=>true|_=>false)=true:=by kernel_rfl
theorem readable1:Tryz.prog.readableRec (Tryz.f3.params.getD 1 0)=true:=by kernel_rfl
theorem inTable1:(Tryz.f3.params.getD 1 0)<Tryz.prog.types.size:=of_decide_eq_true (by kernel_rfl)
theorem shape1:shOf Tryz.prog 9 (Tryz.f3.params.getD 1 0)=some [.sl [.int .u8]]:=by kernel_rfl
theorem kind1:(match Tryz.prog.underlying (Tryz.f3.params.getD 1 0) with|some (.slice _)=>true|_=>false)=true:=by kernel_rfl
set_option maxRecDepth 100000 in
theorem calls{W:World}{v0 v1:Value}{fz:List (Nat×Obj)}(hfz:∀ p∈fz,W.heap[p.1]?=some p.2)(hp:PrimsOk Tryz.prog num fz){x0:List Int}(h0:ListWf Byte x0)(a0:ArgRel num W v0 (.sl .imm 1 (x0.map rowB))){x1:List Int}(h1:ListWf Byte x1)(a1:ArgRel num W v1 (.sl .imm 1 (x1.map rowB))):Calls Tryz.prog 3 #[v0,v1] W fun e W'=>e=.returned (.bool true)/\Below W.heap.size W W':=by
 have hC:=Zrk (tied hp) (k:=319) (f:=3) (by kernel_rfl) (Zqu x0 h0 x1 h1)
 exact Zpm Tryz.func3 rfl (by decide) hC hfz srt (.cons _ _ _ _ a0 (.cons _ _ _ _ a1 .nil))
/-- One start that fits: the listed variables hold what their initialisers lay. -/
noncomputable def low:Nat:=(World.holding Tryz.prog default ⟨#[],#[],[]⟩).heap.size
noncomputable def errT:TypeId:=match (List.range Tryz.prog.types.size).find? (fun u => Tryz.prog.typeName? 3 u == some "*errors.errorString") with|some u => u|none => 0
noncomputable def errE:TypeId:=match Tryz.prog.underlying errT with|some (.pointer u)=>u|_=>0
noncomputable def laidWorld(os:Os):World :=
 let w0:=World.holding Tryz.prog os ⟨#[.cells #[.string ⟨#[118,97,108,117,101,32,111,117,116,32,111,102,32,114,97,110,103,101]⟩] errE,.cells #[.string ⟨#[105,110,118,97,108,105,100,32,115,121,110,116,97,120]⟩] errE],#[],[]⟩
 { w0 with heap:=putVar (putVar (putVar (putVar (putVar (putVar (putVar (w0.heap) ((Tryz.prog.globalNamed "math/bits.deBruijn32tab").getD 0) #[.int .u8 0,.int .u8 1,.int .u8 28,.int .u8 2,.int .u8 29,.int .u8 14,.int .u8 24,.int .u8 3,.int .u8 30,.int .u8 22,.int .u8 20,.int .u8 15,.int .u8 25,.int .u8 17,.int .u8 4,.int .u8 8,.int .u8 31,.int .u8 27,.int .u8 13,.int .u8 23,.int .u8 21,.int .u8 19,.int .u8 16,.int .u8 7,.int .u8 26,.int .u8 12,.int .u8 18,.int .u8 6,.int .u8 11,.int .u8 5,.int .u8 10,.int .u8 9]) ((Tryz.prog.globalNamed "math/bits.deBruijn64tab").getD 0) #[.int .u8 0,.int .u8 1,.int .u8 56,.int .u8 2,.int .u8 57,.int .u8 49,.int .u8 28,.int .u8 3,.int .u8 61,.int .u8 58,.int .u8 42,.int .u8 50,.int .u8 38,.int .u8 29,.int .u8 17,.int .u8 4,.int .u8 62,.int .u8 47,.int .u8 59,.int .u8 36,.int .u8 45,.int .u8 43,.int .u8 51,.int .u8 22,.int .u8 53,.int .u8 39,.int .u8 33,.int .u8 30,.int .u8 24,.int .u8 18,.int .u8 12,.int .u8 5,.int .u8 63,.int .u8 55,.int .u8 48,.int .u8 27,.int .u8 60,.int .u8 41,.int .u8 37,.int .u8 16,.int .u8 46,.int .u8 35,.int .u8 44,.int .u8 21,.int .u8 52,.int .u8 32,.int .u8 23,.int .u8 11,.int .u8 54,.int .u8 26,.int .u8 40,.int .u8 15,.int .u8 34,.int .u8 20,.int .u8 31,.int .u8 10,.int .u8 25,.int .u8 14,.int .u8 19,.int .u8 9,.int .u8 13,.int .u8 8,.int .u8 7,.int .u8 6]) ((Tryz.prog.globalNamed "internal/strconv.uint64pow10").getD 0) #[.int .u64 1,.int .u64 10,.int .u64 100,.int .u64 1000,.int .u64 10000,.int .u64 100000,.int .u64 1000000,.int .u64 10000000,.int .u64 100000000,.int .u64 1000000000,.int .u64 10000000000,.int .u64 100000000000,.int .u64 1000000000000,.int .u64 10000000000000,.int .u64 100000000000000,.int .u64 1000000000000000,.int .u64 10000000000000000,.int .u64 100000000000000000,.int .u64 1000000000000000000,.int .u64 10000000000000000000]) ((Tryz.prog.globalNamed "unicode/utf8.acceptRanges").getD 0) #[.int .u8 128,.int .u8 191,.int .u8 160,.int .u8 191,.int .u8 128,.int .u8 159,.int .u8 144,.int .u8 191,.int .u8 128,.int .u8 143,.int .u8 0,.int .u8 0,.int .u8 0,.int .u8 0,.int .u8 0,.int .u8 0,.int .u8 0,.int .u8 0,.int .u8 0,.int .u8 0,.int .u8 0,.int .u8 0,.int .u8 0,.int .u8 0,.int .u8 0,.int .u8 0,.int .u8 0,.int .u8 0,.int .u8 0,.int .u8 0,.int .u8 0,.int .u8 0]) ((Tryz.prog.globalNamed "unicode/utf8.first").getD 0) (Go.Pinned.utf8FirstZ.map fun (z:Nat) => Value.int .u8 (z:Int)).toArray) ((Tryz.prog.globalNamed "strconv.ErrRange").getD 0) #[.iface errT (.pointer (some ⟨low+0,0,none⟩))]) ((Tryz.prog.globalNamed "strconv.ErrSyntax").getD 0) #[.iface errT (.pointer (some ⟨low+1,0,none⟩))] }
theorem laid_met(os:Os)(args:Array Value):laidMet Tryz.prog Rows.fnCalmRow.laid ((laidWorld os).forCall (fun _ _=>0) ⟨#[],args,[]⟩).memory:=laidMet_of_run' 8 (by kernel_rfl) (by kernel_rfl)
noncomputable def powT:TypeId:=((Tryz.prog.globals[((Tryz.prog.globalNamed "internal/strconv.uint64pow10").getD 0)]?).map (·.type)).getD 0
noncomputable def powE:TypeId:=match Tryz.prog.underlying powT with|some (.array _ u)=>u|_=>0
theorem powG:Tryz.prog.globalNamed "internal/strconv.uint64pow10" = some ((Tryz.prog.globalNamed "internal/strconv.uint64pow10").getD 0):=by kernel_rfl
theorem powTab{W:World}(h:laidMet Tryz.prog Rows.fnCalmRow.laid W):Lib.TabIs Tryz.prog W "internal/strconv.uint64pow10" .u64 Lib.pow10Tab:=by
 have e:(Rows.laid_internal_strconv_uint64pow10:DataW Unit)=Lib.tabData .u64 Lib.pow10Tab:=by kernel_rfl
 have h3:laidMet Tryz.prog (("internal/strconv.uint64pow10",Rows.laid_internal_strconv_uint64pow10)::[("unicode/utf8.acceptRanges",Rows.laid_unicode_utf8_acceptRanges),("strconv.ErrRange",Rows.laid_strconv_ErrRange),("strconv.ErrSyntax",Rows.laid_strconv_ErrSyntax),("unicode/utf8.first",Rows.laid_unicode_utf8_first)]) W:=h.tail.tail
 rw[e]at h3
 exact Lib.tabIs_of_head (t:=powT) (e:=powE) (n:=20) powG (by kernel_rfl) (by kernel_rfl) (by kernel_rfl) (by kernel_rfl) (by kernel_rfl) h3
/-- What is frozen, and that the library does as YtgdfelbedghhnaaGreatDoorLib says where it lies. -/
noncomputable def synT:TypeId:=((Tryz.prog.globals[Tryz.laysC172_ren.g 15]?).map (·.type)).getD 0
noncomputable def synM:Array (String×TypeId):=match Tryz.prog.underlying synT with|some (.interface ms)=>ms|_=>#[]
noncomputable def rngT:TypeId:=((Tryz.prog.globals[Tryz.laysC172_ren.g 16]?).map (·.type)).getD 0
noncomputable def rngM:Array (String×TypeId):=match Tryz.prog.underlying rngT with|some (.interface ms)=>ms|_=>#[]
theorem frozen{W:World}(hsh:W.ShapedOpen Tryz.prog)(h:laidMet Tryz.prog Rows.fnCalmRow.laid W):∃ fz:List (Nat×Obj),(∀ p∈fz,W.heap[p.1]?=some p.2)/\PrimsOk Tryz.prog num fz:=by
 obtain⟨t,fr,hb⟩:=Zqa powG (powTab h)
 obtain⟨m,hm⟩:=Tryz.laysM146.s1_3 W hsh
 obtain⟨o1,ho1⟩:=Ze9 hm
 obtain⟨e2,hv2,he2⟩:=Ziu (ti:=synT) (ms:=synM) ((h.tail.tail.tail.tail.tail:laidMet Tryz.prog (("strconv.ErrSyntax",Rows.laid_strconv_ErrSyntax)::[("unicode/utf8.first",Rows.laid_unicode_utf8_first)]) W)) Tryz.laysC172.m15 (by kernel_rfl) (by kernel_rfl)
 obtain⟨o2,ho2⟩:=Ze9 hv2
 obtain⟨e3,hv3,he3⟩:=Ziu (ti:=rngT) (ms:=rngM) ((h.tail.tail.tail.tail:laidMet Tryz.prog (("strconv.ErrRange",Rows.laid_strconv_ErrRange)::[("strconv.ErrSyntax",Rows.laid_strconv_ErrSyntax),("unicode/utf8.first",Rows.laid_unicode_utf8_first)]) W)) Tryz.laysC172.m16 (by kernel_rfl) (by kernel_rfl)
 obtain⟨o3,ho3⟩:=Ze9 hv3
 refine⟨[(_,.cells _ t fr),(Tryz.laysM146_ren.g 1,o1),(Tryz.laysC172_ren.g 15,o2),(Tryz.laysC172_ren.g 16,o3)],fun p hp=>?_,prims (fun w hfz=>Zlc powG (hfz _ (.head _)).2) (fun w hfz=>⟨m,?_⟩) (fun w hfz=>⟨e2,?_,he2⟩) (fun w hfz=>⟨e3,?_,he3⟩)⟩
 ·simp only[List.mem_cons,List.not_mem_nil,or_false]at hp
  rcases hp with rfl|rfl|rfl|rfl
  ·exact hb
  ·exact ho1
  ·exact ho2
  ·exact ho3
 ·rw[World.cell?_of_block (w:=W) ((hfz _ (.tail _ (.head _))).2.trans ho1.symm)];exact hm
 ·rw[World.cell?_of_block (w:=W) ((hfz _ (.tail _ (.tail _ (.head _)))).2.trans ho2.symm)];exact hv2
 ·rw[World.cell?_of_block (w:=W) ((hfz _ (.tail _ (.tail _ (.tail _ (.head _))))).2.trans ho3.symm)];exact hv3
set_option maxRecDepth 100000 in
theorem lifted(os:Os)(started:os.Started)(H:Type)(enc:TypeId×Value->H) :
  ReturnsInHanded {} Tryz.checked os 3 .any (fun w args=>(Rows.fnCalmSpec.pre enc Tryz.prog Tryz.f3 Rows.fnCalmRow.domain false w args/\laidMet Tryz.prog Rows.fnCalmRow.laid w)/\sizedMet enc Tryz.prog Tryz.f3 (OpenSpec.ofChange Rows.fnCalmSpec) false w args) (Rows.fnCalmSpec.post enc Tryz.prog Tryz.f3 false true false false):=by
 refine Zk1 (C:=Tryz.checked) (X:=fun w _=>laidMet Tryz.prog Rows.fnCalmRow.laid w) (fun _ _ _ hh h=>h.of_heap hh) own started (by kernel_rfl) Tryz.func3
  (ChangeSpec.witness_at (enc:=enc) (C:=Tryz.checked) (os:=os) (X:=fun w _=>laidMet Tryz.prog Rows.fnCalmRow.laid w) false (laidWorld os) #[.slice none 0 0,.slice none 0 0] 8 rfl (by kernel_rfl) (by kernel_rfl) (by kernel_rfl) (by kernel_rfl) (by kernel_rfl) (laid_met os _)) ?_
 intro W base args ds gs before hok hW hsh hL
 obtain⟨fz,hfz0,hp0⟩:=frozen hsh hL
 have hW':=hW
 obtain⟨p,q,hA0,hV,rfl,hfz,hnd⟩:=hW
 have hA:DataW.TrodAll enc Tryz.prog W 0 (fun _=>true) true Tryz.f3.params.toList args.toList ds p:=hA0
 rw[params]at hA
 obtain⟨v0,v1,d0,d1,p0,p1,rfl,rfl,rfl,t0,t1⟩:=trodAll_two hA
 obtain⟨rfl,rfl⟩:=trodVars_none hV
 have k0:=hok 0 (Tryz.f3.params.getD 0 0) v0 (by kernel_rfl) rfl
 obtain⟨y0,ht0⟩:∃ e,Tryz.prog.underlying (Tryz.f3.params.getD 0 0)=some (.slice e):=by
  have:=kind0
  split at this
  ·exact⟨_,‹_›⟩
  ·cases this
 obtain⟨c0,f0,a0⟩:=Zfu (num:=num) ht0 shape0 k0 t0
 obtain⟨x0,rfl,h0⟩:=Zkh (fun _=>Zmw) f0
 replace a0:=a0.imm
 have l0:∀ x∈p0,x.block<W.heap.size:=fun x hx=>hW'.lt x (by simp[hx])
 have k1:=hok 1 (Tryz.f3.params.getD 1 0) v1 (by kernel_rfl) rfl
 obtain⟨y1,ht1⟩:∃ e,Tryz.prog.underlying (Tryz.f3.params.getD 1 0)=some (.slice e):=by
  have:=kind1
  split at this
  ·exact⟨_,‹_›⟩
  ·cases this
 obtain⟨c1,f1,a1⟩:=Zfu (num:=num) ht1 shape1 k1 t1
 obtain⟨x1,rfl,h1⟩:=Zkh (fun _=>Zmw) f1
 replace a1:=a1.imm
 have l1:∀ x∈p1,x.block<W.heap.size:=fun x hx=>hW'.lt x (by simp[hx])
 clear hA0
 refine (calls hfz0 hp0 h0 a0 h1 a1).mono fun e W' ⟨he,hb⟩=>?_
 subst he
 have b0:=Below.trod laidOut readable0 inTable0 t0 hb l0
 have b1:=Below.trod laidOut readable1 inTable1 t1 hb l1
 refine⟨_,rfl,_,_,_,[],p0++p1,[],hW',trodAll_mk1 (shut_bool Tryz.underlying4 _),?_,rfl,hb.frame _,fun h=>by cases h⟩
 rw[params]
 exact trodAll_mk2 b0 b1
theorem band{a b:Bool}(h:a=true)(k:b=true):(a && b)=true:=by rw[h,k];rfl
theorem fact0:(Rows.fnCalmRow.wf (OpenSpec.ofChange Rows.fnCalmSpec):Bool)=true:=by kernel_rfl
theorem fact1:(laidOutB Tryz.prog:Bool)=true:=by kernel_rfl
theorem fact2:(mapsRowed Tryz.prog:Bool)=true:=by kernel_rfl
theorem fact3:(Tryz.f3.params.all (Tryz.prog.readableRec ·):Bool)=true:=by kernel_rfl
theorem fact4:(namedTie Tryz.prog Rows.fnCalmRow.named Rows.fnCalmSpec.vars:Bool)=true:=by kernel_rfl
theorem fact5:((Rows.fnCalmRow.stops == []):Bool)=true:=by kernel_rfl
theorem fact6:((Tryz.prog.stops == []):Bool)=true:=by kernel_rfl
theorem fact7:((Rows.fnCalmRow.knobs == []):Bool)=true:=by kernel_rfl
theorem fact8:((Tryz.prog.stopKnobs == []):Bool)=true:=by kernel_rfl
theorem fact9:((Rows.fnCalmRow.inPlace == Tryz.prog.inPlace 3):Bool)=true:=by kernel_rfl
theorem fact10:((Rows.fnCalmRow.unfollowed == Tryz.prog.unfollowed 3):Bool)=true:=by kernel_rfl
theorem fact11:((Rows.fnCalmRow.recurses == Tryz.prog.recurses 3):Bool)=true:=by kernel_rfl
theorem fact12:((Rows.fnCalmRow.named == Tryz.prog.varsNamed 3):Bool)=true:=by kernel_rfl
theorem fact13:((Rows.fnCalmRow.maps == (Tryz.f3.params.toList++Rows.fnCalmSpec.plain.varTypes Tryz.prog ).any (Tryz.prog.mapsRec ·)):Bool)=true:=by kernel_rfl
theorem fact14:((Rows.fnCalmRow.ifaces == (Tryz.f3.params.toList++Rows.fnCalmSpec.plain.varTypes Tryz.prog ).any (Tryz.prog.ifacesRec ·)):Bool)=true:=by kernel_rfl
theorem fact15:((Rows.fnCalmRow.mapsOut == Tryz.prog.mapsAmong Tryz.f3.resultTypes.toList):Bool)=true:=by kernel_rfl
theorem fact16:((Rows.fnCalmRow.loops == (Tryz.f3.params.toList++Rows.fnCalmSpec.plain.varTypes Tryz.prog ).any (Tryz.prog.loopsFrom ·)):Bool)=true:=by kernel_rfl
theorem fact17:((Rows.fnCalmRow.wideKeys == (Tryz.f3.params.toList++Rows.fnCalmSpec.plain.varTypes Tryz.prog++Tryz.f3.resultTypes.toList).any (Tryz.prog.wideKeysFrom ·)):Bool)=true:=by kernel_rfl
theorem fact18:(Rows.fnCalmSpec.vars.all (Tryz.prog.varReadable ·):Bool)=true:=by kernel_rfl
theorem fact19:(Tryz.f3.resultTypes.all (fun t=>Tryz.prog.readableRec t && decide (t<Tryz.prog.types.size)):Bool)=true:=by kernel_rfl
theorem fact20:((Rows.fnCalmRow.ifacesOut == Tryz.f3.resultTypes.toList.any (Tryz.prog.ifacesRec ·)):Bool)=true:=by kernel_rfl
theorem fact21:((Rows.fnCalmRow.loopsOut == Tryz.f3.resultTypes.toList.any (Tryz.prog.loopsFrom ·)):Bool)=true:=by kernel_rfl
theorem fact22:((Rows.fnCalmRow.plainKeys == Tryz.prog.plainKeys):Bool)=true:=by kernel_rfl
theorem fact23:(Rows.fnCalmRow.shortTexts.isNone:Bool)=true:=by kernel_rfl
theorem fact24:(Tryz.prog.stopsHeard:Bool)=true:=by kernel_rfl
theorem fact25:(Tryz.prog.mayEnter:Bool)=true:=by kernel_rfl
theorem fact26:((Rows.fnCalmRow.lifted == Tryz.prog.liftsFinal):Bool)=true:=by kernel_rfl
theorem fact27:((Tryz.prog.make == some Rows.fnCalmRow.make):Bool)=true:=by kernel_rfl
theorem fact28:((Rows.fnCalmRow.kinds == (if Rows.fnCalmRow.domain.isEmpty then [] else Tryz.f3.params.toList.map fun t=>match Tryz.prog.underlying t with|some (.int k)=>some k|_=>none)):Bool)=true:=by kernel_rfl
theorem fact29:((Rows.fnCalmRow.pinned == Rows.fnCalmRow.pinnedBy):Bool)=true:=by kernel_rfl
theorem fact30:((Rows.fnCalmRow.veiled == (Tryz.f3.params.toList++Rows.fnCalmSpec.plain.varTypes Tryz.prog++Tryz.f3.resultTypes.toList).any (Tryz.prog.veiledRec ·)):Bool)=true:=by kernel_rfl
theorem fact31:(Rows.fnCalmRow.veiledFits Tryz.prog Tryz.f3.params.toList (Tryz.f3.params.toList++Rows.fnCalmSpec.plain.varTypes Tryz.prog++Tryz.f3.resultTypes.toList):Bool)=true:=by kernel_rfl
set_option maxRecDepth 100000 in
theorem joined:joinedFacts Tryz.prog 3 Tryz.f3 Rows.fnCalmSpec Rows.fnCalmRow=true:=band (band (band (band (band (band (band (band (band (band (band (band (band (band (band (band (band (band (band (band (band (band (band (band (band (band (band (band (band (band (band fact0 fact1) fact2) fact3) fact4) fact5) fact6) fact7) fact8) fact9) fact10) fact11) fact12) fact13) fact14) fact15) fact16) fact17) fact18) fact19) fact20) fact21) fact22) fact23) fact24) fact25) fact26) fact27) fact28) fact29) fact30) fact31
theorem over:Rows.fnCalmRow.holds Tryz.pinned (OpenSpec.ofChange Rows.fnCalmSpec) :=
 OpenClaim.holds_of_wide 3 Tryz.f3 rfl rfl rfl rfl rfl rfl rfl ⟨rfl,rfl,rfl,rfl,rfl⟩ rfl rfl rfl rfl rfl (by kernel_rfl) Tryz.func3 joined
  (of_decide_eq_true (by kernel_rfl)) (by unfold Func.isWrapper;first|(rw[if_pos (by decide +kernel)];kernel_rfl)|(rw[if_neg (by decide +kernel)];exact⟨rfl,rfl⟩))
  (fun os started H enc _=>lifted os started H enc)
end Go.Proofs.YtgdfelbedghhnaaGreatDoor.FnCalmRow
namespace Go.Proofs.YtgdfelbedghhnaaGreatDoor
open FnCalmRow
theorem fnCalm_holds:YtgdfelbedghhnaaGreatDoor.Rows.FnCalmCardSaid :=
 Claim7.holds_tied_plain_at .later [] [.data,.data,.data,.data,.sentinel,.sentinel,.pinned] true (true, "3fdeaa1b490e081363619a1769b543a2a29efb72b842cd95b1bc0bc8fbfccccc") true
  FnCalmRow.over (fun _ h=>by cases h) (by kernel_rfl) (fun _ h=>by cases h) YtgdfelbedghhnaaGreatDoor.fnCalm_row_tie rfl ⟨rfl,rfl⟩ (by kernel_rfl) rfl
  (fun f fn hf hfn=>by
   obtain rfl:f=3:=Option.some.inj ((show Tryz.prog.funcNamed "loop.example/wharfmate/laws.FnCalm" = some 3 by kernel_rfl).symm.trans hf) |>.symm
   obtain rfl:fn=Tryz.f3:=(Option.some.inj (Tryz.func3.symm.trans hfn)).symm
   refine⟨by kernel_rfl,fun j t ht=>?_⟩
   rw[params]at ht
   match j,ht with
   | 0,ht=>obtain rfl:(Tryz.f3.params.getD 0 0)=t:=Option.some.inj ht;exact (show Tryz.prog.wantsStandIn (Tryz.f3.params.getD 0 0)=false by kernel_rfl)
   | 1,ht=>obtain rfl:(Tryz.f3.params.getD 1 0)=t:=Option.some.inj ht;exact (show Tryz.prog.wantsStandIn (Tryz.f3.params.getD 1 0)=false by kernel_rfl)
   | j+2,ht=>simp at ht)
  (by kernel_rfl)
end Go.Proofs.YtgdfelbedghhnaaGreatDoor
