/- That the seat's library functions do as WmqLib says: the kit's contracts, laid at this program. -/
import Derived.Test.YtgdfelbedghhnaaGreatDoorBind
import Derived.Test.YtgdfelbedghhnaaGreatDoorProg
import Derived.Shelf.Lay
import Derived.KernelRfl
import Derived.Shelf.LaysM
import Derived.Shelf.Strconv.Itoa3
import Derived.Lib.AppendIntMem
import Derived.Shelf.Strings.OnBuilder
import Derived.Shelf.Strings.Split
import Derived.Lib.SplitLaws
import Derived.Shelf.Strconv.AtoiAll
import Derived.Lib.AtoiErrMem
import Derived.Ground.NamesProg
import Derived.WalkKit
import Derived.BigCall
import Derived.Shelf.Strings.Prefix
namespace Go.Proofs.YtgdfelbedghhnaaGreatDoor
open Go Go.Proofs Go.Shelf Go.RowKit Go.Lib
shelf_lay Lays.n156 Nm 156 at Tryz as Tryz.lays156
theorem extra156:Builder.Extra Tryz.prog Tryz.lays156_ren where
 sizeBuilder:=by kernel_rfl
 liesBuilder:=by kernel_rfl
 t5:=by kernel_rfl
 a5:=fun _=>by kernel_rfl
 z5:=fun _=>by kernel_rfl
 v5:=fun _=>by kernel_rfl
 infoByte:=by kernel_rfl
 cellsByte:=by kernel_rfl
 sizeByte:=by kernel_rfl
 neB5:=by decide
shelf_lay LaysM.n171 Nm 171 at Tryz as Tryz.laysM171
shelf_lay LaysM.n146 Nm 146 at Tryz as Tryz.laysM146
shelf_lay LaysC.n172 Nm 172 at Tryz as Tryz.laysC172
set_option maxRecDepth 100000 in
theorem read1(s:ByteArray)(hlim:s.size<=281474976710656)(ev0 ev1:Value)(w:World)(hv0:w.cell? ⟨Tryz.laysC172_ren.g 15,0,none⟩=some ev0)(he0:ev0=.nilIface\/∃ te pe,ev0=.iface te pe)(hv1:w.cell? ⟨Tryz.laysC172_ren.g 16,0,none⟩=some ev1)(he1:ev1=.nilIface\/∃ te pe,ev1=.iface te pe) :
  Calls Tryz.prog 89 #[.string s] w fun e w'=>e=.returned (.int .i64 (numT s))/\Below w.heap.size w w':=by
 have c0:∀ v,Lib.atoiAll s.data.toList=.ok v->Calls Tryz.prog 90 #[.string s] w fun e w'=>e=.returned (.tuple #[.int .i64 v,.nilIface])/\(w'=w\/∃ t,w'=Lib.bytesWorld w (Tryz.laysC172_ren.t 5) t):=fun v h=>Any.strconv_Atoi_ok Tryz.laysC172 s (by omega) v h w
 have c2:Lib.atoiAll s.data.toList=.range->Calls Tryz.prog 90 #[.string s] w fun e w'=>∃ N,e=.returned (.tuple #[.int .i64 (Lib.atoiSat s.data.toList),.iface (Tryz.laysC172_ren.t 168) (.pointer (some ⟨N,0,none⟩))])/\w.heap.size<=N/\w'.heap[N]?=some (.cells #[.string ⟨#[65,116,111,105]⟩,.string s,ev1] (Tryz.laysC172_ren.t 210) (0,0))/\Below w.heap.size w w':=fun h=>Any.strconv_Atoi_range Tryz.laysC172 s hlim h ev1 w hv1 he1
 cases h:Lib.atoiAll s.data.toList
 case ok v =>
  have hr:numT s=v:=by simp only[numT,h]
  rw[hr]
  go_enter Tryz.func89,Tryz.ntmps89
  go_wp2_with (go_at_call 90;refine (c0 v h).mono ?_;rintro e w' ⟨rfl,hw⟩)
  go_ret
  refine⟨rfl,?_⟩
  rcases hw with rfl|⟨t,rfl⟩
  ·exact Below.refl _ _
  ·exact Lib.bytesWorld_below _ _ _
 case range =>
  have hr:numT s = -1:=by simp only[numT,h]
  rw[hr]
  go_enter Tryz.func89,Tryz.ntmps89
  go_wp2_with (go_at_call 90;refine (c2 h).mono ?_)
  rintro e W1 ⟨N,rfl,-,-,hb⟩
  go_wp2
  go_ret
  exact⟨rfl,hb⟩
 have c1:Calls Tryz.prog 90 #[.string s] w fun e w'=>∃ N,e=.returned (.tuple #[.int .i64 (0),.iface (Tryz.laysC172_ren.t 168) (.pointer (some ⟨N,0,none⟩))])/\w.heap.size<=N/\w'.heap[N]?=some (.cells #[.string ⟨#[65,116,111,105]⟩,.string s,ev0] (Tryz.laysC172_ren.t 210) (0,0))/\Below w.heap.size w w':=Any.strconv_Atoi_syntax Tryz.laysC172 s hlim h ev0 w hv0 he0
 have hr:numT s = -1:=by simp only[numT,h]
 rw[hr]
 go_enter Tryz.func89,Tryz.ntmps89
 go_wp2_with (go_at_call 90;refine c1.mono ?_)
 rintro e W1 ⟨N,rfl,-,-,hb⟩
 go_wp2
 go_ret
 exact⟨rfl,hb⟩
shelf_lay Lays.n100 Nm 100 at Tryz as Tryz.lays100
theorem prims{fz:List (Nat×Obj)}(htab:∀ w,FzIn fz w→Lib.TabIs Tryz.prog w "internal/strconv.uint64pow10" .u64 Lib.pow10Tab)(hmax:∀ w,FzIn fz w→∃ m,w.cell? ⟨Tryz.laysM146_ren.g 1,0,none⟩=some (.int .i64 m))(hsyn:∀ w,FzIn fz w→∃ ev,w.cell? ⟨Tryz.laysC172_ren.g 15,0,none⟩=some ev∧(ev=.nilIface∨∃ te pe,ev=.iface te pe))(hrng:∀ w,FzIn fz w→∃ ev,w.cell? ⟨Tryz.laysC172_ren.g 16,0,none⟩=some ev∧(ev=.nilIface∨∃ te pe,ev=.iface te pe)):PrimsOk Tryz.prog num fz where
 sfx:=fun f h s p w _ hs=>by
  obtain rfl:87=f:=Option.some.inj h
  refine⟨enters_of Tryz.func87 (by kernel_rfl) rfl _ _,(Any.strings_HasSuffix Tryz.lays100 s p w hs).mono fun e w' h=>?_⟩
  obtain⟨rfl,rfl⟩:=h
  exact⟨_,rfl,.refl _ _,rfl⟩
 spl:=fun f h s sep w hfz hs h1=>by
  obtain rfl:88=f:=Option.some.inj h
  obtain⟨m,hm⟩:=hmax w hfz
  refine⟨enters_of Tryz.func88 (by kernel_rfl) rfl _ _,(Any.strings_Split { Tryz.laysM146 with } Tryz.laysM146.i9 s sep m w hs hm h1).mono fun e w' h=>?_⟩
  obtain⟨rfl,rfl⟩:=h
  have hl:(splitT s sep).length=Lib.countB s sep+1:=Lib.splitB_all sep h1 0 _ s rfl
  refine⟨_,rfl,(Below.refl _ _).alloc (Nat.le_refl _) _,by rw[hl],Tryz.laysM146_ren.t 9,?_⟩
  exact (Pushed.alloc w _).new
 joi:=fun f h a c xs sep w hfz hx hN hlen=>by
  obtain rfl:107=f:=Option.some.inj h
  refine⟨enters_of Tryz.func107 (by kernel_rfl) rfl _ _,?_⟩
  rcases hx with rfl|⟨b,q,rfl,hb,hc,hcell⟩
  ·refine (Any.strings_Join_none Tryz.lays156 extra156 a c sep w).mono fun e w' h=>?_
   obtain⟨rfl,rfl⟩:=h
   exact⟨_,rfl,.refl _ _,rfl⟩
  ·refine (Any.strings_Join Tryz.lays156 extra156 b q c xs sep w hcell hb hN hc hlen).mono fun e w' h=>?_
   obtain⟨rfl,hbel⟩:=h
   exact⟨_,rfl,hbel,rfl⟩
 ito:=fun f h n w hfz h0 h1=>by
  obtain rfl:106=f:=Option.some.inj h
  refine⟨enters_of Tryz.func106 (by kernel_rfl) rfl _ _,(Any.strconv_Itoa Tryz.laysM171 n h0 h1 w (htab w hfz)).mono fun e w' h=>?_⟩
  obtain⟨rfl,k,os,rfl⟩:=h
  exact⟨_,rfl,below_grow _ _ (Nat.le_refl _) k os,rfl⟩
 ato:=fun f h s w hfz hs=>by
  obtain rfl:89=f:=Option.some.inj h
  obtain⟨ev0,hv0,he0⟩:=hsyn w hfz
  obtain⟨ev1,hv1,he1⟩:=hrng w hfz
  refine⟨enters_of Tryz.func89 (by kernel_rfl) rfl _ _,(read1 s hs ev0 ev1 w hv0 he0 hv1 he1).mono fun e w' h=>?_⟩
  obtain⟨rfl,hb⟩:=h
  exact⟨_,rfl,hb,rfl⟩
end Go.Proofs.YtgdfelbedghhnaaGreatDoor
