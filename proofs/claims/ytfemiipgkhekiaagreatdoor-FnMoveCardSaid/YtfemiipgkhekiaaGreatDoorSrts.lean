/- The comparisons that this program hands to sort.Slice, and the library's contract at them. -/
import Derived.Test.YtfemiipgkhekiaaGreatDoorSortK
import Derived.Test.YtfemiipgkhekiaaGreatDoorChecked
import Derived.Shelf.Lay
import Derived.Deep.QuietTactic
import Derived.Ground.GgsProg
import Derived.KernelRfl
namespace Go.Proofs.YtfemiipgkhekiaaGreatDoor
open Go Go.Proofs Go.Shelf Go.RowKit Go.Lib Go.Sort
set_option maxRecDepth 100000
shelf_lay LaysGg.n6 Ggs 6 at Tryz as Tryz.sv6
set_option maxHeartbeats 2000000 in
theorem less183:LessFor Tryz.prog 64 2 0 3:=by
 intro W blk cap Bs n ks hs hc i j hi hj _
 have ci:=hc i hi
 have cj:=hc j hj
 simp only[Nat.zero_add,Nat.add_zero]at ci cj
 go_enter Tryz.func64,Tryz.ntmps64
 go_wp2
 go_quiet (fail)
 go_wp2
 go_ret
 exact⟨rfl,nq,rfl⟩
noncomputable def svT183:TypeInfo:=(Tryz.prog.info? 24).get (by kernel_rfl)
noncomputable def svE183:TypeInfo:=(Tryz.prog.info? 53).get (by kernel_rfl)
theorem srt183:SortOk Tryz.prog 57 64 24 2 0 3:=by
 refine sortOk_of Tryz.sv6 (f:=64) (t:=24) (e:=53) svT183 svE183 (by kernel_rfl) (by kernel_rfl) (by kernel_rfl) (by kernel_rfl) 25 (fun _=>by kernel_rfl) (by kernel_rfl) (fun _=>by kernel_rfl) (enters_of Tryz.func64 (by kernel_rfl) rfl) (enters_of Tryz.func57 (by kernel_rfl) rfl)
  ⟨93,by rw[swapperK_one];kernel_rfl⟩ (fun n h2=>⟨100,false,by rw[swapperK_nine h2 (by kernel_rfl) (by kernel_rfl)];kernel_rfl,fun args W=>run_callFunc_extern Tryz.func100 (by kernel_rfl) (by kernel_rfl) (by kernel_rfl) (e:=Extern.ReflectliteSwapper.swap false) (by kernel_rfl) args W⟩) less183
set_option maxHeartbeats 2000000 in
theorem less184:LessFor Tryz.prog 63 0 0 5:=by
 intro W blk cap Bs n ks hs hc i j hi hj _
 have ci:=hc i hi
 have cj:=hc j hj
 simp only[Nat.zero_add,Nat.add_zero]at ci cj
 go_enter Tryz.func63,Tryz.ntmps63
 go_wp2
 go_quiet (fail)
 go_wp2
 go_ret
 exact⟨rfl,nq,rfl⟩
noncomputable def svT184:TypeInfo:=(Tryz.prog.info? 23).get (by kernel_rfl)
noncomputable def svE184:TypeInfo:=(Tryz.prog.info? 67).get (by kernel_rfl)
theorem srt184:SortOk Tryz.prog 57 63 23 0 0 5:=by
 refine sortOk_of Tryz.sv6 (f:=63) (t:=23) (e:=67) svT184 svE184 (by kernel_rfl) (by kernel_rfl) (by kernel_rfl) (by kernel_rfl) 25 (fun _=>by kernel_rfl) (by kernel_rfl) (fun _=>by kernel_rfl) (enters_of Tryz.func63 (by kernel_rfl) rfl) (enters_of Tryz.func57 (by kernel_rfl) rfl)
  ⟨93,by rw[swapperK_one];kernel_rfl⟩ (fun n h2=>⟨100,false,by rw[swapperK_nine h2 (by kernel_rfl) (by kernel_rfl)];kernel_rfl,fun args W=>run_callFunc_extern Tryz.func100 (by kernel_rfl) (by kernel_rfl) (by kernel_rfl) (e:=Extern.ReflectliteSwapper.swap false) (by kernel_rfl) args W⟩) less184
set_option maxHeartbeats 2000000 in
theorem less247:LessFor Tryz.prog 58 0 0 11:=by
 intro W blk cap Bs n ks hs hc i j hi hj _
 have ci:=hc i hi
 have cj:=hc j hj
 simp only[Nat.zero_add,Nat.add_zero]at ci cj
 go_enter Tryz.func58,Tryz.ntmps58
 go_wp2
 go_quiet (fail)
 go_wp2
 go_ret
 exact⟨rfl,nq,rfl⟩
noncomputable def svT247:TypeInfo:=(Tryz.prog.info? 46).get (by kernel_rfl)
noncomputable def svE247:TypeInfo:=(Tryz.prog.info? 55).get (by kernel_rfl)
theorem srt247:SortOk Tryz.prog 57 58 46 0 0 11:=by
 refine sortOk_of Tryz.sv6 (f:=58) (t:=46) (e:=55) svT247 svE247 (by kernel_rfl) (by kernel_rfl) (by kernel_rfl) (by kernel_rfl) 25 (fun _=>by kernel_rfl) (by kernel_rfl) (fun _=>by kernel_rfl) (enters_of Tryz.func58 (by kernel_rfl) rfl) (enters_of Tryz.func57 (by kernel_rfl) rfl)
  ⟨93,by rw[swapperK_one];kernel_rfl⟩ (fun n h2=>⟨100,false,by rw[swapperK_nine h2 (by kernel_rfl) (by kernel_rfl)];kernel_rfl,fun args W=>run_callFunc_extern Tryz.func100 (by kernel_rfl) (by kernel_rfl) (by kernel_rfl) (e:=Extern.ReflectliteSwapper.swap false) (by kernel_rfl) args W⟩) less247
set_option maxHeartbeats 2000000 in
theorem less248:LessFor Tryz.prog 76 0 0 4:=by
 intro W blk cap Bs n ks hs hc i j hi hj _
 have ci:=hc i hi
 have cj:=hc j hj
 simp only[Nat.zero_add,Nat.add_zero]at ci cj
 go_enter Tryz.func76,Tryz.ntmps76
 go_wp2
 go_quiet (fail)
 go_wp2
 go_ret
 exact⟨rfl,nq,rfl⟩
noncomputable def svT248:TypeInfo:=(Tryz.prog.info? 47).get (by kernel_rfl)
noncomputable def svE248:TypeInfo:=(Tryz.prog.info? 97).get (by kernel_rfl)
theorem srt248:SortOk Tryz.prog 57 76 47 0 0 4:=by
 refine sortOk_of Tryz.sv6 (f:=76) (t:=47) (e:=97) svT248 svE248 (by kernel_rfl) (by kernel_rfl) (by kernel_rfl) (by kernel_rfl) 25 (fun _=>by kernel_rfl) (by kernel_rfl) (fun _=>by kernel_rfl) (enters_of Tryz.func76 (by kernel_rfl) rfl) (enters_of Tryz.func57 (by kernel_rfl) rfl)
  ⟨93,by rw[swapperK_one];kernel_rfl⟩ (fun n h2=>⟨100,false,by rw[swapperK_nine h2 (by kernel_rfl) (by kernel_rfl)];kernel_rfl,fun args W=>run_callFunc_extern Tryz.func100 (by kernel_rfl) (by kernel_rfl) (by kernel_rfl) (e:=Extern.ReflectliteSwapper.swap false) (by kernel_rfl) args W⟩) less248
end Go.Proofs.YtfemiipgkhekiaaGreatDoor
