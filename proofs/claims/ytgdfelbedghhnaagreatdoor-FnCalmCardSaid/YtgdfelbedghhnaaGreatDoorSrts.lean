/- The comparisons that this program hands to sort.Slice, and the library's contract at them. -/
import Derived.Test.YtgdfelbedghhnaaGreatDoorSortK
import Derived.Test.YtgdfelbedghhnaaGreatDoorChecked
import Derived.Shelf.Lay
import Derived.Deep.QuietTactic
import Derived.Ground.GgsProg
import Derived.KernelRfl
namespace Go.Proofs.YtgdfelbedghhnaaGreatDoor
open Go Go.Proofs Go.Shelf Go.RowKit Go.Lib Go.Sort
set_option maxRecDepth 100000
shelf_lay LaysGg.n6 Ggs 6 at Tryz as Tryz.sv6
set_option maxHeartbeats 2000000 in
theorem less183:LessFor Tryz.prog 92 2 0 3:=by
 intro W blk cap Bs n ks hs hc i j hi hj _
 have ci:=hc i hi
 have cj:=hc j hj
 simp only[Nat.zero_add,Nat.add_zero]at ci cj
 go_enter Tryz.func92,Tryz.ntmps92
 go_wp2
 go_quiet (fail)
 go_wp2
 go_ret
 exact⟨rfl,nq,rfl⟩
noncomputable def svT183:TypeInfo:=(Tryz.prog.info? 24).get (by kernel_rfl)
noncomputable def svE183:TypeInfo:=(Tryz.prog.info? 67).get (by kernel_rfl)
theorem srt183:SortOk Tryz.prog 85 92 24 2 0 3:=by
 refine sortOk_of Tryz.sv6 (f:=92) (t:=24) (e:=67) svT183 svE183 (by kernel_rfl) (by kernel_rfl) (by kernel_rfl) (by kernel_rfl) 25 (fun _=>by kernel_rfl) (by kernel_rfl) (fun _=>by kernel_rfl) (enters_of Tryz.func92 (by kernel_rfl) rfl) (enters_of Tryz.func85 (by kernel_rfl) rfl)
  ⟨136,by rw[swapperK_one];kernel_rfl⟩ (fun n h2=>⟨143,false,by rw[swapperK_nine h2 (by kernel_rfl) (by kernel_rfl)];kernel_rfl,fun args W=>run_callFunc_extern Tryz.func143 (by kernel_rfl) (by kernel_rfl) (by kernel_rfl) (e:=Extern.ReflectliteSwapper.swap false) (by kernel_rfl) args W⟩) less183
set_option maxHeartbeats 2000000 in
theorem less184:LessFor Tryz.prog 91 0 0 5:=by
 intro W blk cap Bs n ks hs hc i j hi hj _
 have ci:=hc i hi
 have cj:=hc j hj
 simp only[Nat.zero_add,Nat.add_zero]at ci cj
 go_enter Tryz.func91,Tryz.ntmps91
 go_wp2
 go_quiet (fail)
 go_wp2
 go_ret
 exact⟨rfl,nq,rfl⟩
noncomputable def svT184:TypeInfo:=(Tryz.prog.info? 23).get (by kernel_rfl)
noncomputable def svE184:TypeInfo:=(Tryz.prog.info? 95).get (by kernel_rfl)
theorem srt184:SortOk Tryz.prog 85 91 23 0 0 5:=by
 refine sortOk_of Tryz.sv6 (f:=91) (t:=23) (e:=95) svT184 svE184 (by kernel_rfl) (by kernel_rfl) (by kernel_rfl) (by kernel_rfl) 25 (fun _=>by kernel_rfl) (by kernel_rfl) (fun _=>by kernel_rfl) (enters_of Tryz.func91 (by kernel_rfl) rfl) (enters_of Tryz.func85 (by kernel_rfl) rfl)
  ⟨136,by rw[swapperK_one];kernel_rfl⟩ (fun n h2=>⟨143,false,by rw[swapperK_nine h2 (by kernel_rfl) (by kernel_rfl)];kernel_rfl,fun args W=>run_callFunc_extern Tryz.func143 (by kernel_rfl) (by kernel_rfl) (by kernel_rfl) (e:=Extern.ReflectliteSwapper.swap false) (by kernel_rfl) args W⟩) less184
set_option maxHeartbeats 2000000 in
theorem less247:LessFor Tryz.prog 86 0 0 11:=by
 intro W blk cap Bs n ks hs hc i j hi hj _
 have ci:=hc i hi
 have cj:=hc j hj
 simp only[Nat.zero_add,Nat.add_zero]at ci cj
 go_enter Tryz.func86,Tryz.ntmps86
 go_wp2
 go_quiet (fail)
 go_wp2
 go_ret
 exact⟨rfl,nq,rfl⟩
noncomputable def svT247:TypeInfo:=(Tryz.prog.info? 54).get (by kernel_rfl)
noncomputable def svE247:TypeInfo:=(Tryz.prog.info? 64).get (by kernel_rfl)
theorem srt247:SortOk Tryz.prog 85 86 54 0 0 11:=by
 refine sortOk_of Tryz.sv6 (f:=86) (t:=54) (e:=64) svT247 svE247 (by kernel_rfl) (by kernel_rfl) (by kernel_rfl) (by kernel_rfl) 25 (fun _=>by kernel_rfl) (by kernel_rfl) (fun _=>by kernel_rfl) (enters_of Tryz.func86 (by kernel_rfl) rfl) (enters_of Tryz.func85 (by kernel_rfl) rfl)
  ⟨136,by rw[swapperK_one];kernel_rfl⟩ (fun n h2=>⟨143,false,by rw[swapperK_nine h2 (by kernel_rfl) (by kernel_rfl)];kernel_rfl,fun args W=>run_callFunc_extern Tryz.func143 (by kernel_rfl) (by kernel_rfl) (by kernel_rfl) (e:=Extern.ReflectliteSwapper.swap false) (by kernel_rfl) args W⟩) less247
set_option maxHeartbeats 2000000 in
theorem less248:LessFor Tryz.prog 109 0 0 4:=by
 intro W blk cap Bs n ks hs hc i j hi hj _
 have ci:=hc i hi
 have cj:=hc j hj
 simp only[Nat.zero_add,Nat.add_zero]at ci cj
 go_enter Tryz.func109,Tryz.ntmps109
 go_wp2
 go_quiet (fail)
 go_wp2
 go_ret
 exact⟨rfl,nq,rfl⟩
noncomputable def svT248:TypeInfo:=(Tryz.prog.info? 55).get (by kernel_rfl)
noncomputable def svE248:TypeInfo:=(Tryz.prog.info? 108).get (by kernel_rfl)
theorem srt248:SortOk Tryz.prog 85 109 55 0 0 4:=by
 refine sortOk_of Tryz.sv6 (f:=109) (t:=55) (e:=108) svT248 svE248 (by kernel_rfl) (by kernel_rfl) (by kernel_rfl) (by kernel_rfl) 25 (fun _=>by kernel_rfl) (by kernel_rfl) (fun _=>by kernel_rfl) (enters_of Tryz.func109 (by kernel_rfl) rfl) (enters_of Tryz.func85 (by kernel_rfl) rfl)
  ⟨136,by rw[swapperK_one];kernel_rfl⟩ (fun n h2=>⟨143,false,by rw[swapperK_nine h2 (by kernel_rfl) (by kernel_rfl)];kernel_rfl,fun args W=>run_callFunc_extern Tryz.func143 (by kernel_rfl) (by kernel_rfl) (by kernel_rfl) (e:=Extern.ReflectliteSwapper.swap false) (by kernel_rfl) args W⟩) less248
end Go.Proofs.YtgdfelbedghhnaaGreatDoor
