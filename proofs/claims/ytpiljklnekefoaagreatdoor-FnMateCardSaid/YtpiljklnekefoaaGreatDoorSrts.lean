/- The comparisons that this program hands to sort.Slice, and the library's contract at them. -/
import Derived.Test.YtpiljklnekefoaaGreatDoorSortK
import Derived.Test.YtpiljklnekefoaaGreatDoorChecked
import Derived.Shelf.Lay
import Derived.Deep.QuietTactic
import Derived.Ground.GgsProg
import Derived.KernelRfl
namespace Go.Proofs.YtpiljklnekefoaaGreatDoor
open Go Go.Proofs Go.Shelf Go.RowKit Go.Lib Go.Sort
set_option maxRecDepth 100000
shelf_lay LaysGg.n6 Ggs 6 at Tryz as Tryz.sv6
set_option maxHeartbeats 2000000 in
theorem less247 : LessFor Tryz.prog 28 0 0 11 := by
  intro W blk cap Bs n ks hs hc i j hi hj _
  have ci := hc i hi
  have cj := hc j hj
  simp only [Nat.zero_add, Nat.add_zero] at ci cj
  go_enter Tryz.func28, Tryz.ntmps28
  go_wp2
  go_quiet (fail)
  go_wp2
  go_ret
  exact ⟨rfl, nq, rfl⟩
noncomputable def svT247 : TypeInfo := (Tryz.prog.info? 24).get (by kernel_rfl)
noncomputable def svE247 : TypeInfo := (Tryz.prog.info? 39).get (by kernel_rfl)
theorem srt247 : SortOk Tryz.prog 27 28 24 0 0 11 := by
  refine sortOk_of Tryz.sv6 (f := 28) (t := 24) (e := 39) svT247 svE247 (by kernel_rfl) (by kernel_rfl) (by kernel_rfl) (by kernel_rfl) 25 (fun _ => by kernel_rfl) (by kernel_rfl) (fun _ => by kernel_rfl) (enters_of Tryz.func28 (by kernel_rfl) rfl) (enters_of Tryz.func27 (by kernel_rfl) rfl)
    ⟨82, by rw [swapperK_one]; kernel_rfl⟩ (fun n h2 => ⟨89, false, by rw [swapperK_nine h2 (by kernel_rfl) (by kernel_rfl)]; kernel_rfl, fun args W => run_callFunc_extern Tryz.func89 (by kernel_rfl) (by kernel_rfl) (by kernel_rfl) (e := Extern.ReflectliteSwapper.swap false) (by kernel_rfl) args W⟩) less247
set_option maxHeartbeats 2000000 in
theorem less248 : LessFor Tryz.prog 57 0 0 4 := by
  intro W blk cap Bs n ks hs hc i j hi hj _
  have ci := hc i hi
  have cj := hc j hj
  simp only [Nat.zero_add, Nat.add_zero] at ci cj
  go_enter Tryz.func57, Tryz.ntmps57
  go_wp2
  go_quiet (fail)
  go_wp2
  go_ret
  exact ⟨rfl, nq, rfl⟩
noncomputable def svT248 : TypeInfo := (Tryz.prog.info? 25).get (by kernel_rfl)
noncomputable def svE248 : TypeInfo := (Tryz.prog.info? 62).get (by kernel_rfl)
theorem srt248 : SortOk Tryz.prog 27 57 25 0 0 4 := by
  refine sortOk_of Tryz.sv6 (f := 57) (t := 25) (e := 62) svT248 svE248 (by kernel_rfl) (by kernel_rfl) (by kernel_rfl) (by kernel_rfl) 25 (fun _ => by kernel_rfl) (by kernel_rfl) (fun _ => by kernel_rfl) (enters_of Tryz.func57 (by kernel_rfl) rfl) (enters_of Tryz.func27 (by kernel_rfl) rfl)
    ⟨82, by rw [swapperK_one]; kernel_rfl⟩ (fun n h2 => ⟨89, false, by rw [swapperK_nine h2 (by kernel_rfl) (by kernel_rfl)]; kernel_rfl, fun args W => run_callFunc_extern Tryz.func89 (by kernel_rfl) (by kernel_rfl) (by kernel_rfl) (e := Extern.ReflectliteSwapper.swap false) (by kernel_rfl) args W⟩) less248
end Go.Proofs.YtpiljklnekefoaaGreatDoor
