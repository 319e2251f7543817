/- The comparisons that this program hands to sort.Slice, and the library's contract at them. -/
import Derived.Test.YtgdjnflnfeakjaaSortK
import Derived.Test.YtgdjnflnfeakjaaChecked
import Derived.Shelf.Lay
import Derived.Deep.QuietTactic
import Derived.Ground.GgsProg
import Derived.KernelRfl
namespace Go.Proofs.Ytgdjnflnfeakjaa
open Go Go.Proofs Go.Shelf Go.RowKit Go.Lib Go.Sort
shelf_lay LaysGg.n6 Ggs 6 at Try as Try.sv6
set_option maxHeartbeats 2000000 in
theorem less183 : LessFor Try.prog 39 2 0 3 := by
  intro W blk cap Bs n ks hs hc i j hi hj _
  have ci := hc i hi
  have cj := hc j hj
  simp only [Nat.zero_add, Nat.add_zero] at ci cj
  go_enter Try.func39, Try.ntmps39
  go_wp2
  go_quiet (fail)
  go_wp2
  go_ret
  exact ⟨rfl, nq, rfl⟩
noncomputable def svT183 : TypeInfo := (Try.prog.info? 24).get (by kernel_rfl)
noncomputable def svE183 : TypeInfo := (Try.prog.info? 54).get (by kernel_rfl)
theorem srt183 : SortOk Try.prog 26 39 24 2 0 3 := by
  refine sortOk_of Try.sv6 (f := 39) (t := 24) (e := 54) svT183 svE183 (by kernel_rfl) (by kernel_rfl) (by kernel_rfl) (by kernel_rfl) 25 (fun _ => by kernel_rfl) (by kernel_rfl) (fun _ => by kernel_rfl) (enters_of Try.func39 (by kernel_rfl) rfl) (enters_of Try.func26 (by kernel_rfl) rfl)
    ⟨54, by rw [swapperK_one]; kernel_rfl⟩ (fun n h2 => ⟨61, false, by rw [swapperK_nine h2 (by kernel_rfl) (by kernel_rfl)]; kernel_rfl, fun args W => run_callFunc_extern Try.func61 (by kernel_rfl) (by kernel_rfl) (by kernel_rfl) (e := Extern.ReflectliteSwapper.swap false) (by kernel_rfl) args W⟩) less183
set_option maxHeartbeats 2000000 in
theorem less184 : LessFor Try.prog 27 0 0 5 := by
  intro W blk cap Bs n ks hs hc i j hi hj _
  have ci := hc i hi
  have cj := hc j hj
  simp only [Nat.zero_add, Nat.add_zero] at ci cj
  go_enter Try.func27, Try.ntmps27
  go_wp2
  go_quiet (fail)
  go_wp2
  go_ret
  exact ⟨rfl, nq, rfl⟩
noncomputable def svT184 : TypeInfo := (Try.prog.info? 23).get (by kernel_rfl)
noncomputable def svE184 : TypeInfo := (Try.prog.info? 40).get (by kernel_rfl)
theorem srt184 : SortOk Try.prog 26 27 23 0 0 5 := by
  refine sortOk_of Try.sv6 (f := 27) (t := 23) (e := 40) svT184 svE184 (by kernel_rfl) (by kernel_rfl) (by kernel_rfl) (by kernel_rfl) 25 (fun _ => by kernel_rfl) (by kernel_rfl) (fun _ => by kernel_rfl) (enters_of Try.func27 (by kernel_rfl) rfl) (enters_of Try.func26 (by kernel_rfl) rfl)
    ⟨54, by rw [swapperK_one]; kernel_rfl⟩ (fun n h2 => ⟨61, false, by rw [swapperK_nine h2 (by kernel_rfl) (by kernel_rfl)]; kernel_rfl, fun args W => run_callFunc_extern Try.func61 (by kernel_rfl) (by kernel_rfl) (by kernel_rfl) (e := Extern.ReflectliteSwapper.swap false) (by kernel_rfl) args W⟩) less184
end Go.Proofs.Ytgdjnflnfeakjaa
