/- The comparisons that this program hands to sort.Slice, and the library's contract at them. -/
import Derived.Test.YtgpedkkhndljiaaSortK
import Derived.Test.YtgpedkkhndljiaaChecked
import Derived.Shelf.Lay
import Derived.Deep.QuietTactic
import Derived.Ground.GgsProg
import Derived.KernelRfl
namespace Go.Proofs.Ytgpedkkhndljiaa
open Go Go.Proofs Go.Shelf Go.RowKit Go.Lib Go.Sort
shelf_lay LaysGg.n6 Ggs 6 at Try as Try.sv6
set_option maxHeartbeats 2000000 in
theorem less183 : LessFor Try.prog 30 2 0 3 := by
  intro W blk cap Bs n ks hs hc i j hi hj _
  have ci := hc i hi
  have cj := hc j hj
  simp only [Nat.zero_add, Nat.add_zero] at ci cj
  go_enter Try.func30, Try.ntmps30
  go_wp2
  go_quiet (fail)
  go_wp2
  go_ret
  exact ⟨rfl, nq, rfl⟩
noncomputable def svT183 : TypeInfo := (Try.prog.info? 30).get (by kernel_rfl)
noncomputable def svE183 : TypeInfo := (Try.prog.info? 53).get (by kernel_rfl)
theorem srt183 : SortOk Try.prog 29 30 30 2 0 3 := by
  refine sortOk_of Try.sv6 (f := 30) (t := 30) (e := 53) svT183 svE183 (by kernel_rfl) (by kernel_rfl) (by kernel_rfl) (by kernel_rfl) 25 (fun _ => by kernel_rfl) (by kernel_rfl) (fun _ => by kernel_rfl) (enters_of Try.func30 (by kernel_rfl) rfl) (enters_of Try.func29 (by kernel_rfl) rfl)
    ⟨59, by rw [swapperK_one]; kernel_rfl⟩ (fun n h2 => ⟨66, false, by rw [swapperK_nine h2 (by kernel_rfl) (by kernel_rfl)]; kernel_rfl, fun args W => run_callFunc_extern Try.func66 (by kernel_rfl) (by kernel_rfl) (by kernel_rfl) (e := Extern.ReflectliteSwapper.swap false) (by kernel_rfl) args W⟩) less183
end Go.Proofs.Ytgpedkkhndljiaa
