/- That the seat's library functions do as WmqLib says: the kit's contracts, laid at this program. -/
import Derived.Test.YtpiljklnekefoaaGreatDoorBind
import Derived.Test.YtpiljklnekefoaaGreatDoorProg
import Derived.Shelf.Lay
import Derived.KernelRfl
import Derived.Shelf.LaysM
import Derived.Shelf.Strconv.Itoa3
import Derived.Lib.AppendIntMem
import Derived.Shelf.Strings.OnBuilder
namespace Go.Proofs.YtpiljklnekefoaaGreatDoor
open Go Go.Proofs Go.Shelf Go.RowKit Go.Lib
shelf_lay Lays.n156 Nm 156 at Tryz as Tryz.lays156
theorem extra156 : Builder.Extra Tryz.prog Tryz.lays156_ren where
  sizeBuilder := by kernel_rfl
  liesBuilder := by kernel_rfl
  t5 := by kernel_rfl
  a5 := fun _ => by kernel_rfl
  z5 := fun _ => by kernel_rfl
  v5 := fun _ => by kernel_rfl
  infoByte := by kernel_rfl
  cellsByte := by kernel_rfl
  sizeByte := by kernel_rfl
  neB5 := by decide
shelf_lay LaysM.n171 Nm 171 at Tryz as Tryz.laysM171
theorem prims {fz : List (Nat × Obj)} (htab : ∀ w, FzIn fz w → Lib.TabIs Tryz.prog w "internal/strconv.uint64pow10" .u64 Lib.pow10Tab) : PrimsOk Tryz.prog num fz where
  sfx := fun f h => nomatch (show (none : Option FuncId) = some f from h)
  spl := fun f h => nomatch (show (none : Option FuncId) = some f from h)
  joi := fun f h a c xs sep w hfz hx hN hlen => by
    obtain rfl : 51 = f := Option.some.inj h
    refine ⟨enters_of Tryz.func51 (by kernel_rfl) rfl _ _, ?_⟩
    rcases hx with rfl | ⟨b, q, rfl, hb, hc, hcell⟩
    · refine (Any.strings_Join_none Tryz.lays156 extra156 a c sep w).mono fun e w' h => ?_
      obtain ⟨rfl, rfl⟩ := h
      exact ⟨_, rfl, .refl _ _, rfl⟩
    · refine (Any.strings_Join Tryz.lays156 extra156 b q c xs sep w hcell hb hN hc hlen).mono fun e w' h => ?_
      obtain ⟨rfl, hbel⟩ := h
      exact ⟨_, rfl, hbel, rfl⟩
  ito := fun f h n w hfz h0 h1 => by
    obtain rfl : 50 = f := Option.some.inj h
    refine ⟨enters_of Tryz.func50 (by kernel_rfl) rfl _ _, (Any.strconv_Itoa Tryz.laysM171 n h0 h1 w (htab w hfz)).mono fun e w' h => ?_⟩
    obtain ⟨rfl, k, os, rfl⟩ := h
    exact ⟨_, rfl, below_grow _ _ (Nat.le_refl _) k os, rfl⟩
  ato := fun f h => nomatch (show (none : Option FuncId) = some f from h)
end Go.Proofs.YtpiljklnekefoaaGreatDoor
