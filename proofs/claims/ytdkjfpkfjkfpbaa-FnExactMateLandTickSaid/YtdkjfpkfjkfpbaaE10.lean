/- The laws' own helpers, on parcels. -/
import Derived.Test.YtdkjfpkfjkfpbaaE7
namespace Go.Proofs.Ytdkjfpkfjkfpbaa
open Go
set_option linter.unusedSimpArgs false
set_option maxRecDepth 100000

structure Parcel.small (p : Parcel) : Prop where
  wants : p.wants.length ≤ 1048576

theorem law63 (p : Parcel) (hp : p.small) : F 63 [.agg (p.c .bor), .agg (p.c .bor)] [] = some (.bool true, []) := by
  refine F_run fn63 rfl ?_
  have := hp.wants
  simp [c63, law5 p.wants (by unfold big; omega)]

end Go.Proofs.Ytdkjfpkfjkfpbaa
