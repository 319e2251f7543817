/- The laws' own helpers, on parcels. -/
import Derived.Test.YtojihfiloldkgaaE7
namespace Go.Proofs.Ytojihfiloldkgaa
open Go
set_option linter.unusedSimpArgs false
set_option maxRecDepth 100000

structure Parcel.small (p : Parcel) : Prop where
  wants : p.wants.length ≤ 1048576

end Go.Proofs.Ytojihfiloldkgaa
