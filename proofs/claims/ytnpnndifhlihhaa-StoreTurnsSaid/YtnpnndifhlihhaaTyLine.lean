/- What the type table says of api.Line. -/
import Derived.Test.YtnpnndifhlihhaaBase
import Derived.Test.YtnpnndifhlihhaaMore
namespace Go.Proofs.Ytnpnndifhlihhaa
open Go.RowKit Go.Sl
set_option maxHeartbeats 1000000
set_option maxRecDepth 100000
theorem info_line : Info Try.prog 39 (.agg #[.int .i64 0, .int .i64 0]) 2 16 := by unfold Info; kernel_rfl
end Go.Proofs.Ytnpnndifhlihhaa
