/- What the type table says of api.Journal. -/
import Derived.Test.YtnpnndifhlihhaaBase
import Derived.Test.YtnpnndifhlihhaaMore
import Derived.Test.YtnpnndifhlihhaaStoreP
namespace Go.Proofs.Ytnpnndifhlihhaa
open Go.RowKit Go.Sl
set_option maxHeartbeats 1000000
set_option maxRecDepth 100000
theorem info_jou : Info Try.prog 70 (.agg #[.int .i64 0, .string ⟨#[]⟩, .int .i64 0, .int .i64 0, .int .i64 0, .slice none 0 0]) 6 72 := by unfold Info; kernel_rfl
end Go.Proofs.Ytnpnndifhlihhaa
