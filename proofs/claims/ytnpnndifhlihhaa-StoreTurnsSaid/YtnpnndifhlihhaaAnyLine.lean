/- slices.ContainsFunc over api.Line, whatever the predicate. -/
import Derived.Test.YtnpnndifhlihhaaIdxLine
import Derived.Test.YtnpnndifhlihhaaIdx
import Derived.Shelf.Abstract
namespace Go.Proofs.Ytnpnndifhlihhaa
open Go.RowKit Go.Sl
set_option maxHeartbeats 1000000
set_option maxRecDepth 100000
theorem containsFunc_line (g : FuncId) (lb : Array Value) (eg : Enters Try.prog g) (p : SItem → Bool) (A : Option Addr) (ca : Nat) (xs : List SItem) (h : Hp) (w : World) (hs : h.sub w) (sx : Sl kItem h A ca xs)
    (hp : ∀ (x : SItem) (W : World), Below w.heap.size w W → Calls Try.prog g (#[.agg #[.int .i64 x.kind, .int .i64 x.amt]] ++ lb) W fun e W' => e = .returned (.bool (p x)) ∧ Below W.heap.size W W') :
    Calls Try.prog 79 #[.slice A xs.length ca, .func (.func g) #[] lb] w fun e w' => e = .returned (.bool (xs.any p)) ∧ Below w.heap.size w w' := by
  have C := indexFunc_line g lb eg p A ca xs h w hs sx hp
  have HI := Lib.hid (idx_any p xs)
  go_enter Try.func79, Try.ntmps79
  go_wp2_with fail
  refine C.mono ?_
  rintro e w1 ⟨rfl, b1⟩
  go_wp2
  go_ret
  exact ⟨by rw [← HI.out]; rfl, b1⟩
end Go.Proofs.Ytnpnndifhlihhaa
