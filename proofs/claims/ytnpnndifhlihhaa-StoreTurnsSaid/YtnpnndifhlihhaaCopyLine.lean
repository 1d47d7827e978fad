/- keep.Copy over api.Line. -/
import Derived.Test.YtnpnndifhlihhaaTyLine
namespace Go.Proofs.Ytnpnndifhlihhaa
open Go.RowKit Go.Sl
set_option maxHeartbeats 1000000
set_option maxRecDepth 100000
theorem copy_line (A : Option Addr) (ca : Nat) (xs : List SItem) (h : Hp) (w : World) (hs : h.sub w) (sx : Sl kItem h A ca xs) (hl : xs.length ≤ 1000000) :
    Calls Try.prog 25 #[.slice A xs.length ca] w fun e w' => ∃ C cap h', e = .returned (.slice C xs.length cap) ∧ Ow kItem h' C cap xs ∧ Upd Hp.none h' w w' := by
  go_enter Try.func25, Try.ntmps25
  go_wp2_with (at_builtin; refine wpList_clone (B := none) Try.underlying36 info_line (by rfl) (by rfl) rfl xs.length ca (by rfl) (by rfl) rfl kItem_flat sx hs (by omega) (by omega) ?_; intro C' cap' w1 h1 ho1 hu1)
  go_ret
  exact ⟨C', cap', h1, rfl, ho1, hu1⟩
end Go.Proofs.Ytnpnndifhlihhaa
