/- keep.Copy of lines. -/
import Derived.Test.YtnpnndifhlihhaaJournal
namespace Go.Proofs.Ytnpnndifhlihhaa
open Go.RowKit Go.Sl
set_option maxHeartbeats 400000
set_option maxRecDepth 100000
theorem copy_line (A : Option Addr) (ca : Nat) (xs : List SItem) (h : Hp) (w : World) (hs : h.sub w) (sx : Sl kItem h A ca xs) (hl : xs.length ≤ 1000000) :
    Calls Try.prog 25 #[.slice A xs.length ca] w fun e w' => ∃ C cap h', e = .returned (.slice C xs.length cap) ∧ Ow kItem h' C cap xs ∧ Upd Hp.none h' w w' := by
  obtain ⟨i0, hi, hz0, hz1, hz2⟩ := info_parts Try.infoLine
  go_enter Try.func25, Try.ntmps25
  go_wp2_with (at_builtin; refine wpList_append (k := kItem) (h := Hp.none) (hx := Hp.none) (A := none) (cap := 0) (B := A) (xs := []) (ys := xs) (by rfl) (.const (.slice none 0 0)) (.tmp 3) 36 (by rfl) 39 i0 (.agg #[.int .i64 0, .int .i64 0]) Try.underlying36 hi hz0 hz1 (by rfl) 16 hz2 0 xs.length ca rfl rfl (by rfl) (by rfl) (Ow.none _ _) (Hp.none_sub _) ((sx.src hs).flat kItem_flat _) (Hp.none_sub _) (Hp.apart_none _) (by unfold maxLen; omega) (by omega) ?_; intro C' cap' w1 h1 ho1 hu1)
  go_ret
  exact ⟨C', cap', h1, by simp, by simpa using ho1, hu1.flat⟩
end Go.Proofs.Ytnpnndifhlihhaa
