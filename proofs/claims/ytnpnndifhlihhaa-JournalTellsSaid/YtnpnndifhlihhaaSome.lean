/- The walk of law06.Some, where nothing is turned. -/
import Derived.Test.YtnpnndifhlihhaaRight
import Derived.Test.YtnpnndifhlihhaaCopyLine
namespace Go.Proofs.Ytnpnndifhlihhaa
open Go.RowKit Go.Sl
set_option maxHeartbeats 400000
set_option maxRecDepth 100000
theorem someKeep_calls (A B : Option Addr) (ca cb : Nat) (ks ams : List Int) (at_ what : Int) (h k : Hp) (w : World) (hs : h.sub w) (qs : k.sub w) (sx : Sl kInt h A ca ks) (sy : Sl kInt k B cb ams)
    (hw : ∀ n ∈ ams, I64 n) (hwh : 6 ≤ within what 12) :
    Calls Try.prog 23 #[.slice A ks.length ca, .slice B ams.length cb, .int .i64 at_, .int .i64 what, .bool false] w fun e w' => ∃ C cap h', e = .returned (.slice C (rightL ks ams).length cap) ∧ Ow kItem h' C cap (rightL ks ams) ∧ Upd Hp.none h' w w' := by
  have R := playRight_calls A B ca cb ks ams h k w hs qs sx sy hw
  have hf := right_fine ks ams
  generalize rightL ks ams = L at *
  have hl := hf.len
  go_enter Try.func23, Try.ntmps23
  go_wp2_with fail
  refine R.mono ?_
  rintro e w1 ⟨C, cap, h1, rfl, o1, u1⟩
  by_cases h0 : L = []
  · subst h0
    go_wp2
    go_ret
    exact ⟨C, cap, h1, rfl, o1, u1⟩
  · have hp : 0 < L.length := List.length_pos_iff.2 h0
    have hz : ((L.length : Int) == 0) = false := by simp; omega
    have e0 : (within what 12 == 0) = false := by simp; omega
    have e1 : (within what 12 == 1) = false := by simp; omega
    have e2 : (within what 12 == 2) = false := by simp; omega
    have e3 : (within what 12 == 3) = false := by simp; omega
    have e4 : (within what 12 == 4) = false := by simp; omega
    have e5 : (within what 12 == 5) = false := by simp; omega
    go_wp2_with (go_at_call 16; refine (within_calls _ _ _ (by omega) (by omega)).mono ?_; rintro e w' ⟨rfl, rfl⟩)
    go_ret
    exact ⟨C, cap, h1, rfl, o1, u1⟩
end Go.Proofs.Ytnpnndifhlihhaa
