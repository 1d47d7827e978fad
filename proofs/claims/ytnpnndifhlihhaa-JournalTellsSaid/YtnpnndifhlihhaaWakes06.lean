/- law06.wakes: the document's example of chapter 6. -/
import Derived.Test.YtnpnndifhlihhaaCheck
import Derived.Test.YtnpnndifhlihhaaSameLine
namespace Go.Proofs.Ytnpnndifhlihhaa
open Go.RowKit Go.Sl
set_option maxHeartbeats 400000
set_option maxRecDepth 100000
theorem wakes06 (w : World) : Calls Try.prog 22 #[] w fun e w' => e = .returned (.bool true) ∧ Below w.heap.size w w' := by
  have C := mergeF_calls (some ⟨w.heap.size, 0, none⟩) 3 [⟨1, 5⟩, ⟨2, -5⟩, ⟨1, 2⟩] (Hp.one w.heap.size (.cells #[.int .i64 1, .int .i64 5, .int .i64 2, .int .i64 (-5), .int .i64 1, .int .i64 2] 39)) (w.alloc (.cells #[.int .i64 1, .int .i64 5, .int .i64 2, .int .i64 (-5), .int .i64 1, .int .i64 2] 39)) (Hp.one_sub (heap_new_at rfl)) (Sl.litItem (Hp.one_self _ _) rfl (by unfold maxLen; simp))
  have hm : mergeF [⟨1, 5⟩, ⟨2, -5⟩, ⟨1, 2⟩] = [⟨1, 7⟩, ⟨2, -5⟩] := by decide
  rw [hm] at C
  clear hm
  go_enter Try.func22, Try.ntmps22
  go_wp2_with fail
  refine C.mono ?_
  rintro e w1 ⟨D, cap, h', rfl, ho, hu⟩
  go_wp2_with fail
  refine (same_line D (some ⟨w1.heap.size, 0, none⟩) cap 2 [⟨1, 7⟩, ⟨2, -5⟩] [⟨1, 7⟩, ⟨2, -5⟩] h' (Hp.one w1.heap.size (.cells #[.int .i64 1, .int .i64 7, .int .i64 2, .int .i64 (-5)] 39)) _ (hu.sub.of_below ((Below.refl _ _).alloc (Nat.le_refl _) _)) (Hp.one_sub (heap_new_at rfl)) ho.sl (Sl.litItem (Hp.one_self _ _) rfl (by unfold maxLen; simp))).mono ?_
  rw [eqB_t rfl]
  rintro e w2 ⟨rfl, b2⟩
  go_wp2
  go_ret
  exact ⟨rfl, ((((Below.refl _ _).alloc (by simp) _).trans (hu.below.mono (by simp))).alloc (by have := hu.size; simp at this; omega) _).trans (b2.mono (by have := hu.size; simp at this ⊢; omega))⟩
end Go.Proofs.Ytnpnndifhlihhaa
