/- law25.wakes: the document's example of chapter 25. -/
import Derived.Test.YtnpnndifhlihhaaFxConv
namespace Go.Proofs.Ytnpnndifhlihhaa
open Go.RowKit Go.Sl
set_option maxHeartbeats 400000
set_option maxRecDepth 100000
theorem wakes25 (w : World) : Calls Try.prog 20 #[] w fun e w' => e = .returned (.bool true) ∧ Below w.heap.size w w' := by
  go_enter Try.func20, Try.ntmps20
  go_wp2_with fail
  refine (convert_ok (some ⟨w.heap.size, 0, none⟩) 3 [⟨1, 1⟩, ⟨2, 1⟩, ⟨3, 1⟩] 500000 (Hp.one w.heap.size (.cells #[.int .i64 1, .int .i64 1, .int .i64 2, .int .i64 1, .int .i64 3, .int .i64 1] 27)) _ (Hp.one_sub (heap_new_at rfl)) (Sl.litItem (Hp.one_self _ _) rfl (by unfold maxLen; simp)) (by simp) (by omega) (by omega) (by simp [nearB]) (by simp [nearB, sumAmt])).mono ?_
  rintro e w1 ⟨C, cap, h', rfl, ho, hu⟩
  obtain ⟨b, off, rfl, c1, c2⟩ := ho.sl.item hu.sub (i := 0) (x := ⟨1, 1⟩) rfl
  have hd : partOf (sumAmt [⟨1, 1⟩, ⟨2, 1⟩, ⟨3, 1⟩]) 500000 - sumAmt (convItems [⟨1, 1⟩, ⟨2, 1⟩, ⟨3, 1⟩] 500000) = -1 := by decide
  rw [hd]
  simp only [Nat.zero_mul, Nat.add_zero] at c1 c2
  clear hd
  go_wp2
  go_ret
  exact ⟨rfl, (((Below.refl _ _).alloc (by simp) _).trans (hu.below.mono (by simp)))⟩
end Go.Proofs.Ytnpnndifhlihhaa
