/- law07.wakes: the document's example of chapter 7. -/
import Derived.Test.YtnpnndifhlihhaaStoreQ
namespace Go.Proofs.Ytnpnndifhlihhaa
open Go.RowKit Go.Sl
set_option maxHeartbeats 1000000
set_option maxRecDepth 100000
theorem wakes07 (w : World) : Calls Try.prog 41 #[] w fun e w' => e = .returned (.bool true) ∧ Below w.heap.size w w' := by
  have E0 := Env.start w
  have HE : Hid (postE [] ⟨#[97]⟩ 1 1 0 [⟨1, 5⟩, ⟨2, -5⟩] = 0) := postE_prov (by rw [tl_data]; simp) (by omega) (by decide) (by decide) (by decide)
  have HB : Hid (balance [⟨1, ⟨#[97]⟩, 1, 1, 0, [⟨1, 5⟩, ⟨2, -5⟩]⟩] ⟨#[97]⟩ 1 1 = 5) := by unfold Hid; simp [balance, share, netF, fewB, money, accSum]
  go_enter Try.func41, Try.ntmps41
  go_wp2_with fail
  refine (Sto.new E0).mono ?_
  rintro e w1 ⟨hS, b, rfl, S, E1⟩
  go_wp2_with fail
  refine (S.journals E1 0 rfl).mono ?_
  rintro e w2 ⟨C, cap, h2, rfl, _, E2⟩
  go_wp2_with fail
  refine (S.post_ok (E2.alloc _) 0 rfl (xs := [⟨1, 5⟩, ⟨2, -5⟩]) (Sl.lit (Hp.one_self _ _) (by unfold maxLen; decide)) ((E2.alloc _).sub 2 rfl) 2 rfl HE.out 1 rfl).mono ?_
  rintro e w3 ⟨h3, rfl, S3, E3⟩
  go_wp2_with fail
  refine (S3.balance E3 0 rfl HB.out).mono ?_
  rintro e w4 ⟨rfl, E4⟩
  go_wp2
  go_ret
  exact ⟨rfl, E4.low⟩
end Go.Proofs.Ytnpnndifhlihhaa
