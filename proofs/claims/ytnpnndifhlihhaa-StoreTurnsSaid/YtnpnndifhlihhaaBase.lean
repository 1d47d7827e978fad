/- The walks of the small functions: keep.Within, play.Amount, rate.Money, rate.Of, and the document's Of. -/
import Derived.Test.YtnpnndifhlihhaaChecked
import Derived.Test.YtnpnndifhlihhaaPlain
import Derived.Test.YtnpnndifhlihhaaKinds
import Derived.Lib.Hide
namespace Go.Proofs.Ytnpnndifhlihhaa
open Go.RowKit Go.Sl
set_option maxHeartbeats 400000

theorem within_calls (v n : Int) (w : World) (h : 0 < n) (hn : n ≤ 9223372036854775807) :
    Calls Try.prog 16 #[.int .i64 v, .int .i64 n] w fun e w' => e = .returned (.int .i64 (within v n)) ∧ w = w' := by
  have h0 : (n == 0) = false := by simp; omega
  have h1 : decide (n < 1) = false := by simp; omega
  by_cases hk : v.tmod n < 0
  · have e := Lib.hid (tmod_emod_neg h hk)
    have hlo : -n < v.tmod n := Int.lt_tmod_of_pos _ h
    go_enter Try.func16, Try.ntmps16
    go_wp2
    go_ret
    exact ⟨by rw [e.out]; rfl, rfl⟩
  · have e := Lib.hid (tmod_emod_pos h hk)
    go_enter Try.func16, Try.ntmps16
    go_wp2
    go_ret
    exact ⟨by rw [e.out]; rfl, rfl⟩

theorem money_calls (n : Int) (w : World) : Calls Try.prog 65 #[.int .i64 n] w fun e w' => e = .returned (.bool (money n)) ∧ w = w' := by
  go_enter Try.func65, Try.ntmps65
  go_wp2
  all_goals
    go_ret
    exact ⟨by simp [money]; omega, rfl⟩

theorem of_calls (n r : Int) (w : World) : Calls Try.prog 55 #[.int .i64 n, .int .i64 r] w fun e w' => e = .returned (.tuple #[.int .i64 (ofVal n r), .bool (ofOk n r)]) ∧ w = w' := by
  by_cases hok : -400000000000 ≤ n ∧ n ≤ 400000000000 ∧ 0 ≤ r ∧ r ≤ 10000000
  · obtain ⟨h1, h2, h3, h4⟩ := hok
    obtain ⟨p1, p2⟩ := mul_bd h1 h2 h3 h4
    have e1 : ofOk n r = true := by simp [ofOk]; omega
    have e2 : ofVal n r = partOf n r := by simp [ofVal, e1]
    rw [e1, e2]
    clear e1 e2
    go_enter Try.func55, Try.ntmps55
    go_wp2
    all_goals first | (exfalso; omega) | skip
    all_goals
      go_ret2
      refine ⟨?_, rfl⟩
      unfold partOf
      first | (rw [if_pos (by assumption)]; rfl) | (rw [if_neg (by omega)]; rfl)
  · have e1 : ofOk n r = false := by simp [ofOk]; omega
    have e2 : ofVal n r = 0 := by simp [ofVal, e1]
    rw [e1, e2]
    clear e1 e2
    go_enter Try.func55, Try.ntmps55
    go_wp2
    all_goals first | (exfalso; omega) | skip
    all_goals
      go_ret2
      exact ⟨rfl, rfl⟩

theorem amount_calls (n : Int) (hw : -9223372036854775808 ≤ n ∧ n ≤ 9223372036854775807) (w : World) :
    Calls Try.prog 53 #[.int .i64 n] w fun e w' => e = .returned (.int .i64 (amount n)) ∧ w = w' := by
  obtain ⟨w1, w2⟩ := hw
  have a5 := within_lo (n.tdiv 23) (n := 5) (by omega)
  have b5 := within_hi (n.tdiv 23) (n := 5) (by omega)
  have a2 := within_lo (n.tdiv 23) (n := 200000000001) (by omega)
  have b2 := within_hi (n.tdiv 23) (n := 200000000001) (by omega)
  have a4 := within_lo n (n := 4001) (by omega)
  have b4 := within_hi n (n := 4001) (by omega)
  by_cases c1 : n.tmod 23 = 20
  · have b1 : (n.tmod 23 == 20) = true := by simpa using c1
    have e := Lib.hid (show amount n = 100000000000 - within (n.tdiv 23) 5 + 2 by simp [amount, c1])
    clear c1
    go_enter Try.func53, Try.ntmps53
    go_wp2_with (go_at_call 16; refine (within_calls _ _ _ (by omega) (by omega)).mono ?_; rintro e w' ⟨rfl, rfl⟩)
    go_ret
    exact ⟨by rw [e.out]; rfl, rfl⟩
  have b1 : (n.tmod 23 == 20) = false := by simpa using c1
  by_cases c2 : n.tmod 23 = 21
  · have b1 : (n.tmod 23 == 21) = true := by simpa using c2
    have e := Lib.hid (show amount n = -100000000000 + within (n.tdiv 23) 5 - 2 by simp [amount, c2])
    clear c1 c2
    go_enter Try.func53, Try.ntmps53
    go_wp2_with (go_at_call 16; refine (within_calls _ _ _ (by omega) (by omega)).mono ?_; rintro e w' ⟨rfl, rfl⟩)
    go_ret
    exact ⟨by rw [e.out]; rfl, rfl⟩
  have d1 : (n.tmod 23 == 21) = false := by simpa using c2
  by_cases c3 : n.tmod 23 = 22
  · have b1 : (n.tmod 23 == 22) = true := by simpa using c3
    have e := Lib.hid (show amount n = n by simp [amount, c3])
    clear c1 c2 c3
    go_enter Try.func53, Try.ntmps53
    go_wp2
    go_ret
    exact ⟨by rw [e.out]; rfl, rfl⟩
  have d2 : (n.tmod 23 == 22) = false := by simpa using c3
  by_cases c4 : n.tmod 23 = 19
  · have b1 : (n.tmod 23 == 19) = true := by simpa using c4
    have e := Lib.hid (show amount n = within (n.tdiv 23) 200000000001 - 100000000000 by simp [amount, c4])
    clear c1 c2 c3 c4
    go_enter Try.func53, Try.ntmps53
    go_wp2_with (go_at_call 16; refine (within_calls _ _ _ (by omega) (by omega)).mono ?_; rintro e w' ⟨rfl, rfl⟩)
    go_ret
    exact ⟨by rw [e.out]; rfl, rfl⟩
  · have d3 : (n.tmod 23 == 19) = false := by simpa using c4
    have e := Lib.hid (show amount n = within n 4001 - 2000 by simp [amount, c1, c2, c3, c4])
    clear c1 c2 c3 c4
    go_enter Try.func53, Try.ntmps53
    go_wp2_with (go_at_call 16; refine (within_calls _ _ _ (by omega) (by omega)).mono ?_; rintro e w' ⟨rfl, rfl⟩)
    go_ret
    exact ⟨by rw [e.out]; rfl, rfl⟩

theorem refOf_pos (n r : Int) (h : 0 ≤ n) (w : World) : Calls Try.prog 19 #[.int .i64 n, .int .i64 r] w fun e w' => e = .returned (.tuple #[.int .i64 (ofVal n r), .bool (ofOk n r)]) ∧ w = w' := by
  have hn : (n == 0) = true ∨ (n == 0) = false := by cases (n == 0) <;> simp
  by_cases hok : n ≤ 400000000000 ∧ 0 ≤ r ∧ r ≤ 10000000
  · obtain ⟨h2, h3, h4⟩ := hok
    obtain ⟨p1, p2⟩ := mul_bd (n := n) (by omega) h2 h3 h4
    have e1 : ofOk n r = true := by simp [ofOk]; omega
    have e2 : ofVal n r = partOf n r := by simp [ofVal, e1]
    have p3 : 0 ≤ n * r := Int.mul_nonneg h h3
    have p4 : n * r ≤ 4000000000000000000 := by rw [Int.mul_assoc] at p2; omega
    have p5 : partOf n r = if 2 * (n * r % 1000000) ≥ 1000000 then n * r / 1000000 + 1 else n * r / 1000000 := by
      unfold partOf
      rw [if_neg (by omega), Int.mul_assoc, Int.tdiv_eq_ediv_of_nonneg (by omega)]
      split <;> omega
    have P5 := Lib.hid p5
    rw [e1, e2]
    clear e1 e2 p1 p2 p5 hn
    go_enter Try.func19, Try.ntmps19
    go_wp2
    all_goals first | (exfalso; omega) | skip
    all_goals
      go_ret2
      refine ⟨?_, rfl⟩
      rw [P5.out]
      first | (rw [if_pos (by omega)]; rfl) | (rw [if_neg (by omega)]; rfl)
  · have e1 : ofOk n r = false := by simp [ofOk]; omega
    have e2 : ofVal n r = 0 := by simp [ofVal, e1]
    rw [e1, e2]
    clear e1 e2 hn
    go_enter Try.func19, Try.ntmps19
    go_wp2
    all_goals first | (exfalso; omega) | skip
    all_goals
      go_ret2
      exact ⟨rfl, rfl⟩
theorem refOf_calls (n r : Int) (w : World) : Calls Try.prog 19 #[.int .i64 n, .int .i64 r] w fun e w' => e = .returned (.tuple #[.int .i64 (ofVal n r), .bool (ofOk n r)]) ∧ w = w' := by
  by_cases h : 0 ≤ n
  · exact refOf_pos n r h w
  have hb := ofVal_neg n r
  by_cases hok : -400000000000 ≤ n ∧ 0 ≤ r ∧ r ≤ 10000000
  · obtain ⟨h2, h3, h4⟩ := hok
    have e1 : ofOk n r = true := by simp [ofOk]; omega
    have e3 := ofOk_neg n r
    have e2 : -ofVal (-n) r = ofVal n r := by omega
    obtain ⟨b1, b2⟩ := ofVal_bd (-n) r
    have E2 := Lib.hid e2
    have E1 := Lib.hid e1
    have C := refOf_pos (-n) r (by omega)
    rw [e3, e1] at C
    have hlt : n < 0 := by omega
    rw [e1]
    clear e1 e2 e3 hb h
    go_enter Try.func19, Try.ntmps19
    go_wp2_with (go_at_call 19; refine (C _).mono ?_; rintro e w' ⟨rfl, rfl⟩)
    all_goals first | (exfalso; omega) | skip
    all_goals
      go_ret2
      exact ⟨by rw [← E2.out]; rfl, rfl⟩
  · have e1 : ofOk n r = false := by simp [ofOk]; omega
    have e2 : ofVal n r = 0 := by simp [ofVal, e1]
    rw [e1, e2]
    clear e1 e2 hb
    go_enter Try.func19, Try.ntmps19
    go_wp2_with fail
    all_goals first | (exfalso; omega) | skip
    all_goals
      go_ret2
      exact ⟨rfl, rfl⟩
end Go.Proofs.Ytnpnndifhlihhaa
