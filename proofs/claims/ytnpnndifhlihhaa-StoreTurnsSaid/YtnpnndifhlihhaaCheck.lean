/- The walks of journal.right and journal.Check. -/
import Derived.Test.YtnpnndifhlihhaaJournal
namespace Go.Proofs.Ytnpnndifhlihhaa
open Go.RowKit Go.Sl
set_option maxHeartbeats 400000
set_option maxRecDepth 100000
theorem right_calls (x : SItem) (w : World) : Calls Try.prog 56 #[.agg #[.int .i64 x.kind, .int .i64 x.amt]] w fun e w' => e = .returned (.bool (lineB x)) ∧ Below w.heap.size w w' := by
  by_cases hi : isB x.kind = true
  · have hr : 1 ≤ x.kind ∧ x.kind ≤ 7 := by simpa [isB] using hi
    by_cases h0 : x.amt = 0
    · have HB : Hid (lineB x = false) := by unfold Hid lineB; simp [h0]
      have hb : (x.amt != 0) = false := by simpa using h0
      have C := fun W : World => Lib.hid (name_yes x.kind W hi)
      clear h0 hi hr
      go_enter Try.func56, Try.ntmps56
      go_wp2_with (go_at_call 78; refine (C _).out.mono ?_; rintro e w1 ⟨c, l, rfl, b1⟩; have hc1 : w1.cell? ⟨w.heap.size, 1, none⟩ = some (.int .i64 x.amt) := (b1.cell (by simp)).trans (by simp))
      go_ret
      exact ⟨by rw [HB.out]; rfl, ((Below.refl _ _).alloc (Nat.le_refl _) _).trans (b1.mono (by simp))⟩
    · have HB : Hid (lineB x = money x.amt) := by unfold Hid lineB; rw [decide_eq_true (by omega), Bool.true_and]
      have hb : (x.amt != 0) = true := by simpa using h0
      have C := fun W : World => Lib.hid (name_yes x.kind W hi)
      clear h0 hi hr
      go_enter Try.func56, Try.ntmps56
      go_wp2_with (first
        | (go_at_call 78; refine (C _).out.mono ?_; rintro e w1 ⟨c, l, rfl, b1⟩; have hc1 : w1.cell? ⟨w.heap.size, 1, none⟩ = some (.int .i64 x.amt) := (b1.cell (by simp)).trans (by simp))
        | (go_at_call 65; refine (money_calls _ _).mono ?_; rintro e w' ⟨rfl, rfl⟩))
      go_ret
      exact ⟨by rw [HB.out]; rfl, ((Below.refl _ _).alloc (Nat.le_refl _) _).trans (b1.mono (by simp))⟩
  · have hi' : isB x.kind = false := by simpa using hi
    have HB : Hid (lineB x = false) := by
      unfold Hid lineB
      have : ¬ (1 ≤ x.kind ∧ x.kind ≤ 7) := by simpa [isB] using hi
      rw [decide_eq_false (by omega), Bool.false_and]
    have C := fun W : World => Lib.hid (name_no x.kind W hi')
    clear hi hi'
    go_enter Try.func56, Try.ntmps56
    go_wp2_with (go_at_call 78; refine (C _).out.mono ?_; rintro e w1 ⟨rfl, rfl⟩)
    go_ret
    exact ⟨by rw [HB.out]; rfl, (Below.refl _ _).alloc (Nat.le_refl _) _⟩
/-- Where lines stop to be right, or all are. -/
theorem rising_step {a : Int} {x : SItem} {xs : List SItem} (h1 : lineB x = true) (h2 : a < x.kind) : risingB a (x :: xs) = risingB x.kind xs := by
  simp [risingB, h1, h2]
theorem rising_stop {a : Int} {x : SItem} {xs : List SItem} (h : lineB x = false ∨ ¬ a < x.kind) : risingB a (x :: xs) = false := by
  rcases h with h | h <;> simp [risingB, h]
theorem check_calls (A : Option Addr) (ca : Nat) (xs : List SItem) (h : Hp) (w : World) (hs : h.sub w) (sx : Sl kItem h A ca xs) :
    Calls Try.prog 21 #[.slice A xs.length ca] w fun e w' => e = .returned (.int .i64 (checkE xs)) ∧ Below w.heap.size w w' := by
  have m1 := sx.small
  by_cases hl : xs.length ≤ 20
  · have e1 : decide (20 < (xs.length : Int)) = false := by simp; omega
    have d1 := debs_le xs
    have d2 := cres_le xs
    have HC : Hid (checkB xs = (risingB 0 xs && eqB (debs xs) (cres xs))) := by unfold Hid checkB; rw [decide_eq_true hl, Bool.true_and]; rfl
    go_enter Try.func21, Try.ntmps21
    go_wp2
    go_loopw [3, 11] (fun l i wr => ∃ (j : Nat) (a : Int), j ≤ xs.length ∧ i = .int .i64 j ∧ l = .int .i64 a ∧ Hid (risingB 0 xs = risingB a (xs.drop j)) ∧ Below w.heap.size w wr) (fun _ i _ => xs.length - (intOf i).toNat)
    case atStart => exact ⟨0, 0, by omega, rfl, rfl, rfl, Below.refl _ _⟩
    case round =>
      obtain ⟨j, a, hj, rfl, rfl, hr, hb⟩ := hrel
      by_cases hlt : j < xs.length
      · obtain ⟨x, hx⟩ := some_of_lt hlt
        obtain ⟨b1, o1, rfl, c1, c2⟩ := sx.item (hs.of_below hb) hx
        have i1 : (0 : Int) ≤ (j : Int) := by omega
        have i2 : (j : Int) < (xs.length : Int) := by omega
        have HD : Hid (xs.drop j = x :: xs.drop (j + 1)) := by
          have hg := List.getElem?_eq_some_iff.1 hx.out
          unfold Hid; rw [List.drop_eq_getElem_cons hlt, hg.2]
        by_cases hlb : lineB x = true
        · by_cases hk : a < x.kind
          · have hkb : decide (x.kind ≤ a) = false := by simp; omega
            have HR : Hid (risingB 0 xs = risingB x.kind (xs.drop (j + 1))) := by unfold Hid; rw [hr.out, HD.out, rising_step hlb hk]
            go_wp2_with (go_at_call 56; refine (right_calls x _).mono ?_; rintro e w1 ⟨rfl, b1⟩; have hc1 : w1.cell? ⟨wr.heap.size, 0, none⟩ = some (.int .i64 x.kind) := (b1.cell (by simp)).trans (by simp))
            go_roundw
            case rel => exact ⟨j + 1, x.kind, by omega, by go_num, rfl, HR, (hb.alloc hb.size _).trans (b1.mono (by simp; exact Nat.le_trans hb.size (Nat.le_succ _)))⟩
            case measure => simp [intOf]; omega
          · have hkb : decide (x.kind ≤ a) = true := by simp; omega
            have HR : Hid (checkE xs = 2) := by unfold Hid checkE; rw [HC.out, hr.out, HD.out, rising_stop (.inr hk)]; rfl
            go_wp2_with (go_at_call 56; refine (right_calls x _).mono ?_; rintro e w1 ⟨rfl, b1⟩; have hc1 : w1.cell? ⟨wr.heap.size, 0, none⟩ = some (.int .i64 x.kind) := (b1.cell (by simp)).trans (by simp))
            go_ret
            exact ⟨by rw [HR.out]; rfl, (hb.alloc hb.size _).trans (b1.mono (by simp; exact Nat.le_trans hb.size (Nat.le_succ _)))⟩
        · have hlf : lineB x = false := by simpa using hlb
          have HR : Hid (checkE xs = 2) := by unfold Hid checkE; rw [HC.out, hr.out, HD.out, rising_stop (.inl hlf)]; rfl
          clear hlb
          go_wp2_with (go_at_call 56; refine (right_calls x _).mono ?_; rintro e w1 ⟨rfl, b1⟩)
          go_ret
          exact ⟨by rw [HR.out]; rfl, (hb.alloc hb.size _).trans (b1.mono (by simp; exact Nat.le_trans hb.size (Nat.le_succ _)))⟩
      · obtain rfl : j = xs.length := by omega
        have HR : Hid (risingB 0 xs = true) := by unfold Hid; rw [hr.out, List.drop_length]; rfl
        have S := sidesOfLines_calls A ca xs h wr (hs.of_below hb) sx (by omega)
        have E := fun W : World => even_calls (debs xs) (cres xs) W (by omega) (by omega)
        have HE : Hid (checkE xs = if eqB (debs xs) (cres xs) = true then 0 else 2) := by unfold Hid checkE; rw [HC.out, HR.out, Bool.true_and]
        clear d1 d2
        cases hq : eqB (debs xs) (cres xs) with
        | true =>
          rw [hq] at E HE
          clear hq
          go_wp2_with fail
          refine S.mono ?_
          rintro e w1 ⟨rfl, b1⟩
          go_wp2_with fail
          refine (E _).mono ?_
          rintro e w2 ⟨rfl, rfl⟩
          go_wp2
          go_ret
          exact ⟨by rw [HE.out]; rfl, hb.trans (b1.mono hb.size)⟩
        | false =>
          rw [hq] at E HE
          clear hq
          go_wp2_with fail
          refine S.mono ?_
          rintro e w1 ⟨rfl, b1⟩
          go_wp2_with fail
          refine (E _).mono ?_
          rintro e w2 ⟨rfl, rfl⟩
          go_wp2
          go_ret
          exact ⟨by rw [HE.out]; rfl, hb.trans (b1.mono hb.size)⟩
  · have e1 : decide (20 < (xs.length : Int)) = true := by simp; omega
    have HR : Hid (checkE xs = 2) := by unfold Hid checkE checkB; rw [decide_eq_false hl]; rfl
    clear hl
    go_enter Try.func21, Try.ntmps21
    go_wp2
    go_ret
    exact ⟨by rw [HR.out]; rfl, Below.refl _ _⟩
end Go.Proofs.Ytnpnndifhlihhaa
