/- The walk of the document's Check of lines. -/
import Derived.Test.YtnpnndifhlihhaaRefJ
import Derived.Deep.QuietTactic
import Derived.BigQuiet
namespace Go.Proofs.Ytnpnndifhlihhaa
open Go.RowKit Go.Sl
set_option maxHeartbeats 4000000
set_option maxRecDepth 100000
def refCheckB (xs : List SItem) : Bool := decide (xs.length ≤ 20) && risingB 0 xs && decide (sumAmt xs = 0)
theorem rising_on {a : Int} {x : SItem} {xs : List SItem} (h1 : lineB x = true) (h2 : a < x.kind) : risingB a (x :: xs) = risingB x.kind xs := by
  simp [risingB, h1, h2]
theorem rising_off {a : Int} {x : SItem} {xs : List SItem} (h : lineB x = false ∨ ¬ a < x.kind) : risingB a (x :: xs) = false := by
  rcases h with h | h <;> simp [risingB, h]
/-- The kind ahead of the j-th line. -/
def Ahead (xs : List SItem) (j : Nat) (a : Int) : Prop := (j = 0 → a = 0) ∧ (0 < j → ∃ z, xs[j - 1]? = some z ∧ a = z.kind)
theorem refCheck_same (xs : List SItem) : (checkE xs == 0) = refCheckB xs := by
  unfold checkE refCheckB checkB
  by_cases hr : risingB 0 xs = true
  · have hs := sides_sum xs (fun x hx => by
      have := risingB_lines xs 0 hr x hx
      simp only [lineB, Bool.and_eq_true] at this
      exact this.2)
    have e : decide (debs xs = cres xs) = decide (sumAmt xs = 0) := by rw [decide_eq_decide]; omega
    rw [e]
    cases decide (xs.length ≤ 20) <;> cases decide (sumAmt xs = 0) <;> simp [hr]
  · have : risingB 0 xs = false := by simpa using hr
    simp [this]
theorem refCheck_calls (A : Option Addr) (ca : Nat) (xs : List SItem) (h : Hp) (w : World) (hs : h.sub w) (sx : Sl kItem h A ca xs) :
    Calls Try.prog 36 #[.slice A xs.length ca] w fun e w' => e = .returned (.bool (refCheckB xs)) ∧ Below w.heap.size w w' := by
  have m1 := sx.small
  go_enter Try.func36, Try.ntmps36
  go_wp2
  go_loopw [3, 8] (fun s i wr => ∃ (j : Nat) (a : Int), j ≤ xs.length ∧ j ≤ 20 ∧ i = .int .i64 j ∧ s = .int .i64 (sumAmt (xs.take j)) ∧ Hid (Ahead xs j a) ∧ Hid (risingB 0 xs = risingB a (xs.drop j)) ∧ Hid (-((j : Int) * 100000000000) ≤ sumAmt (xs.take j) ∧ sumAmt (xs.take j) ≤ (j : Int) * 100000000000) ∧ Below w.heap.size w wr) (fun _ i _ => xs.length - (intOf i).toNat)
  case atStart => exact ⟨0, 0, by omega, by omega, rfl, rfl, ⟨fun _ => rfl, fun h => by omega⟩, rfl, by unfold Hid; simp [sumAmt], Below.refl _ _⟩
  case round =>
    obtain ⟨j, a, hj, hj2, rfl, rfl, hA, hr, hq, hb⟩ := hrel
    obtain ⟨q1, q2⟩ := hq.out
    by_cases hlt : j < xs.length
    · obtain ⟨x, hx⟩ := some_of_lt hlt
      obtain ⟨b1, o1, rfl, c1, c2⟩ := sx.item (hs.of_below hb) hx
      have i1 : (0 : Int) ≤ (j : Int) := by omega
      have i2 : (j : Int) < (xs.length : Int) := by omega
      have HD : Hid (xs.drop j = x :: xs.drop (j + 1)) := by
        have hg := List.getElem?_eq_some_iff.1 hx.out
        unfold Hid; rw [List.drop_eq_getElem_cons hlt, hg.2]
      have HT : Hid (sumAmt (xs.take (j + 1)) = sumAmt (xs.take j) + x.amt) := by unfold Hid; rw [take_next hx, sumAmt_snoc]
      have QA : ∀ W : World, Calls Try.prog 62 #[.int .i64 x.kind] W fun e w' => e = .returned (.bool (isB x.kind)) ∧ w' = W := fun W => (refAccount_calls x.kind W).mono fun e w' h => ⟨h.1, h.2.symm⟩
      have QM : ∀ W : World, Calls Try.prog 34 #[.int .i64 x.amt] W fun e w' => e = .returned (.bool (money x.amt)) ∧ w' = W := fun W => (refMoney_calls x.amt W).mono fun e w' h => ⟨h.1, h.2.symm⟩
      have no : lineB x = false ∨ ¬ a < x.kind → Hid (refCheckB xs = false) := fun hn => by
        unfold Hid refCheckB; rw [hr.out, HD.out, rising_off hn, Bool.and_false, Bool.false_and]
      have bz := fun n => (hb.alloc hb.size (.cells #[.int .i64 x.kind, .int .i64 x.amt] 39)).trans (below_drewN (Below.refl _ _) n)
      by_cases h20 : j < 20
      · have t1 : decide ((20 : Int) ≤ (j : Int)) = false := by simp; omega
        by_cases hB : isB x.kind = true
        · rw [hB] at QA
          have hk7 : 1 ≤ x.kind ∧ x.kind ≤ 7 := by simpa [isB] using hB
          by_cases h0 : x.amt = 0
          · have t2 : (x.amt == 0) = true := by simpa using h0
            have HN := no (.inl (by simp [lineB, h0]))
            clear hB h0 no hk7
            go_wp2
            go_quiet (first | (go_at_call 62; exact Calls.quiet_of_same (QA _)) | (go_at_call 34; exact Calls.quiet_of_same (QM _)))
            go_wp2
            go_ret
            exact ⟨by rw [HN.out]; rfl, bz _⟩
          · have t2 : (x.amt == 0) = false := by simpa using h0
            by_cases hM : money x.amt = true
            · have hmb : -100000000000 ≤ x.amt ∧ x.amt ≤ 100000000000 := by simpa [money] using hM
              rw [hM] at QM
              have hln : lineB x = true := by simp [lineB, hM, h0, hk7]
              by_cases hj0 : j = 0
              · have ha := hA.out.1 hj0
                have HR : Hid (risingB 0 xs = risingB x.kind (xs.drop (j + 1))) := by unfold Hid; rw [hr.out, HD.out, rising_on hln (by omega)]
                have t3 : decide (0 < j) = false := by simp; omega
                clear no hB h0 hM hj0
                go_wp2
                go_quiet (first | (go_at_call 62; exact Calls.quiet_of_same (QA _)) | (go_at_call 34; exact Calls.quiet_of_same (QM _)))
                go_wp2
                go_roundw
                case rel => exact ⟨j + 1, x.kind, by omega, by omega, by go_num, by rw [HT.out], ⟨fun h => by omega, fun _ => ⟨x, hx.out, rfl⟩⟩, HR, by unfold Hid; rw [HT.out]; omega, bz _⟩
                case measure => simp [intOf]; omega
              · obtain ⟨z, hz, hza⟩ := hA.out.2 (by omega)
                obtain ⟨m, hm⟩ : ∃ m, j = m + 1 := ⟨j - 1, by omega⟩
                have hz' : Hid (xs[m]? = some z) := by unfold Hid; rw [← hz]; congr 1; omega
                obtain ⟨b1', o1', hC, d1, d2⟩ := sx.item (hs.of_below hb) hz'
                obtain ⟨rfl, rfl⟩ : b1 = b1' ∧ o1 = o1' := by cases hC; exact ⟨rfl, rfl⟩
                clear hC hz hz'
                have d3 : (wr.alloc (.cells #[.int .i64 x.kind, .int .i64 x.amt] 39)).cell? ⟨b1, o1 + m * 2, none⟩ = some (.int .i64 z.kind) := (((Below.refl _ _).alloc (Nat.le_refl _) _).cell (World.block_lt_of_cell? wr _ d1)).trans d1
                have hmm : ((j : Int) - 1).toNat = m := by omega
                have i3 : (0 : Int) ≤ (j : Int) - 1 := by omega
                have i4 : (j : Int) - 1 < (xs.length : Int) := by omega
                have i5 : 0 < j := by omega
                have i6 : (1 : Int) ≤ (j : Int) := by omega
                have i7 : (j : Int) ≤ (xs.length : Int) := by omega
                have i8 : 1 ≤ j := by omega
                have t3 : decide (0 < j) = true := by simp; omega
                have hwp : IntKind.i64.wrap ((j : Int) - 1) = (j : Int) - 1 := by rw [IntKind.wrap_i64]; omega
                by_cases hk : z.kind < x.kind
                · have t4 : decide (x.kind ≤ z.kind) = false := by simp; omega
                  have HR : Hid (risingB 0 xs = risingB x.kind (xs.drop (j + 1))) := by unfold Hid; rw [hr.out, HD.out, rising_on hln (by omega)]
                  clear no hB h0 hM hm hj0 hk hza
                  go_wp2
                  go_quiet (first | (go_at_call 62; exact Calls.quiet_of_same (QA _)) | (go_at_call 34; exact Calls.quiet_of_same (QM _)))
                  go_wp2
                  go_roundw
                  case rel => exact ⟨j + 1, x.kind, by omega, by omega, by go_num, by rw [HT.out], ⟨fun h => by omega, fun _ => ⟨x, hx.out, rfl⟩⟩, HR, by unfold Hid; rw [HT.out]; omega, bz _⟩
                  case measure => simp [intOf]; omega
                · have t4 : decide (x.kind ≤ z.kind) = true := by simp; omega
                  have HN := no (.inr (by omega))
                  clear no hB h0 hM hm hj0 hk hza
                  go_wp2
                  go_quiet (first | (go_at_call 62; exact Calls.quiet_of_same (QA _)) | (go_at_call 34; exact Calls.quiet_of_same (QM _)))
                  go_wp2
                  go_ret
                  exact ⟨by rw [HN.out]; rfl, bz _⟩
            · have hM' : money x.amt = false := by simpa using hM
              rw [hM'] at QM
              have HN := no (.inl (by simp [lineB, hM']))
              clear hB h0 no hk7 hM hM'
              go_wp2
              go_quiet (first | (go_at_call 62; exact Calls.quiet_of_same (QA _)) | (go_at_call 34; exact Calls.quiet_of_same (QM _)))
              go_wp2
              go_ret
              exact ⟨by rw [HN.out]; rfl, bz _⟩
        · have hB' : isB x.kind = false := by simpa using hB
          rw [hB'] at QA
          have HN := no (.inl (by simp [lineB]; simp [isB] at hB'; omega))
          clear hB hB' no
          go_wp2
          go_quiet (first | (go_at_call 62; exact Calls.quiet_of_same (QA _)) | (go_at_call 34; exact Calls.quiet_of_same (QM _)))
          go_wp2
          go_ret
          exact ⟨by rw [HN.out]; rfl, bz _⟩
      · obtain rfl : j = 20 := by omega
        have HN : Hid (refCheckB xs = false) := by unfold Hid refCheckB; rw [decide_eq_false (show ¬ xs.length ≤ 20 by omega)]; rfl
        clear no h20
        go_wp2
        go_quiet (first | (go_at_call 62; exact Calls.quiet_of_same (QA _)) | (go_at_call 34; exact Calls.quiet_of_same (QM _)))
        go_wp2
        go_ret
        exact ⟨by rw [HN.out]; rfl, bz _⟩
    · obtain rfl : j = xs.length := by omega
      have HN : Hid (refCheckB xs = decide (sumAmt xs = 0)) := by
        unfold Hid refCheckB
        rw [decide_eq_true hj2, hr.out, List.drop_length]; rfl
      rw [List.take_length] at q1 q2 ⊢
      by_cases h0 : sumAmt xs = 0
      · have t2 : (sumAmt xs == 0) = true := by simpa using h0
        rw [decide_eq_true h0] at HN
        clear h0
        go_wp2
        go_ret
        exact ⟨by rw [HN.out]; rfl, hb⟩
      · have t2 : (sumAmt xs == 0) = false := by simpa using h0
        rw [decide_eq_false h0] at HN
        clear h0
        go_wp2
        go_ret
        exact ⟨by rw [HN.out]; rfl, hb⟩
end Go.Proofs.Ytnpnndifhlihhaa
