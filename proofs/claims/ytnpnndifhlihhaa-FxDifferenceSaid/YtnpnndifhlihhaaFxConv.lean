/- fx.Convert: items in another currency. -/
import Derived.Test.YtnpnndifhlihhaaSame
namespace Go.Proofs.Ytnpnndifhlihhaa
open Go.RowKit Go.Sl
set_option maxHeartbeats 400000
set_option maxRecDepth 100000
theorem Try.infoItem' : (Try.prog.info? 27).map (fun i => (i.zero, i.size, i.bytes)) = some (some (.agg #[.int .i64 0, .int .i64 0]), 2, 16) := by kernel_rfl
theorem near_calls (n : Int) (w : World) : Calls Try.prog 54 #[.int .i64 n] w fun e w' => e = .returned (.bool (nearB n)) ∧ w = w' := by
  go_enter Try.func54, Try.ntmps54
  go_wp2
  all_goals
    go_ret
    exact ⟨by simp [nearB]; omega, rfl⟩
/-- Convert, where it answers: rates and lengths are right, items near, the sum near. -/
theorem convert_ok (A : Option Addr) (ca : Nat) (xs : List SItem) (fx : Int) (h : Hp) (w : World) (hs : h.sub w) (sx : Sl kItem h A ca xs) (hl : xs.length ≤ 20) (f1 : 1 ≤ fx) (f2 : fx ≤ 10000000)
    (hn : ∀ x ∈ xs, nearB x.amt = true) (hsum : nearB (sumAmt xs) = true) :
    Calls Try.prog 17 #[.slice A xs.length ca, .int .i64 fx] w fun e w' => ∃ C cap h', e = .returned (.tuple #[.slice C xs.length cap, .int .i64 (partOf (sumAmt xs) fx - sumAmt (convItems xs fx)), .int .i64 0]) ∧ Ow kItem h' C cap (convItems xs fx) ∧ Upd Hp.none h' w w' := by
  obtain ⟨i0, hi, hz0, hz1, hz2⟩ := info_parts Try.infoItem'
  have m1 := sx.small
  have e1 : decide (fx < 1) = false := by simp; omega
  have e2 : decide (10000000 < fx) = false := by simp; omega
  have e3 : decide (20 < (xs.length : Int)) = false := by simp; omega
  go_enter Try.func17, Try.ntmps17
  go_wp2
  go_loopw [7, 8, 9, 29] (fun s p v i wr => ∃ (j cap : Nat) (C : Option Addr) (h' : Hp), j ≤ xs.length ∧ i = .int .i64 j ∧ s = .int .i64 (sumAmt (xs.take j)) ∧ p = .int .i64 (sumAmt (convItems (xs.take j) fx)) ∧ v = .slice C j cap ∧ Hid (Ow kItem h' C cap (convItems (xs.take j) fx)) ∧ Upd Hp.none h' w wr) (fun _ _ _ i _ => xs.length - (intOf i).toNat)
  case atStart => exact ⟨0, 0, none, Hp.none, by omega, rfl, rfl, rfl, rfl, Ow.none _ _, Upd.of_below (Below.refl _ _)⟩
  case round =>
    obtain ⟨j, cap, C, h', l1, rfl, rfl, rfl, rfl, ho, hu⟩ := hrel
    have hL : (convItems (xs.take j) fx).length = j := by rw [convItems_length, List.length_take]; omega
    have hb1 := sumAmt_bd (b := 400000000000) (by omega) (xs.take j) (fun x hx => by have := hn x (List.mem_of_mem_take hx); simpa [nearB] using this)
    have hb2 := sumAmt_bd (b := 4000000000001) (by omega) (convItems (xs.take j) fx) (fun y hy => by
      obtain ⟨x, hx, rfl⟩ := List.mem_map.1 hy
      have := hn x (List.mem_of_mem_take hx)
      simp only [nearB, decide_eq_true_eq] at this
      exact partOf_bd this.1 this.2 (by omega) f2)
    rw [hL] at hb2
    rw [List.length_take] at hb1
    have hb3 : -8000000000000 ≤ sumAmt (xs.take j) ∧ sumAmt (xs.take j) ≤ 8000000000000 := by omega
    have hb4 : -80000000000020 ≤ sumAmt (convItems (xs.take j) fx) ∧ sumAmt (convItems (xs.take j) fx) ≤ 80000000000020 := by omega
    clear hb1 hb2
    obtain ⟨q1, q2⟩ := hb3
    obtain ⟨q3, q4⟩ := hb4
    have HL := Lib.hid hL
    clear hL
    by_cases hlt : j < xs.length
    · obtain ⟨x, hx⟩ := some_of_lt hlt
      obtain ⟨b1, o1, rfl, c1, c2⟩ := sx.item (hs.of_below hu.below) hx
      have hnx := hn x (List.mem_of_getElem? hx.out)
      have hnr : -400000000000 ≤ x.amt ∧ x.amt ≤ 400000000000 := by simpa [nearB] using hnx
      have hok : ofOk x.amt fx = true := by simp [ofOk]; omega
      have hov : ofVal x.amt fx = partOf x.amt fx := by simp [ofVal, hok]
      have hof := of_calls x.amt fx
      rw [hok, hov] at hof
      obtain ⟨q5, q6⟩ := hnr
      obtain ⟨q7, q8⟩ := partOf_bd q5 q6 (by omega : 0 ≤ fx) f2
      have i1 : (0 : Int) ≤ (j : Int) := by omega
      have i2 : (j : Int) < (xs.length : Int) := by omega
      have HT := Lib.hid (take_next hx)
      clear hok hov
      go_wp2_with (first
        | (go_at_call 54; refine (near_calls _ _).mono ?_; rintro e w' ⟨rfl, rfl⟩)
        | (go_at_call 55; refine (hof _).mono ?_; rintro e w' ⟨rfl, rfl⟩)
        | (at_builtin; refine wpList_append (k := kItem) (h := h') (hx := Hp.none) (A := C) (cap := cap) (B := some ⟨wr.heap.size + 1, 0, none⟩) (xs := convItems (xs.take j) fx) (ys := [⟨x.kind, partOf x.amt fx⟩]) (by rfl) (.tmp 51) (.tmp 56) 23 (by rfl) 27 i0 (.agg #[.int .i64 0, .int .i64 0]) Try.underlying23 hi hz0 hz1 (by rfl) 16 hz2 j 1 1 HL.out rfl (by rfl) (by rfl) ho.out (hu.sub.of_below (by repeat (first | exact Below.refl _ _ | apply Below.drew | refine Below.alloc ?_ (by simp) _))) (Src.new (heap_new_at (by simp)) rfl) (Hp.none_sub _) (Hp.apart_none _) (by unfold maxLen; omega) (by omega) ?_; intro C' cap' w1 h1 ho1 hu1))
      go_roundw
      case rel => exact ⟨j + 1, cap', C', h1, by omega, by go_num, by rw [HT.out, sumAmt_snoc], by rw [HT.out, convItems_snoc, sumAmt_snoc], rfl, by rw [HT.out, convItems_snoc]; exact ho1, hu.trans (hu1.flat.before (by repeat (first | exact Below.refl _ _ | apply Below.drew | refine Below.alloc ?_ (by simp) _)))⟩
      case measure => simp [intOf]; omega
    · obtain rfl : j = xs.length := by omega
      rw [List.take_length] at q1 q2 q3 q4 HL ho ⊢
      have hnr : -400000000000 ≤ sumAmt xs ∧ sumAmt xs ≤ 400000000000 := by simpa [nearB] using hsum
      have hok : ofOk (sumAmt xs) fx = true := by simp [ofOk]; omega
      have hov : ofVal (sumAmt xs) fx = partOf (sumAmt xs) fx := by simp [ofVal, hok]
      have hof := of_calls (sumAmt xs) fx
      rw [hok, hov] at hof
      obtain ⟨q5, q6⟩ := hnr
      obtain ⟨q7, q8⟩ := partOf_bd q5 q6 (by omega : 0 ≤ fx) f2
      clear hok hov hsum
      go_wp2_with (go_at_call 55; refine (hof _).mono ?_; rintro e w' ⟨rfl, rfl⟩)
      go_ret3
      exact ⟨C, cap, h', by rfl, ho.out, hu⟩
end Go.Proofs.Ytnpnndifhlihhaa
