/- Walks and plain facts that the laws of this seat share, part 4: contracts of functions, each said at its theorem. -/
import Derived.Test.YtdcfojohgcmpcaaPk3
import Derived.Deep.RegionHeld3
import Derived.WalkKit
set_option linter.all false
section
/- fx.Convert: items in another currency. -/
namespace Go.Proofs.Ytdcfojohgcmpcaa
open Go.RowKit Go.Sl
set_option maxHeartbeats 400000
set_option maxRecDepth 100000
theorem Try.infoItem' : (Try.prog.info? 36).map (fun i => (i.zero, i.size, i.bytes)) = some (some (.agg #[.int .i64 0, .int .i64 0]), 2, 16) := by kernel_rfl
theorem near_calls (n : Int) (w : World) : Calls Try.prog 67 #[.int .i64 n] w fun e w' => e = .returned (.bool (nearB n)) ∧ w = w' := by
  go_enter Try.func67, Try.ntmps67
  go_wp2
  all_goals
    go_ret
    exact ⟨by simp [nearB]; omega, rfl⟩
/-- Convert, where it answers: rates and lengths are right, items near, the sum near. -/
theorem convert_ok (A : Option Addr) (ca : Nat) (xs : List SItem) (fx : Int) (h : Hp) (w : World) (hs : h.sub w) (sx : Sl kItem h A ca xs) (hl : xs.length ≤ 20) (f1 : 1 ≤ fx) (f2 : fx ≤ 10000000)
    (hn : ∀ x ∈ xs, nearB x.amt = true) (hsum : nearB (sumAmt xs) = true) :
    Calls Try.prog 18 #[.slice A xs.length ca, .int .i64 fx] w fun e w' => ∃ C cap h', e = .returned (.tuple #[.slice C xs.length cap, .int .i64 (partOf (sumAmt xs) fx - sumAmt (convItems xs fx)), .int .i64 0]) ∧ Ow kItem h' C cap (convItems xs fx) ∧ Upd Hp.none h' w w' := by
  obtain ⟨i0, hi, hz0, hz1, hz2⟩ := info_parts Try.infoItem'
  have m1 := sx.small
  have e1 : decide (fx < 1) = false := by simp; omega
  have e2 : decide (10000000 < fx) = false := by simp; omega
  have e3 : decide (20 < (xs.length : Int)) = false := by simp; omega
  go_enter Try.func18, Try.ntmps18
  go_wp2
  go_loopw [7, 8, 9, 29] (fun s p v i wr => ∃ (j cap : Nat) (C : Option Addr) (h' : Hp), j ≤ xs.length ∧ i = .int .i64 j ∧ s = .int .i64 (sumAmt (xs.take j)) ∧ p = .int .i64 (sumAmt (convItems (xs.take j) fx)) ∧ v = .slice C j cap ∧ Hid (Ow kItem h' C cap (convItems (xs.take j) fx)) ∧ Upd Hp.none h' w wr) (fun _ _ _ i _ => xs.length - (intOf i).toNat)
  case atStart => exact ⟨0, 0, none, Hp.none, by omega, rfl, rfl, rfl, rfl, Ow.none _ _, Upd.of_below (Below.refl _ _)⟩
  case round =>
    obtain ⟨j, cap, C, h', l1, rfl, rfl, rfl, rfl, ho, hu⟩ := hrel
    have hL : (convItems (xs.take j) fx).length = j := by rw [convItems_length, List.length_take]; omega
    have hb1 := sumAmt_bd (b := 400000000000) (by omega) (xs.take j) (fun x hx => by have := hn x (List.mem_of_mem_take hx); simpa [nearB] using this)
    have hb2 := sumAmt_bd (b := 4000000000001) (by omega) (convItems (xs.take j) fx) (fun y hy => by
      obtain ⟨x, hx, rfl⟩ := List.mem_map.1 hy
      have := hn x (List.mem_of_mem_take hx)
      simp only [nearB, decide_eq_true_eq] at this
      exact partOf_bd this.1 this.2 (by omega) f2)
    rw [hL] at hb2
    rw [List.length_take] at hb1
    have hb3 : -8000000000000 ≤ sumAmt (xs.take j) ∧ sumAmt (xs.take j) ≤ 8000000000000 := by omega
    have hb4 : -80000000000020 ≤ sumAmt (convItems (xs.take j) fx) ∧ sumAmt (convItems (xs.take j) fx) ≤ 80000000000020 := by omega
    clear hb1 hb2
    obtain ⟨q1, q2⟩ := hb3
    obtain ⟨q3, q4⟩ := hb4
    have HL := Lib.hid hL
    clear hL
    by_cases hlt : j < xs.length
    · obtain ⟨x, hx⟩ := some_of_lt hlt
      obtain ⟨b1, o1, rfl, c1, c2⟩ := sx.item (hs.of_below hu.below) hx
      have hnx := hn x (List.mem_of_getElem? hx.out)
      have hnr : -400000000000 ≤ x.amt ∧ x.amt ≤ 400000000000 := by simpa [nearB] using hnx
      have hok : ofOk x.amt fx = true := by simp [ofOk]; omega
      have hov : ofVal x.amt fx = partOf x.amt fx := by simp [ofVal, hok]
      have hof := of_calls x.amt fx
      rw [hok, hov] at hof
      obtain ⟨q5, q6⟩ := hnr
      obtain ⟨q7, q8⟩ := partOf_bd q5 q6 (by omega : 0 ≤ fx) f2
      have i1 : (0 : Int) ≤ (j : Int) := by omega
      have i2 : (j : Int) < (xs.length : Int) := by omega
      have HT := Lib.hid (take_next hx)
      clear hok hov
      go_wp2_with (first
        | (go_at_call 67; refine (near_calls _ _).mono ?_; rintro e w' ⟨rfl, rfl⟩)
        | (go_at_call 66; refine (hof _).mono ?_; rintro e w' ⟨rfl, rfl⟩)
        | (at_builtin; refine wpList_append (k := kItem) (h := h') (hx := Hp.none) (A := C) (cap := cap) (B := some ⟨wr.heap.size + 1, 0, none⟩) (xs := convItems (xs.take j) fx) (ys := [⟨x.kind, partOf x.amt fx⟩]) (by rfl) (.tmp 51) (.tmp 56) 37 (by rfl) 36 i0 (.agg #[.int .i64 0, .int .i64 0]) Try.underlying37 hi hz0 hz1 (by rfl) 16 hz2 j 1 1 HL.out rfl (by rfl) (by rfl) ho.out (hu.sub.of_below (by repeat (first | exact Below.refl _ _ | apply Below.drew | refine Below.alloc ?_ (by simp) _))) (Src.new (heap_new_at (by simp)) rfl) (Hp.none_sub _) (Hp.apart_none _) (by unfold maxLen; omega) (by omega) ?_; intro C' cap' w1 h1 ho1 hu1))
      go_roundw
      case rel => exact ⟨j + 1, cap', C', h1, by omega, by go_num, by rw [HT.out, sumAmt_snoc], by rw [HT.out, convItems_snoc, sumAmt_snoc], rfl, by rw [HT.out, convItems_snoc]; exact ho1, hu.trans (hu1.flat.before (by repeat (first | exact Below.refl _ _ | apply Below.drew | refine Below.alloc ?_ (by simp) _)))⟩
      case measure => simp [intOf]; omega
    · obtain rfl : j = xs.length := by omega
      rw [List.take_length] at q1 q2 q3 q4 HL ho ⊢
      have hnr : -400000000000 ≤ sumAmt xs ∧ sumAmt xs ≤ 400000000000 := by simpa [nearB] using hsum
      have hok : ofOk (sumAmt xs) fx = true := by simp [ofOk]; omega
      have hov : ofVal (sumAmt xs) fx = partOf (sumAmt xs) fx := by simp [ofVal, hok]
      have hof := of_calls (sumAmt xs) fx
      rw [hok, hov] at hof
      obtain ⟨q5, q6⟩ := hnr
      obtain ⟨q7, q8⟩ := partOf_bd q5 q6 (by omega : 0 ≤ fx) f2
      clear hok hov hsum
      go_wp2_with (go_at_call 66; refine (hof _).mono ?_; rintro e w' ⟨rfl, rfl⟩)
      go_ret3
      exact ⟨C, cap, h', by rfl, ho.out, hu⟩
end Go.Proofs.Ytdcfojohgcmpcaa
end
section
/- The walk of ref01.Money. -/
namespace Go.Proofs.Ytdcfojohgcmpcaa
open Go.RowKit Go.Sl
set_option maxHeartbeats 400000
theorem refMoney_calls (n : Int) (w : World) : Calls Try.prog 84 #[.int .i64 n] w fun e w' => e = .returned (.bool (money n)) ∧ w = w' := by
  go_enter Try.func84, Try.ntmps84
  go_wp2
  all_goals
    go_ret
    exact ⟨by simp [money]; omega, rfl⟩
end Go.Proofs.Ytdcfojohgcmpcaa
end
section
/- The walk of rate.Right. -/
namespace Go.Proofs.Ytdcfojohgcmpcaa
open Go.RowKit Go.Sl
set_option maxHeartbeats 2000000
theorem rateRight_calls (r : Int) (w : World) : Calls Try.prog 64 #[.int .i64 r] w fun e w' => e = .returned (.bool (rightRate r)) ∧ w = w' := by
  go_enter Try.func64, Try.ntmps64
  go_wp2
  all_goals
    go_ret
    exact ⟨by simp [rightRate]; omega, rfl⟩
end Go.Proofs.Ytdcfojohgcmpcaa
end
section
/- The walks of ref01.Right, ref01.Part. -/
namespace Go.Proofs.Ytdcfojohgcmpcaa
open Go.RowKit Go.Sl
set_option maxHeartbeats 2000000
set_option maxRecDepth 100000
theorem refRight_calls (r : Int) (w : World) : Calls Try.prog 114 #[.int .i64 r] w fun e w' => e = .returned (.bool (rightRate r)) ∧ w = w' := by
  go_enter Try.func114, Try.ntmps114
  go_wp2
  all_goals
    go_ret
    exact ⟨by simp [rightRate]; omega, rfl⟩
theorem refPart_calls (n r : Int) (w : World) : Calls Try.prog 75 #[.int .i64 n, .int .i64 r] w fun e w' => e = .returned (.int .i64 (ofVal n r)) ∧ w = w' := by
  go_enter Try.func75, Try.ntmps75
  go_wp2_with (go_at_call 111; refine (refOf_calls n r _).mono ?_; rintro e w' ⟨rfl, rfl⟩)
  go_ret
  exact ⟨rfl, rfl⟩
end Go.Proofs.Ytdcfojohgcmpcaa
end
section
/- fx.Convert where it has no answer; the document's Convert. -/
namespace Go.Sl
open Go Go.RowKit
/-- May items be converted? -/
def convOk (xs : List SItem) (fx : Int) : Bool := decide (1 ≤ fx ∧ fx ≤ 10000000 ∧ xs.length ≤ 20) && ((xs.all fun x => nearB x.amt) && nearB (sumAmt xs))
def convE (xs : List SItem) (fx : Int) : Int := if convOk xs fx = true then 0 else 1
def convL (xs : List SItem) (fx : Int) : List SItem := if convOk xs fx = true then convItems xs fx else []
def convD (xs : List SItem) (fx : Int) : Int := if convOk xs fx = true then partOf (sumAmt xs) fx - sumAmt (convItems xs fx) else 0
/-- What Convert answers. -/
def ConvAns (xs : List SItem) (fx : Int) (w : World) (e : Ending) (w' : World) : Prop :=
  ∃ C cap h', e = .returned (.tuple #[.slice C (convL xs fx).length cap, .int .i64 (convD xs fx), .int .i64 (convE xs fx)]) ∧ Ow kItem h' C cap (convL xs fx) ∧ Upd Hp.none h' w w'
theorem ConvAns.no {xs : List SItem} {fx : Int} {w w' : World} (h : convOk xs fx = false) (b : Below w.heap.size w w') : ConvAns xs fx w (.returned (.tuple #[.slice none 0 0, .int .i64 0, .int .i64 1])) w' :=
  ⟨none, 0, Hp.none, by simp [convL, convD, convE, h], by simp only [convL, h]; exact Ow.none _ _, Upd.of_below b⟩
end Go.Sl
namespace Go.Proofs.Ytdcfojohgcmpcaa
open Go.RowKit Go.Sl
set_option maxHeartbeats 2000000
set_option maxRecDepth 100000
theorem convBad1 {xs : List SItem} {fx : Int} (h : ¬ (1 ≤ fx ∧ fx ≤ 10000000 ∧ xs.length ≤ 20)) : convOk xs fx = false := by simp [convOk, h]
theorem convert_calls (A : Option Addr) (ca : Nat) (xs : List SItem) (fx : Int) (h : Hp) (w : World) (hs : h.sub w) (sx : Sl kItem h A ca xs) :
    Calls Try.prog 18 #[.slice A xs.length ca, .int .i64 fx] w (ConvAns xs fx w) := by
  cases hok : convOk xs fx with
  | true =>
    have h0 := hok
    simp only [convOk, Bool.and_eq_true, decide_eq_true_eq, List.all_eq_true] at h0
    refine (convert_ok A ca xs fx h w hs sx h0.1.2.2 h0.1.1 h0.1.2.1 h0.2.1 h0.2.2).mono fun e w' ⟨C, cap, h', he, ho, u⟩ => ⟨C, cap, h', ?_, ?_, u⟩
    · rw [he]; simp [convL, convD, convE, hok, convItems_length]
    · simp only [convL, hok]; exact ho
  | false =>
  have m1 := sx.small
  have HB := fun (W : World) (b : Below w.heap.size w W) => ConvAns.no hok b
  by_cases a1 : fx < 1
  · have e1 : decide (fx < 1) = true := by simpa using a1
    clear hok
    go_enter Try.func18, Try.ntmps18
    go_wp2
    go_ret3
    exact HB _ (Below.refl _ _)
  have e1 : decide (fx < 1) = false := by simpa using a1
  by_cases a2 : 10000000 < fx
  · have e2 : decide (10000000 < fx) = true := by simpa using a2
    clear hok
    go_enter Try.func18, Try.ntmps18
    go_wp2
    go_ret3
    exact HB _ (Below.refl _ _)
  have e2 : decide (10000000 < fx) = false := by simpa using a2
  by_cases a3 : 20 < xs.length
  · have e3 : decide (20 < (xs.length : Int)) = true := by simp; omega
    clear hok
    go_enter Try.func18, Try.ntmps18
    go_wp2
    go_ret3
    exact HB _ (Below.refl _ _)
  have e3 : decide (20 < (xs.length : Int)) = false := by simp; omega
  have HK : Hid (((xs.all fun x => nearB x.amt) && nearB (sumAmt xs)) = false) := by
    have h1 : decide (1 ≤ fx ∧ fx ≤ 10000000 ∧ xs.length ≤ 20) = true := by simp; omega
    unfold convOk at hok; rw [h1, Bool.true_and] at hok; exact hok
  have f1 : 1 ≤ fx := by omega
  have f2 : fx ≤ 10000000 := by omega
  have f3 : xs.length ≤ 20 := by omega
  clear hok a1 a2 a3
  have E0 := (Env.start w).new (Upd.of_below (Below.refl w.heap.size w))
  simp at E0
  go_enter Try.func18, Try.ntmps18
  go_wp2
  go_loopw [7, 8, 9, 29] (fun s p v i wr => ∃ (j cap : Nat) (P : Int) (C : Option Addr) (h' : Hp) (os : List SItem), j ≤ xs.length ∧ i = .int .i64 j ∧ s = .int .i64 (sumAmt (xs.take j)) ∧ p = .int .i64 P ∧ -(j * 4000000000001 : Int) ≤ P ∧ P ≤ j * 4000000000001 ∧ v = .slice C j cap ∧ Hid (os.length = j) ∧ Hid (∀ y ∈ xs.take j, nearB y.amt = true) ∧ Ow kItem h' C cap os ∧ Env w wr [h']) (fun _ _ _ i _ => xs.length - (intOf i).toNat)
  case atStart => exact ⟨0, 0, 0, none, Hp.none, [], by omega, rfl, rfl, rfl, by simp, by simp, rfl, rfl, by unfold Hid; simp, Ow.none _ _, E0⟩
  case round =>
    clear E0
    obtain ⟨j, cap, P, C, h', os, hj, rfl, rfl, rfl, hP1, hP2, rfl, hm, hn, o, E⟩ := hrel
    have hb1 := sumAmt_bd (b := 400000000000) (by omega) (xs.take j) (fun x hx => by have := hn.out x hx; simpa [nearB] using this)
    rw [List.length_take] at hb1
    obtain ⟨q1, q2⟩ : -8000000000000 ≤ sumAmt (xs.take j) ∧ sumAmt (xs.take j) ≤ 8000000000000 := by omega
    have q3 : -80000000000020 ≤ P := by omega
    have q4 : P ≤ 80000000000020 := by omega
    clear hb1
    by_cases hlt : j < xs.length
    · obtain ⟨x, hx⟩ := some_of_lt hlt
      obtain ⟨b1, o1, rfl, c1, c2⟩ := sx.item (hs.of_below E.low) hx
      have i1 : (0 : Int) ≤ (j : Int) := by omega
      have i2 : (j : Int) < (xs.length : Int) := by omega
      cases hnx : nearB x.amt with
      | false =>
        have NC := near_calls x.amt
        rw [hnx] at NC
        clear hP1 hP2 HK hnx
        go_wp2_with (go_at_call 67; refine (NC _).mono ?_; rintro e w' ⟨rfl, rfl⟩)
        go_ret3
        exact HB _ (E.low.alloc E.low.size _)
      | true =>
        have NC := near_calls x.amt
        rw [hnx] at NC
        have hnr : -400000000000 ≤ x.amt ∧ x.amt ≤ 400000000000 := by simpa [nearB] using hnx
        have hok : ofOk x.amt fx = true := by simp [ofOk]; omega
        have hov : ofVal x.amt fx = partOf x.amt fx := by simp [ofVal, hok]
        have hof := of_calls x.amt fx
        rw [hok, hov] at hof
        obtain ⟨q5, q6⟩ := hnr
        obtain ⟨q7, q8⟩ := partOf_bd q5 q6 (by omega : 0 ≤ fx) f2
        have HT : Hid (sumAmt (xs.take (j + 1)) = sumAmt (xs.take j) + x.amt) := by unfold Hid; rw [take_next hx, sumAmt_snoc]
        have HN : Hid (∀ y ∈ xs.take (j + 1), nearB y.amt = true) := by
          intro y hy
          rw [take_next hx] at hy
          rcases List.mem_append.1 hy with hy | hy
          · exact hn.out y hy
          · simp at hy; subst hy; exact hnx
        generalize partOf x.amt fx = pv at *
        generalize sumAmt (xs.take j) = sm at *
        have r1 : -((j + 1 : Nat) * 4000000000001 : Int) ≤ P + pv := by omega
        have r2 : P + pv ≤ ((j + 1 : Nat) * 4000000000001 : Int) := by omega
        clear hok hov hP1 hP2 hnx HK
        have EA : ∀ o1 o2, Env w ((wr.alloc o1).alloc o2) [h'] := fun o1 o2 => (E.alloc' o1).alloc' o2
        go_wp2_with (first
          | (go_at_call 67; refine (NC _).mono ?_; rintro e w' ⟨rfl, rfl⟩)
          | (go_at_call 66; refine (hof _).mono ?_; rintro e w' ⟨rfl, rfl⟩)
          | (at_builtin; refine wpList_eapp 0 ⟨x.kind, pv⟩ Try.underlying37 info_item (EA _ _) (by rfl) o j hm.out (by rfl) (by rfl) rfl 1 (by rfl) (by rfl) (heap_new_at (by simp)) (by rfl) (by omega) (by omega) ?_; intro C' cap' w1 h1 o1 E1))
        simp at E1
        go_roundw
        case rel => exact ⟨j + 1, cap', P + pv, C', h1, os ++ [⟨x.kind, pv⟩], by omega, by go_num, by rw [HT.out], rfl, r1, r2, rfl, by unfold Hid; rw [List.length_append, hm.out]; rfl, HN, o1, E1⟩
        case measure => simp [intOf]; omega
    · obtain rfl : j = xs.length := by omega
      rw [List.take_length] at q1 q2 hn ⊢
      have hall : (xs.all fun x => nearB x.amt) = true := List.all_eq_true.2 hn.out
      have hsum : nearB (sumAmt xs) = false := by have := HK.out; rw [hall, Bool.true_and] at this; exact this
      have hok : ofOk (sumAmt xs) fx = false := by
        simp only [nearB, decide_eq_false_iff_not] at hsum
        simp only [ofOk, decide_eq_false_iff_not]; omega
      have hof := of_calls (sumAmt xs) fx
      rw [hok] at hof
      clear hok hsum hall HK hn hP1 hP2
      go_wp2_with (go_at_call 66; refine (hof _).mono ?_; rintro e w' ⟨rfl, rfl⟩)
      go_ret3
      exact HB _ E.low
end Go.Proofs.Ytdcfojohgcmpcaa
end
section
/- The document's Convert. -/
namespace Go.Proofs.Ytdcfojohgcmpcaa
open Go.RowKit Go.Sl
set_option maxHeartbeats 2000000
set_option maxRecDepth 100000
theorem far_calls (n : Int) (w : World) : Calls Try.prog 74 #[.int .i64 n] w fun e w' => e = .returned (.bool (!nearB n)) ∧ w = w' := by
  by_cases h1 : n < -400000000000
  · have t1 : decide (n < -400000000000) = true := by simpa using h1
    have HN : Hid (nearB n = false) := by unfold Hid nearB; rw [decide_eq_false (by omega)]
    clear h1
    go_enter Try.func74, Try.ntmps74
    go_wp2
    go_ret
    exact ⟨by rw [HN.out]; rfl, rfl⟩
  · have t1 : decide (n < -400000000000) = false := by simpa using h1
    by_cases h2 : 400000000000 < n
    · have t2 : decide (400000000000 < n) = true := by simpa using h2
      have HN : Hid (nearB n = false) := by unfold Hid nearB; rw [decide_eq_false (by omega)]
      clear h1 h2
      go_enter Try.func74, Try.ntmps74
      go_wp2
      go_ret
      exact ⟨by rw [HN.out]; rfl, rfl⟩
    · have t2 : decide (400000000000 < n) = false := by simpa using h2
      have HN : Hid (nearB n = true) := by unfold Hid nearB; rw [decide_eq_true (by omega)]
      clear h1 h2
      go_enter Try.func74, Try.ntmps74
      go_wp2
      go_ret
      exact ⟨by rw [HN.out]; rfl, rfl⟩
theorem refConvert_calls (A : Option Addr) (ca : Nat) (xs : List SItem) (fx : Int) (h : Hp) (w : World) (hs : h.sub w) (sx : Sl kItem h A ca xs) :
    Calls Try.prog 23 #[.slice A xs.length ca, .int .i64 fx] w (ConvAns xs fx w) := by
  have m1 := sx.small
  have HB := fun (hok : convOk xs fx = false) (W : World) (b : Below w.heap.size w W) => ConvAns.no hok b
  by_cases a1 : fx < 1
  · have e1 : decide (fx < 1) = true := by simpa using a1
    have HB := HB (convBad1 (by omega))
    go_enter Try.func23, Try.ntmps23
    go_wp2
    go_ret3
    exact HB _ (Below.refl _ _)
  have e1 : decide (fx < 1) = false := by simpa using a1
  by_cases a2 : 10000000 < fx
  · have e2 : decide (10000000 < fx) = true := by simpa using a2
    have HB := HB (convBad1 (by omega))
    go_enter Try.func23, Try.ntmps23
    go_wp2
    go_ret3
    exact HB _ (Below.refl _ _)
  have e2 : decide (10000000 < fx) = false := by simpa using a2
  by_cases a3 : 20 < xs.length
  · have e3 : decide (20 < (xs.length : Int)) = true := by simp; omega
    have HB := HB (convBad1 (by omega))
    go_enter Try.func23, Try.ntmps23
    go_wp2
    go_ret3
    exact HB _ (Below.refl _ _)
  have e3 : decide (20 < (xs.length : Int)) = false := by simp; omega
  have HK : Hid (convOk xs fx = ((xs.all fun x => nearB x.amt) && nearB (sumAmt xs))) := by
    have h1 : decide (1 ≤ fx ∧ fx ≤ 10000000 ∧ xs.length ≤ 20) = true := by simp; omega
    unfold Hid convOk; rw [h1, Bool.true_and]
  have f1 : 1 ≤ fx := by omega
  have f2 : fx ≤ 10000000 := by omega
  have f3 : xs.length ≤ 20 := by omega
  clear a1 a2 a3
  have HBH := Lib.hid HB
  clear HB
  go_enter Try.func23, Try.ntmps23
  go_wp2
  go_loopw [7, 28] (fun s i wr => ∃ (j : Nat), j ≤ xs.length ∧ i = .int .i64 j ∧ s = .int .i64 (sumAmt (xs.take j)) ∧ Hid (∀ y ∈ xs.take j, nearB y.amt = true) ∧ Below w.heap.size w wr) (fun _ i _ => xs.length - (intOf i).toNat)
  case atStart => exact ⟨0, by omega, rfl, rfl, by unfold Hid; simp, Below.refl _ _⟩
  case round =>
    obtain ⟨j, hj, rfl, rfl, hn, hb⟩ := hrel
    have hb1 := sumAmt_bd (b := 400000000000) (by omega) (xs.take j) (fun x hx => by have := hn.out x hx; simpa [nearB] using this)
    rw [List.length_take] at hb1
    obtain ⟨q1, q2⟩ : -8000000000000 ≤ sumAmt (xs.take j) ∧ sumAmt (xs.take j) ≤ 8000000000000 := by omega
    clear hb1
    by_cases hlt : j < xs.length
    · obtain ⟨x, hx⟩ := some_of_lt hlt
      obtain ⟨b1, o1, rfl, c1, c2⟩ := sx.item (hs.of_below hb) hx
      have i1 : (0 : Int) ≤ (j : Int) := by omega
      have i2 : (j : Int) < (xs.length : Int) := by omega
      cases hnx : nearB x.amt with
      | false =>
        have NC := far_calls x.amt
        rw [hnx] at NC
        have hko : convOk xs fx = false := by
          rw [HK.out, show (xs.all fun x => nearB x.amt) = false from List.all_eq_false.2 ⟨x, List.mem_of_getElem? hx.out, by rw [hnx]; decide⟩, Bool.false_and]
        have HB := HBH.out hko
        clear HK hnx HBH hko
        go_wp2_with (go_at_call 74; refine (NC _).mono ?_; rintro e w' ⟨rfl, rfl⟩)
        go_ret3
        exact HB _ (hb.alloc hb.size _)
      | true =>
        have NC := far_calls x.amt
        rw [hnx] at NC
        have hnr : -400000000000 ≤ x.amt ∧ x.amt ≤ 400000000000 := by simpa [nearB] using hnx
        have HT : Hid (sumAmt (xs.take (j + 1)) = sumAmt (xs.take j) + x.amt) := by unfold Hid; rw [take_next hx, sumAmt_snoc]
        have HN : Hid (∀ y ∈ xs.take (j + 1), nearB y.amt = true) := by
          intro y hy
          rw [take_next hx] at hy
          rcases List.mem_append.1 hy with hy | hy
          · exact hn.out y hy
          · simp at hy; subst hy; exact hnx
        obtain ⟨q5, q6⟩ := hnr
        clear HK hnx HBH
        go_wp2_with (go_at_call 74; refine (NC _).mono ?_; rintro e w' ⟨rfl, rfl⟩)
        go_roundw
        case rel => exact ⟨j + 1, by omega, by go_num, by rw [HT.out], HN, hb.alloc hb.size _⟩
        case measure => simp [intOf]; omega
    · obtain rfl : j = xs.length := by omega
      rw [List.take_length] at q1 q2 hn ⊢
      have hall : (xs.all fun x => nearB x.amt) = true := List.all_eq_true.2 hn.out
      have HK2 : Hid (convOk xs fx = nearB (sumAmt xs)) := by unfold Hid; rw [HK.out, hall, Bool.true_and]
      have NC := far_calls (sumAmt xs)
      clear hall HK hlt
      cases hns : nearB (sumAmt xs) with
      | false =>
        rw [hns] at NC
        have HB := HBH.out (HK2.out.trans hns)
        clear HK2 hns HBH
        go_wp2_with (go_at_call 74; refine (NC _).mono ?_; rintro e w' ⟨rfl, rfl⟩)
        go_ret3
        exact HB _ hb
      | true =>
        rw [hns] at NC
        have hnr : -400000000000 ≤ sumAmt xs ∧ sumAmt xs ≤ 400000000000 := by simpa [nearB] using hns
        have hko : convOk xs fx = true := HK2.out.trans hns
        have HA : Hid (∀ (C : Option Addr) (cap : Nat) (h' : Hp) (W : World), Ow kItem h' C cap (convItems xs fx) → Upd Hp.none h' w W → ConvAns xs fx w (.returned (.tuple #[.slice C xs.length cap, .int .i64 (partOf (sumAmt xs) fx - sumAmt (convItems xs fx)), .int .i64 0])) W) :=
          fun C cap h' W ho u => ⟨C, cap, h', by simp [convL, convD, convE, hko, convItems_length], by simp only [convL, hko]; exact ho, u⟩
        have hok : ofOk (sumAmt xs) fx = true := by simp [ofOk]; omega
        have hov : ofVal (sumAmt xs) fx = partOf (sumAmt xs) fx := by simp [ofVal, hok]
        have PC := refPart_calls (sumAmt xs) fx
        rw [hov] at PC
        obtain ⟨q5, q6⟩ := hnr
        obtain ⟨q7, q8⟩ := partOf_bd q5 q6 (by omega : 0 ≤ fx) f2
        generalize partOf (sumAmt xs) fx = pt at *
        generalize sumAmt xs = st at *
        clear HK2 hns HBH hok hov hko q5 q6
        have HN := hn
        clear hn
        have E0 := (Env.start w).below hb
        have E1 := E0.new (Upd.of_below (Below.refl wr.heap.size wr))
        simp at E1
        go_wp2_with (first
          | (go_at_call 74; refine (NC _).mono ?_; rintro e w' ⟨rfl, rfl⟩)
          | (go_at_call 75; refine (PC _).mono ?_; rintro e w' ⟨rfl, rfl⟩))
        go_loopw [10, 11, 47] (fun v d i wr => ∃ (j cap : Nat) (C : Option Addr) (h' : Hp), j ≤ xs.length ∧ i = .int .i64 j ∧ d = .int .i64 (pt - sumAmt (convItems (xs.take j) fx)) ∧ v = .slice C j cap ∧ Ow kItem h' C cap (convItems (xs.take j) fx) ∧ Env w wr [h']) (fun _ _ i _ => xs.length - (intOf i).toNat)
        case atStart => exact ⟨0, 0, none, Hp.none, by omega, rfl, by simp [convItems, sumAmt], rfl, Ow.none _ _, E1⟩
        case round =>
          clear E1 E0
          obtain ⟨j, cap, C, h', hj, rfl, rfl, rfl, o, E⟩ := hrel
          have hL : (convItems (xs.take j) fx).length = j := by rw [convItems_length, List.length_take]; omega
          have hb2 := sumAmt_bd (b := 4000000000001) (by omega) (convItems (xs.take j) fx) (fun y hy => by
            obtain ⟨x, hx, rfl⟩ := List.mem_map.1 hy
            have := HN.out x (List.mem_of_mem_take hx)
            simp only [nearB, decide_eq_true_eq] at this
            exact partOf_bd this.1 this.2 (by omega) f2)
          rw [hL] at hb2
          obtain ⟨q3, q4⟩ : -80000000000020 ≤ sumAmt (convItems (xs.take j) fx) ∧ sumAmt (convItems (xs.take j) fx) ≤ 80000000000020 := by omega
          clear hb2
          have HL := Lib.hid hL
          clear hL
          by_cases hlt : j < xs.length
          · obtain ⟨x, hx⟩ := some_of_lt hlt
            obtain ⟨b1, o1, rfl, c1, c2⟩ := sx.item (hs.of_below E.low) hx
            have hnx := HN.out x (List.mem_of_getElem? hx.out)
            have hnr : -400000000000 ≤ x.amt ∧ x.amt ≤ 400000000000 := by simpa [nearB] using hnx
            have hok : ofOk x.amt fx = true := by simp [ofOk]; omega
            have hov : ofVal x.amt fx = partOf x.amt fx := by simp [ofVal, hok]
            have PX := refPart_calls x.amt fx
            rw [hov] at PX
            obtain ⟨q5, q6⟩ := hnr
            obtain ⟨p7, p8⟩ := partOf_bd q5 q6 (by omega : 0 ≤ fx) f2
            have i1 : (0 : Int) ≤ (j : Int) := by omega
            have i2 : (j : Int) < (xs.length : Int) := by omega
            have HT : Hid (convItems (xs.take (j + 1)) fx = convItems (xs.take j) fx ++ [⟨x.kind, partOf x.amt fx⟩]) := by unfold Hid; rw [take_next hx, convItems_snoc]
            generalize partOf x.amt fx = pv at *
            generalize convItems (xs.take j) fx = os at *
            have HS : Hid (sumAmt (os ++ [⟨x.kind, pv⟩]) = sumAmt os + pv) := by unfold Hid; rw [sumAmt_snoc]
            generalize sumAmt os = so at *
            clear hok hov hnx PC
            have EA : ∀ o1 o2, Env w ((wr.alloc o1).alloc o2) [h'] := fun o1 o2 => (E.alloc' o1).alloc' o2
            go_wp2_with (first
              | (go_at_call 75; refine (PX _).mono ?_; rintro e w' ⟨rfl, rfl⟩)
              | (at_builtin; refine wpList_eapp 0 ⟨x.kind, pv⟩ Try.underlying37 info_item (EA _ _) (by rfl) o j HL.out (by rfl) (by rfl) rfl 1 (by rfl) (by rfl) (heap_new_at (by simp)) (by rfl) (by omega) (by omega) ?_; intro C' cap' w1 h1 o1 E1))
            simp at E1
            go_roundw
            case rel => exact ⟨j + 1, cap', C', h1, by omega, by go_num, by rw [HT.out, HS.out, Int.sub_sub], rfl, by rw [HT.out]; exact o1, E1⟩
            case measure => simp [intOf]; omega
          · obtain rfl : j = xs.length := by omega
            rw [List.take_length] at o q3 q4 ⊢
            have HA2 := Lib.hid (HA.out C cap h' wr o (E.made (by simp)))
            clear HA o
            go_wp2
            go_ret3
            exact HA2.out
end Go.Proofs.Ytdcfojohgcmpcaa
end
section
/- law25.wakes: the document's example of chapter 25. -/
namespace Go.Proofs.Ytdcfojohgcmpcaa
open Go.RowKit Go.Sl
set_option maxHeartbeats 400000
set_option maxRecDepth 100000
theorem wakes25 (w : World) : Calls Try.prog 20 #[] w fun e w' => e = .returned (.bool true) ∧ Below w.heap.size w w' := by
  go_enter Try.func20, Try.ntmps20
  go_wp2_with fail
  refine (convert_ok (some ⟨w.heap.size, 0, none⟩) 3 [⟨1, 1⟩, ⟨2, 1⟩, ⟨3, 1⟩] 500000 (Hp.one w.heap.size (.cells #[.int .i64 1, .int .i64 1, .int .i64 2, .int .i64 1, .int .i64 3, .int .i64 1] 36)) _ (Hp.one_sub (heap_new_at rfl)) (Sl.litItem (Hp.one_self _ _) rfl (by unfold maxLen; simp)) (by simp) (by omega) (by omega) (by simp [nearB]) (by simp [nearB, sumAmt])).mono ?_
  rintro e w1 ⟨C, cap, h', rfl, ho, hu⟩
  obtain ⟨b, off, rfl, c1, c2⟩ := ho.sl.item hu.sub (i := 0) (x := ⟨1, 1⟩) rfl
  have hd : partOf (sumAmt [⟨1, 1⟩, ⟨2, 1⟩, ⟨3, 1⟩]) 500000 - sumAmt (convItems [⟨1, 1⟩, ⟨2, 1⟩, ⟨3, 1⟩] 500000) = -1 := by decide
  rw [hd]
  simp only [Nat.zero_mul, Nat.add_zero] at c1 c2
  clear hd
  go_wp2
  go_ret
  exact ⟨rfl, (((Below.refl _ _).alloc (by simp) _).trans (hu.below.mono (by simp)))⟩
end Go.Proofs.Ytdcfojohgcmpcaa
end
section
/- law25.items: a list of items from two lists of numbers. -/
namespace Go.Proofs.Ytdcfojohgcmpcaa
open Go.RowKit Go.Sl
set_option maxHeartbeats 400000
set_option maxRecDepth 100000
theorem Try.infoItem : (Try.prog.info? 36).map (fun i => (i.zero, i.size, i.bytes)) = some (some (.agg #[.int .i64 0, .int .i64 0]), 2, 16) := by kernel_rfl
/-- Items of numbers. -/
def mkItems (ks ams : List Int) (most : Nat) : List SItem := ((ks.zip ams).take most).map fun p => ⟨within p.1 9, amount p.2⟩
theorem items_calls (A B : Option Addr) (ca cb : Nat) (ks ams : List Int) (most : Nat) (h k : Hp) (w : World) (hs : h.sub w) (qs : k.sub w) (sx : Sl kInt h A ca ks) (sy : Sl kInt k B cb ams)
    (hw : ∀ n ∈ ams, I64 n) (hm : most ≤ 1000) :
    Calls Try.prog 21 #[.slice A ks.length ca, .slice B ams.length cb, .int .i64 most] w fun e w' => ∃ C cap h', e = .returned (.slice C (mkItems ks ams most).length cap) ∧ Ow kItem h' C cap (mkItems ks ams most) ∧ Upd Hp.none h' w w' := by
  obtain ⟨i0, hi, hz0, hz1, hz2⟩ := info_parts Try.infoItem
  have m1 := sx.small
  have m2 := sy.small
  go_enter Try.func21, Try.ntmps21
  go_wp2
  go_loopw [7, 8] (fun v i wr => ∃ (j cap : Nat) (C : Option Addr) (h' : Hp), j ≤ ks.length ∧ j ≤ ams.length ∧ j ≤ most ∧ i = .int .i64 j ∧ v = .slice C (mkItems ks ams j).length cap ∧ Hid (Ow kItem h' C cap (mkItems ks ams j)) ∧ Upd Hp.none h' w wr) (fun _ i _ => ks.length - (intOf i).toNat)
  case atStart => exact ⟨0, 0, none, Hp.none, by omega, by omega, by omega, rfl, rfl, Ow.none _ _, Upd.of_below (Below.refl _ _)⟩
  case round =>
    obtain ⟨j, cap, C, h', l1, l2, l3, rfl, rfl, ho, hu⟩ := hrel
    by_cases hlt : j < ks.length ∧ j < ams.length ∧ j < most
    · obtain ⟨t1, t2, t3⟩ := hlt
      obtain ⟨x, hx⟩ := some_of_lt t1
      obtain ⟨y, hy⟩ := some_of_lt t2
      obtain ⟨b1, o1, rfl, c0⟩ := sx.int hs hx
      obtain ⟨b2, o2, rfl, d0⟩ := sy.int qs hy
      have g1 := World.block_lt_of_cell? w _ c0
      have g2 := World.block_lt_of_cell? w _ d0
      have c1 := (hu.below.cell g1).trans c0
      have d1 := (hu.below.cell g2).trans d0
      have n1 := Lib.hid (hu.new_none g1)
      have n2 := Lib.hid (hu.new_none g2)
      clear c0 d0
      have hyw := hw y (List.mem_of_getElem? hy.out)
      have i1 : (0 : Int) ≤ (j : Int) := by omega
      have i2 : (j : Int) < (ks.length : Int) := by omega
      have i3 : (j : Int) < (ams.length : Int) := by omega
      have i4 : (j : Int) < (most : Int) := by omega
      have hstep : mkItems ks ams (j + 1) = mkItems ks ams j ++ [⟨within x 9, amount y⟩] := by
        unfold mkItems
        rw [take_next (x := (x, y)) (List.getElem?_zip_eq_some.2 ⟨hx.out, hy.out⟩), List.map_append]
        rfl
      have hl : (mkItems ks ams j).length = j := by simp [mkItems]; omega
      have HL := Lib.hid hl
      have HS := Lib.hid hstep
      clear hl hstep
      go_wp2
      go_region_held3 (fun w' => w'.cell? ⟨b1, o1 + j, none⟩ = some (.int .i64 x) ∧ w'.cell? ⟨b2, o2 + j, none⟩ = some (.int .i64 y))
        (first
          | go_keep
          | (go_split_ands; exact ⟨hu1.flat.cell (by assumption) n1.out, hu1.flat.cell (by assumption) n2.out⟩))
        (first
          | (go_at_call 15; refine (within_calls _ _ _ (by omega) (by omega)).mono ?_; rintro e w' ⟨rfl, rfl⟩)
          | (go_at_call 30; refine (amount_calls _ hyw _).mono ?_; rintro e w' ⟨rfl, rfl⟩)
          | (refine step_append (k := kItem) (h := h') (hx := Hp.none) (A := C) (cap := cap) (B := some ⟨wr.heap.size, 0, none⟩) (xs := mkItems ks ams j) (ys := [⟨within x 9, amount y⟩]) (by rfl) (.tmp 26) (.tmp 38) 37 (by rfl) 36 i0 (.agg #[.int .i64 0, .int .i64 0]) Try.underlying37 hi hz0 hz1 (by rfl) 16 hz2 (mkItems ks ams j).length 1 1 rfl rfl (by rfl) (by rfl) ho.out
              (hu.sub.of_below (by repeat (first | exact Below.refl _ _ | apply Below.drew | refine Below.alloc ?_ (by simp) _))) (Src.new (heap_new_at (by simp)) rfl) (Hp.none_sub _) (Hp.apart_none _) (by rw [HL.out]; unfold maxLen; omega) (by rw [HL.out]; omega) ?_; intro C' cap' w1 h1 ho1 hu1))
      go_wp2
      go_roundw
      case rel => exact ⟨j + 1, cap', C', h1, by omega, by omega, by omega, by go_num, by rw [HS.out]; simp, by rw [HS.out]; exact ho1, hu.trans (hu1.flat.before (by repeat (first | exact Below.refl _ _ | apply Below.drew | refine Below.alloc ?_ (by simp) _)))⟩
      case measure => simp [intOf]; omega
    · have hfin : mkItems ks ams most = mkItems ks ams j := by
        unfold mkItems
        congr 1
        by_cases h3 : j < most
        · rw [List.take_of_length_le (by simp; omega), List.take_of_length_le (by simp; omega)]
        · have : j = most := by omega
          rw [this]
      have HF := Lib.hid hfin
      clear hfin
      by_cases t1 : j < ks.length
      · by_cases t2 : j < ams.length
        · have t3 : ¬ j < most := fun h => hlt ⟨t1, t2, h⟩
          clear hlt
          go_wp2
          go_ret
          exact ⟨C, cap, h', by rw [HF.out]; rfl, by rw [HF.out]; exact ho, hu⟩
        · clear hlt
          go_wp2
          go_ret
          exact ⟨C, cap, h', by rw [HF.out]; rfl, by rw [HF.out]; exact ho, hu⟩
      · clear hlt
        go_wp2
        go_ret
        exact ⟨C, cap, h', by rw [HF.out]; rfl, by rw [HF.out]; exact ho, hu⟩
end Go.Proofs.Ytdcfojohgcmpcaa
end
section
/- Parts of memory put together. No program is named here. -/
namespace Go.Sl
open Go Go.RowKit
theorem Own.append {w : World} : ∀ {l m : List Hp}, Own w l → Own w m → (∀ h ∈ l, ∀ k ∈ m, h.apart k) → Own w (l ++ m)
  | [], _, _, o, _ => o
  | h :: l, m, o, p, a => ⟨o.1, fun k hk => by
      rcases List.mem_append.1 hk with hk | hk
      · exact o.2.1 k hk
      · exact a h (by simp) k hk, o.2.2.append p fun x hx k hk => a x (by simp [hx]) k hk⟩
/-- What a call made since, beside what there was. -/
theorem Env.join {w0 w w1 : World} {l m : List Hp} (E : Env w0 w l) (F : Env w w1 m) : Env w0 w1 (l ++ m) :=
  ⟨(E.own.below F.low).append F.own fun h hh k hk b hb => by
    cases e : k b with
    | none => rfl
    | some o =>
      have h1 := F.fr k hk b (by simp [e])
      have h2 := (E.own.mem h hh).lt hb
      omega, fun h hh q hq => by
    rcases List.mem_append.1 hh with hh | hh
    · exact E.fr h hh q hq
    · exact Nat.le_trans E.low.size (F.fr h hh q hq), E.low.trans (F.low.mono E.low.size)⟩
end Go.Sl
end
section
/- The functions over items, in a body's own memory. -/
namespace Go.Sl
def modI (x : SItem) : SItem := ⟨x.kind, x.amt.tmod 1000000⟩
theorem modI_bd (x : SItem) : -1000000 ≤ (modI x).amt ∧ (modI x).amt ≤ 1000000 := by
  have h1 := Int.lt_tmod_of_pos x.amt (b := 1000000) (by omega)
  have h2 := Int.tmod_lt_of_pos x.amt (b := 1000000) (by omega)
  simp only [modI]; omega
theorem modL_bd (xs : List SItem) : BdL 1000000000 (xs.map modI) := fun x hx => by
  obtain ⟨y, _, rfl⟩ := List.mem_map.1 hx
  have := modI_bd y; omega
end Go.Sl
namespace Go.Proofs.Ytdcfojohgcmpcaa
open Go.RowKit Go.Sl
set_option maxHeartbeats 1000000
set_option maxRecDepth 100000
theorem copy_item (A : Option Addr) (ca : Nat) (xs : List SItem) (h : Hp) (w : World) (hs : h.sub w) (sx : Sl kItem h A ca xs) (hl : xs.length ≤ 1000000) :
    Calls Try.prog 22 #[.slice A xs.length ca] w fun e w' => ∃ C cap h', e = .returned (.slice C xs.length cap) ∧ Ow kItem h' C cap xs ∧ Upd Hp.none h' w w' := by
  go_enter Try.func22, Try.ntmps22
  go_wp2_with (at_builtin; refine wpList_clone (B := none) Try.underlying37 info_item (by rfl) (by rfl) rfl xs.length ca (by rfl) (by rfl) rfl kItem_flat sx hs (by omega) (by omega) ?_; intro C' cap' w1 h1 ho1 hu1)
  go_ret
  exact ⟨C', cap', h1, rfl, ho1, hu1⟩
section
variable {w0 w : World} {l : List Hp} {h k : Hp} {xs ys : List SItem} {A B : Option Addr} {ca cb : Nat}
theorem Itm.items (E : Env w0 w l) {ks ams : List Int} {K M : Option Addr} {ck cm : Nat} (hs : h.sub w0) (qs : k.sub w0) (sx : Sl kInt h K ck ks) (sy : Sl kInt k M cm ams) (hw : ∀ n ∈ ams, I64 n) (most : Nat) (hm : most ≤ 1000) (n m : Nat) (hn : ks.length = n) (hm2 : ams.length = m) :
    Calls Try.prog 21 #[.slice K n ck, .slice M m cm, .int .i64 most] w fun e w' => ∃ C cap h', e = .returned (.slice C (mkItems ks ams most).length cap) ∧ Ow kItem h' C cap (mkItems ks ams most) ∧ Env w0 w' (l ++ [h']) := by
  subst hn hm2
  exact (items_calls K M ck cm ks ams most h k w (E.arg hs) (E.arg qs) sx sy hw hm).mono fun _ _ ⟨C, cap, h', he, ho, u⟩ => ⟨C, cap, h', he, ho, E.new u⟩
theorem Itm.copy (E : Env w0 w l) (sx : Sl kItem h A ca xs) (hs : h.sub w) (hl : xs.length ≤ 1000000) (n : Nat) (hn : xs.length = n) :
    Calls Try.prog 22 #[.slice A n ca] w fun e w' => ∃ C cap h', e = .returned (.slice C n cap) ∧ Ow kItem h' C cap xs ∧ Env w0 w' (l ++ [h']) := by
  subst hn
  exact (copy_item A ca xs h w hs sx hl).mono fun _ _ ⟨C, cap, h', he, ho, u⟩ => ⟨C, cap, h', he, ho, E.new u⟩
theorem Itm.same (E : Env w0 w l) (ks : h.sub w) (ks2 : k.sub w) (sx : Sl kItem h A ca xs) (sy : Sl kItem k B cb ys) (n m : Nat) (hn : xs.length = n) (hm : ys.length = m) (he : xs = ys) :
    Calls Try.prog 24 #[.slice A n ca, .slice B m cb] w fun e w' => e = .returned (.bool true) ∧ Env w0 w' l := by
  subst hn hm
  exact (same_item A B ca cb xs ys h k w ks ks2 sx sy).mono fun _ _ ⟨h1, b⟩ => ⟨by rw [h1, eqB_t he], E.below b⟩
theorem Itm.convert (E : Env w0 w l) (hs : h.sub w) (sx : Sl kItem h A ca xs) (fx : Int) (n : Nat) (hn : xs.length = n) {L : List SItem} {d e : Int} (hL : convL xs fx = L ∧ convD xs fx = d ∧ convE xs fx = e) :
    Calls Try.prog 18 #[.slice A n ca, .int .i64 fx] w fun r w' => ∃ C cap h', r = .returned (.tuple #[.slice C L.length cap, .int .i64 d, .int .i64 e]) ∧ Ow kItem h' C cap L ∧ Env w0 w' (l ++ [h']) := by
  obtain ⟨h1, h2, h3⟩ := hL
  subst hn h1 h2 h3
  exact (convert_calls A ca xs fx h w hs sx).mono fun _ _ ⟨C, cap, h', he, ho, u⟩ => ⟨C, cap, h', he, ho, E.new u⟩
theorem Itm.refConvert (E : Env w0 w l) (hs : h.sub w) (sx : Sl kItem h A ca xs) (fx : Int) (n : Nat) (hn : xs.length = n) {L : List SItem} {d e : Int} (hL : convL xs fx = L ∧ convD xs fx = d ∧ convE xs fx = e) :
    Calls Try.prog 23 #[.slice A n ca, .int .i64 fx] w fun r w' => ∃ C cap h', r = .returned (.tuple #[.slice C L.length cap, .int .i64 d, .int .i64 e]) ∧ Ow kItem h' C cap L ∧ Env w0 w' (l ++ [h']) := by
  obtain ⟨h1, h2, h3⟩ := hL
  subst hn h1 h2 h3
  exact (refConvert_calls A ca xs fx h w hs sx).mono fun _ _ ⟨C, cap, h', he, ho, u⟩ => ⟨C, cap, h', he, ho, E.new u⟩
theorem Itm.add (E : Env w0 w l) (hs : h.sub w) (ks : k.sub w) (sx : Sl kItem h A ca xs) (sy : Sl kItem k B cb ys) (hx : xs.length ≤ 100) (hy : ys.length ≤ 100) (bx : BdL 1000000000 xs) (by' : BdL 1000000000 ys) (n m : Nat) (hn : xs.length = n) (hm : ys.length = m) {L : List SItem} (hL : fxAdd (xs ++ ys) = L) :
    Calls Try.prog 19 #[.slice A n ca, .slice B m cb] w fun r w' => ∃ C cap h', r = .returned (.slice C L.length cap) ∧ Ow kItem h' C cap L ∧ Env w0 w' (l ++ [h']) := by
  subst hn hm hL
  exact (fxAdd_calls A B ca cb xs ys h k w hs ks sx sy hx hy bx by').mono fun _ _ ⟨C, cap, h', he, ho, u⟩ => ⟨C, cap, h', he, ho, E.new u⟩
theorem Itm.refAdd (E : Env w0 w l) (hs : h.sub w) (ks : k.sub w) (sx : Sl kItem h A ca xs) (sy : Sl kItem k B cb ys) (hx : xs.length ≤ 100) (hy : ys.length ≤ 100) (bx : BdL 1000000000 xs) (by' : BdL 1000000000 ys) (n m : Nat) (hn : xs.length = n) (hm : ys.length = m) {L : List SItem} (hL : fxAdd (xs ++ ys) = L) :
    Calls Try.prog 25 #[.slice A n ca, .slice B m cb] w fun r w' => ∃ C cap h', r = .returned (.slice C L.length cap) ∧ Ow kItem h' C cap L ∧ Env w0 w' (l ++ [h']) := by
  subst hn hm hL
  rw [fxAdd_ref]
  exact (addItems_calls A B ca cb xs ys h k w hs ks sx sy hx hy bx by').mono fun _ _ ⟨C, cap, h', he, ho, u⟩ => ⟨C, cap, h', he, ho, E.new u⟩
end
end Go.Proofs.Ytdcfojohgcmpcaa
end
section
/- A region that draws its order, by facts: of each operation one fact on its slot; each operation is shown once, whatever the order. No program is named here. -/
namespace Go.Sl
open Go Go.RowKit
def leftL : List Bool → Nat
  | [] => 0
  | b :: l => (if b = true then 0 else 1) + leftL l
theorem leftL_set : ∀ (l : List Bool) (i : Nat), l[i]? = some false → leftL (l.set i true) + 1 = leftL l
  | [], _, h => by simp at h
  | b :: l, 0, h => by
    simp at h; subst h; simp [leftL]; omega
  | b :: l, i + 1, h => by
    have := leftL_set l i (by simpa using h)
    simp only [List.set_cons_succ, leftL]; omega
theorem leftL_pos : ∀ (l : List Bool) (i : Nat), l[i]? = some false → 0 < leftL l
  | [], _, h => by simp at h
  | b :: l, 0, h => by simp at h; subst h; simp [leftL]; omega
  | b :: l, i + 1, h => by
    have := leftL_pos l i (by simpa using h)
    simp only [leftL]; omega
theorem leftL_rep : ∀ n : Nat, leftL (List.replicate n false) = n
  | 0 => rfl
  | n + 1 => by rw [List.replicate_succ]; simp only [leftL]; rw [leftL_rep n]; simp; omega
theorem getD_no {l : Array Bool} {i : Nat} (h : l.getD i true = false) : l.toList[i]? = some false := by
  rw [Array.getElem?_toList]
  rw [Array.getD_eq_getD_getElem?] at h
  cases hq : l[i]? with
  | none => rw [hq] at h; cases h
  | some b => rw [hq] at h; simp at h; rw [h]
section
variable {P : Program} {ops : Array Oper} {Q : Exit → Act → World → Prop} {md : Region.Mode}
theorem wpAny_inv (I : Array Bool → Act → World → Prop)
    (step : ∀ listed a w i, I listed a w → i ∈ Region.ready md ops listed → wpOp P ops Q i (fun a' w' => I (listed.setIfInBounds i true) a' w') a w)
    (fin : ∀ listed a w, I listed a w → Region.ready md ops listed = [] → Q .normal a w) :
    ∀ (fuel : Nat) (listed : Array Bool) (a : Act) (w : World), I listed a w → leftL listed.toList ≤ fuel → wpAny P md ops Q fuel listed a w
  | 0, listed, a, w, hI, hl => by
    have hr : Region.ready md ops listed = [] := List.eq_nil_iff_forall_not_mem.2 fun i hi => by
      have := leftL_pos _ i (getD_no (mem_ready.1 hi).1)
      omega
    exact ⟨hr, fin _ _ _ hI hr⟩
  | fuel + 1, listed, a, w, hI, hl => by
    refine ⟨fun h => fin _ _ _ hI h, fun i hi => wpOp_mono (fun a' w' h => wpAny_inv I step fin fuel _ a' w' h ?_) (step _ _ _ _ hI hi)⟩
    have := leftL_set _ i (getD_no (mem_ready.1 hi).1)
    rw [Array.toList_setIfInBounds]; omega
/-- Edges lead back. -/
def lowB (ops : Array Oper) : Bool := (List.range ops.size).all fun i => match ops[i]? with | some o => o.after.toList.all (fun e => decide (e.on < i)) | none => true
/-- Slots are each one operation's, and there. -/
def dstB (ops : Array Oper) (n : Nat) : Bool :=
  ((List.range ops.size).all fun i => (List.range ops.size).all fun j => decide (i = j) || (match ops[i]?, ops[j]? with | some x, some y => x.dst.isNone || decide (x.dst ≠ y.dst) | _, _ => true)) &&
  (List.range ops.size).all fun i => match ops[i]? with | some o => (match o.dst with | some d => decide (d < n) | none => true) | none => true
theorem lowB_spec (h : lowB ops = true) {i : Nat} {o : Oper} (ho : ops[i]? = some o) {e} (he : e ∈ o.after) : e.on < i := by
  unfold lowB at h
  have hi : i < ops.size := (Array.getElem?_eq_some_iff.1 ho).1
  have h1 := List.all_eq_true.1 h i (List.mem_range.2 hi)
  rw [ho] at h1
  have h2 := List.all_eq_true.1 h1 e (by simpa using he)
  simpa using h2
theorem dstB_apart {n : Nat} (h : dstB ops n = true) {i j : Nat} {o o' : Oper} (ho : ops[i]? = some o) (ho' : ops[j]? = some o') {d : Tmp} (hd : o.dst = some d) (hd' : o'.dst = some d) : i = j := by
  unfold dstB at h
  rw [Bool.and_eq_true] at h
  have hi : i < ops.size := (Array.getElem?_eq_some_iff.1 ho).1
  have hj : j < ops.size := (Array.getElem?_eq_some_iff.1 ho').1
  have h1 := List.all_eq_true.1 (List.all_eq_true.1 h.1 i (List.mem_range.2 hi)) j (List.mem_range.2 hj)
  rw [ho, ho'] at h1
  simp [hd, hd'] at h1
  exact h1
theorem dstB_in {n : Nat} (h : dstB ops n = true) {i : Nat} {o : Oper} (ho : ops[i]? = some o) {d : Tmp} (hd : o.dst = some d) : d < n := by
  unfold dstB at h
  rw [Bool.and_eq_true] at h
  have hi : i < ops.size := (Array.getElem?_eq_some_iff.1 ho).1
  have h1 := List.all_eq_true.1 h.2 i (List.mem_range.2 hi)
  rw [ho] at h1
  simp [hd] at h1
  exact h1
/-- What a region's frame keeps of the one it came with. -/
structure Keep (ops : Array Oper) (a0 a : Act) : Prop where
  size : a.tmps.size = a0.tmps.size
  defers : a.defers = a0.defers
  old : ∀ t : Tmp, (∀ (k : Nat) (o : Oper), ops[k]? = some o → o.dst ≠ some t) → a.eval (.tmp t) = a0.eval (.tmp t)
theorem put_eval_ne {a : Act} {dst : Option Tmp} {v : Value} {t : Tmp} (h : dst ≠ some t) : (a.put dst v).eval (.tmp t) = a.eval (.tmp t) := by
  cases dst with
  | none => rfl
  | some d =>
    have hne : d ≠ t := fun e => h (by rw [e])
    simp only [Act.put, Act.eval, Array.getD_eq_getD_getElem?]
    rw [Array.getElem?_setIfInBounds_ne hne]
theorem put_eval_eq {a : Act} {d : Tmp} {v : Value} (h : d < a.tmps.size) : (a.put (some d) v).eval (.tmp d) = v := by
  simp only [Act.put, Act.eval, Array.getD_eq_getD_getElem?]
  rw [Array.getElem?_setIfInBounds_self_of_lt h]; rfl
theorem put_size (a : Act) (dst : Option Tmp) (v : Value) : (a.put dst v).tmps.size = a.tmps.size := by
  cases dst <;> simp [Act.put]
theorem put_defers' (a : Act) (dst : Option Tmp) (v : Value) : (a.put dst v).defers = a.defers := by
  cases dst <;> rfl
/-- No operation writes this slot. -/
def keepB (ops : Array Oper) (t : Tmp) : Bool := ops.toList.all fun o => decide (o.dst ≠ some t)
theorem Keep.at {a0 a : Act} (kp : Keep ops a0 a) {t : Tmp} (h : keepB ops t = true) : a.tmps[t]?.getD undef = a0.tmps[t]?.getD undef := by
  have := kp.old t fun k o ho => by
    have h1 := List.all_eq_true.1 h o (by rw [← Array.getElem?_toList] at ho; exact List.mem_of_getElem? ho)
    simpa using h1
  simpa [Act.eval, Array.getD_eq_getD_getElem?] using this
theorem act_open {a : Act} {n : Nat} {ds : List Deferred} (hn : a.tmps.size = n) (hd : a.defers = ds) : a = ⟨((List.range n).map fun t => a.tmps[t]?.getD undef).toArray, ds⟩ := by
  cases a with
  | mk tm df =>
    simp only at hn hd
    subst hn hd
    congr 1
    apply Array.ext
    · simp
    · intro i h1 h2; simp [h1]
theorem eval_tmp (a : Act) (t : Tmp) : a.eval (.tmp t) = a.tmps[t]?.getD undef := by simp [Act.eval, Array.getD_eq_getD_getElem?]
/-- THE LAW. -/
theorem wp_region_facts {id : Nat} {a0 : Act} {w : World} (F : Nat → Value → World → Prop) (G : World → Prop)
    (hm : P.follows .mixedOrders = true) (hlow : lowB ops = true) (hdst : dstB ops a0.tmps.size = true) (hG : G w.drew)
    (hop : ∀ (i : Nat) (o : Oper), ops[i]? = some o → ∀ (a : Act) (w : World), G w → Keep ops a0 a →
      (∀ e ∈ o.after, Region.binds .any e = true → ∀ (o' : Oper) (d : Tmp), ops[e.on]? = some o' → o'.dst = some d → F e.on (a.eval (.tmp d)) w) →
      wpOp P ops Q i (fun a' w' => ∃ v, a' = a.put o.dst v ∧ (o.dst ≠ none → F i v w') ∧ G w' ∧ ∀ k v, F k v w → F k v w') a w)
    (hfin : ∀ (a : Act) (w : World), G w → Keep ops a0 a → (∀ (k : Nat) (o : Oper) (d : Tmp), ops[k]? = some o → o.dst = some d → F k (a.eval (.tmp d)) w) → Q .normal a w) :
    (Code.region id ops true).wp P Q a0 w := by
  refine wp_region_any hm ?_
  refine wpAny_inv (fun listed a w => listed.size = ops.size ∧ G w ∧ Keep ops a0 a ∧ ∀ (k : Nat) (o : Oper) (d : Tmp), ops[k]? = some o → o.dst = some d → listed.getD k false = true → F k (a.eval (.tmp d)) w) ?_ ?_ ops.size _ a0 _ ⟨by simp, hG, ⟨rfl, rfl, fun _ _ => rfl⟩, ?_⟩ (by rw [Array.toList_replicate, leftL_rep]; exact Nat.le_refl _)
  · intro listed a w i ⟨hs, g, kp, hf⟩ hi
    obtain ⟨hn, o, ho, hall⟩ := mem_ready.1 hi
    refine wpOp_mono ?_ (hop i o ho a w g kp fun e he hb o' d ho' hd' => hf _ _ _ ho' hd' (hall e he hb))
    rintro a' w' ⟨v, rfl, hv, g', hk⟩
    refine ⟨by simpa using hs, g', ⟨by rw [put_size]; exact kp.size, by rw [put_defers']; exact kp.defers, fun t ht => by rw [put_eval_ne (ht i o ho)]; exact kp.old t ht⟩, ?_⟩
    intro k o' d hk' hd' hl
    by_cases hik : i = k
    · subst hik
      rw [ho] at hk'
      cases hk'
      rw [hd', put_eval_eq (by rw [kp.size]; exact dstB_in hdst ho hd')]
      exact hv (by rw [hd']; simp)
    · have hne : o.dst ≠ some d := fun h => hik (dstB_apart hdst ho hk' h hd')
      rw [put_eval_ne hne]
      refine hk _ _ (hf k o' d hk' hd' ?_)
      rw [Array.getD_eq_getD_getElem?, Array.getElem?_setIfInBounds_ne hik, ← Array.getD_eq_getD_getElem?] at hl
      exact hl
  · intro listed a w ⟨hs, g, kp, hf⟩ hr
    have hall : ∀ i, i < ops.size → listed.getD i false = true := by
      intro i
      induction i using Nat.strongRecOn with
      | _ i ih =>
        intro hi
        cases hq : listed.getD i true with
        | true =>
          have hlt : i < listed.size := by omega
          rw [Array.getD_eq_getD_getElem?, Array.getElem?_eq_getElem hlt] at hq ⊢
          simpa using hq
        | false =>
          have hmem : i ∈ Region.ready .any ops listed := mem_ready.2 ⟨hq, ops[i], by simp [hi], fun e he _ => by
            have h1 := lowB_spec hlow (i := i) (o := ops[i]) (by simp [hi]) he
            exact ih _ h1 (by omega)⟩
          rw [hr] at hmem
          cases hmem
    exact hfin a w g kp fun k o d hk hd => hf k o d hk hd (hall k (Array.getElem?_eq_some_iff.1 hk).1)
  · intro k o d _ _ hl
    exfalso
    rw [Array.getD_eq_getD_getElem?, Array.getElem?_replicate] at hl
    split at hl <;> simp at hl
/-- The last operation waits for all others. -/
def lastB (ops : Array Oper) : Bool := match ops[ops.size - 1]? with
  | some o => (List.range (ops.size - 1)).all fun k => o.after.toList.any (fun e => Region.binds .any e && decide (e.on = k))
  | none => false
theorem lastB_spec (h : lastB ops = true) {o : Oper} (ho : ops[ops.size - 1]? = some o) {k : Nat} (hk : k < ops.size - 1) : ∃ e ∈ o.after, Region.binds .any e = true ∧ e.on = k := by
  unfold lastB at h
  rw [ho] at h
  obtain ⟨e, he, h2⟩ := List.any_eq_true.1 (List.all_eq_true.1 h k (List.mem_range.2 hk))
  rw [Bool.and_eq_true] at h2
  exact ⟨e, by simpa using he, h2.1, by simpa using h2.2⟩
/-- THE LAW, where the last operation (a store, most times) waits for all others: it is shown by itself. -/
theorem wp_region_facts_last {id : Nat} {a0 : Act} {w : World} (F : Nat → Value → World → Prop) (G : World → Prop)
    (hm : P.follows .mixedOrders = true) (hlow : lowB ops = true) (hdst : dstB ops a0.tmps.size = true) (hlast : lastB ops = true) (hG : G w.drew)
    (hop : ∀ (i : Nat) (o : Oper), i < ops.size - 1 → ops[i]? = some o → ∀ (a : Act) (w : World), G w → Keep ops a0 a →
      (∀ e ∈ o.after, Region.binds .any e = true → ∀ (o' : Oper) (d : Tmp), ops[e.on]? = some o' → o'.dst = some d → F e.on (a.eval (.tmp d)) w) →
      wpOp P ops Q i (fun a' w' => ∃ v, a' = a.put o.dst v ∧ (o.dst ≠ none → F i v w') ∧ G w' ∧ ∀ k v, F k v w → F k v w') a w)
    (hfin : ∀ (a : Act) (w : World), G w → Keep ops a0 a → (∀ (k : Nat) (o : Oper) (d : Tmp), k < ops.size - 1 → ops[k]? = some o → o.dst = some d → F k (a.eval (.tmp d)) w) → wpOp P ops Q (ops.size - 1) (fun a' w' => Q .normal a' w') a w) :
    (Code.region id ops true).wp P Q a0 w := by
  refine wp_region_any hm ?_
  have hpos : 0 < ops.size := by
    unfold lastB at hlast
    cases hq : ops[ops.size - 1]? with
    | none => rw [hq] at hlast; cases hlast
    | some o => have := (Array.getElem?_eq_some_iff.1 hq).1; omega
  refine wpAny_inv (fun listed a w => (listed.size = ops.size ∧ listed.getD (ops.size - 1) true = false ∧ G w ∧ Keep ops a0 a ∧ ∀ (k : Nat) (o : Oper) (d : Tmp), ops[k]? = some o → o.dst = some d → listed.getD k false = true → F k (a.eval (.tmp d)) w) ∨ ((∀ k, k < ops.size → listed.getD k true = true) ∧ Q .normal a w)) ?_ ?_ ops.size _ a0 _ (.inl ⟨by simp, ?_, hG, ⟨rfl, rfl, fun _ _ => rfl⟩, ?_⟩) (by rw [Array.toList_replicate, leftL_rep]; exact Nat.le_refl _)
  · intro listed a w i hI hi
    obtain ⟨hn, o, ho, hall⟩ := mem_ready.1 hi
    have hin : i < ops.size := (Array.getElem?_eq_some_iff.1 ho).1
    rcases hI with ⟨hs, hl0, g, kp, hf⟩ | ⟨hx, _⟩
    · by_cases hil : i = ops.size - 1
      · subst hil
        refine wpOp_mono ?_ (hfin a w g kp fun k o' d hk ho' hd' => ?_)
        · intro a' w' hq
          refine .inr ⟨fun k hk => ?_, hq⟩
          by_cases hkl : ops.size - 1 = k
          · subst hkl
            rw [Array.getD_eq_getD_getElem?, Array.getElem?_setIfInBounds_self_of_lt (by omega)]; rfl
          · obtain ⟨e, he, hb, rfl⟩ := lastB_spec hlast ho (k := k) (by omega)
            have h1 := hall e he hb
            rw [Array.getD_eq_getD_getElem?, Array.getElem?_setIfInBounds_ne hkl]
            rw [Array.getD_eq_getD_getElem?] at h1
            cases hq : listed[e.on]? with
            | none => rfl
            | some b => rw [hq] at h1; exact h1
        · obtain ⟨e, he, hb, rfl⟩ := lastB_spec hlast ho (k := k) hk
          exact hf _ _ _ ho' hd' (hall e he hb)
      · refine wpOp_mono ?_ (hop i o (by omega) ho a w g kp fun e he hb o' d ho' hd' => hf _ _ _ ho' hd' (hall e he hb))
        rintro a' w' ⟨v, rfl, hv, g', hk⟩
        refine .inl ⟨by simpa using hs, by rw [Array.getD_eq_getD_getElem?, Array.getElem?_setIfInBounds_ne hil, ← Array.getD_eq_getD_getElem?]; exact hl0, g', ⟨by rw [put_size]; exact kp.size, by rw [put_defers']; exact kp.defers, fun t ht => by rw [put_eval_ne (ht i o ho)]; exact kp.old t ht⟩, ?_⟩
        intro k o' d hk' hd' hl
        by_cases hik : i = k
        · subst hik
          rw [ho] at hk'
          cases hk'
          rw [hd', put_eval_eq (by rw [kp.size]; exact dstB_in hdst ho hd')]
          exact hv (by rw [hd']; simp)
        · have hne : o.dst ≠ some d := fun h => hik (dstB_apart hdst ho hk' h hd')
          rw [put_eval_ne hne]
          refine hk _ _ (hf k o' d hk' hd' ?_)
          rw [Array.getD_eq_getD_getElem?, Array.getElem?_setIfInBounds_ne hik, ← Array.getD_eq_getD_getElem?] at hl
          exact hl
    · have := hx i hin
      rw [this] at hn; cases hn
  · intro listed a w hI hr
    rcases hI with ⟨hs, hl0, g, kp, hf⟩ | ⟨_, hq⟩
    · exfalso
      have hall : ∀ i, i < ops.size → listed.getD i true = true := by
        intro i
        induction i using Nat.strongRecOn with
        | _ i ih =>
          intro hi
          cases hq : listed.getD i true with
          | true => rfl
          | false =>
            have hmem : i ∈ Region.ready .any ops listed := mem_ready.2 ⟨hq, ops[i], by simp [hi], fun e he _ => by
              have h1 := lowB_spec hlow (i := i) (o := ops[i]) (by simp [hi]) he
              have h2 := ih _ h1 (by omega)
              have hlt : e.on < listed.size := by omega
              rw [Array.getD_eq_getD_getElem?, Array.getElem?_eq_getElem hlt] at h2 ⊢
              simpa using h2⟩
            rw [hr] at hmem
            cases hmem
      rw [hall _ (by omega)] at hl0
      cases hl0
    · exact hq
  · rw [Array.getD_eq_getD_getElem?, Array.getElem?_replicate, if_pos (by omega)]; rfl
  · intro k o d _ _ hl
    exfalso
    rw [Array.getD_eq_getD_getElem?, Array.getElem?_replicate] at hl
    split at hl <;> simp at hl
end
end Go.Sl
end
