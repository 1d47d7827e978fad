/- The small functions of the program and of the document's answer, as plain Lean on whole numbers. No program is named here. -/
import Derived.WalkKit
namespace Go.Sl
open Go Go.RowKit

/-- Any number as one from 0 to n - 1. -/
def within (v n : Int) : Int := v % n
theorem within_lo (v : Int) {n : Int} (h : 0 < n) : 0 ≤ within v n := Int.emod_nonneg _ (by omega)
theorem within_hi (v : Int) {n : Int} (h : 0 < n) : within v n < n := Int.emod_lt_of_pos _ h

theorem tmod_emod_neg {v n : Int} (h : 0 < n) (hv : v.tmod n < 0) : v.tmod n + n = v % n := by
  have h1 := Int.tmod_def v n
  have h2 := Int.emod_def v n
  have h3 : v < 0 := by
    rcases Int.lt_or_le v 0 with h | h
    · exact h
    · have := Int.tmod_nonneg n h; omega
  rw [Int.tmod_eq_emod] at hv ⊢
  split <;> rename_i hc <;> simp_all
  · have := Int.emod_nonneg v (show n ≠ 0 by omega); omega
  · have : (n.natAbs : Int) = n := by omega
    omega
theorem tmod_emod_pos {v n : Int} (h : 0 < n) (hv : ¬ v.tmod n < 0) : v.tmod n = v % n := by
  have h4 := Int.emod_lt_of_pos v h
  rw [Int.tmod_eq_emod] at hv ⊢
  split <;> rename_i hc <;> simp_all
  have : (n.natAbs : Int) = n := by omega
  omega

/-- What the generators make of a number. -/
def amount (n : Int) : Int :=
  if n.tmod 23 = 20 then 100000000000 - within (n.tdiv 23) 5 + 2
  else if n.tmod 23 = 21 then -100000000000 + within (n.tdiv 23) 5 - 2
  else if n.tmod 23 = 22 then n
  else if n.tmod 23 = 19 then within (n.tdiv 23) 200000000001 - 100000000000
  else within n 4001 - 2000

def money (n : Int) : Bool := decide (-100000000000 ≤ n ∧ n ≤ 100000000000)
def rightRate (r : Int) : Bool := decide (0 ≤ r ∧ r ≤ 1000000)
/-- A part of an amount, rounded to the nearest: halves away from 0. -/
def partOf (n r : Int) : Int := if n < 0 then (2 * n * r - 1000000).tdiv 2000000 else (2 * n * r + 1000000).tdiv 2000000
theorem partOf_pos {n r : Int} (h : 0 ≤ n) (hr : 0 ≤ r) : partOf n r = (2 * (n * r) + 1000000) / 2000000 := by
  have h1 : 0 ≤ n * r := Int.mul_nonneg h hr
  unfold partOf
  rw [if_neg (by omega), Int.mul_assoc, Int.tdiv_eq_ediv_of_nonneg (by omega)]
theorem partOf_opp (n r : Int) : partOf (-n) r = -partOf n r := by
  unfold partOf
  have e : 2 * -n * r = -(2 * n * r) := by rw [Int.mul_neg, Int.neg_mul]
  rcases Int.lt_trichotomy n 0 with h | h | h
  · rw [if_neg (by omega), if_pos h, ← Int.neg_tdiv, e]; congr 1; omega
  · subst h; simp
  · rw [if_pos (by omega), if_neg (by omega), ← Int.neg_tdiv, e]; congr 1; omega
theorem partOf_neg {n r : Int} (h : n ≤ 0) (hr : 0 ≤ r) : partOf n r = -((2 * (-n * r) + 1000000) / 2000000) := by
  have h1 := partOf_opp (-n) r
  rw [Int.neg_neg] at h1
  rw [h1, partOf_pos (by omega) hr]
theorem mul_bd {n r : Int} (h1 : -400000000000 ≤ n) (h2 : n ≤ 400000000000) (h3 : 0 ≤ r) (h4 : r ≤ 10000000) : -8000000000000000000 ≤ 2 * n * r ∧ 2 * n * r ≤ 8000000000000000000 := by
  have a : 2 * n * r ≤ 800000000000 * r := Int.mul_le_mul_of_nonneg_right (by omega) h3
  have b : -800000000000 * r ≤ 2 * n * r := Int.mul_le_mul_of_nonneg_right (by omega) h3
  omega
theorem partOf_bd {n r : Int} (h1 : -400000000000 ≤ n) (h2 : n ≤ 400000000000) (h3 : 0 ≤ r) (h4 : r ≤ 10000000) : -4000000000001 ≤ partOf n r ∧ partOf n r ≤ 4000000000001 := by
  have h5 := mul_bd h1 h2 h3 h4
  rw [Int.mul_assoc] at h5
  rcases Int.le_total 0 n with h | h
  · rw [partOf_pos h h3]; have := Int.mul_nonneg h h3; omega
  · rw [partOf_neg h h3, Int.neg_mul]; omega
def ofOk (n r : Int) : Bool := decide (-400000000000 ≤ n ∧ n ≤ 400000000000 ∧ 0 ≤ r ∧ r ≤ 10000000)
def ofVal (n r : Int) : Int := if ofOk n r then partOf n r else 0

theorem ofOk_neg (n r : Int) : ofOk (-n) r = ofOk n r := by unfold ofOk; exact decide_eq_decide.2 (by omega)
theorem ofVal_neg (n r : Int) : ofVal (-n) r = -ofVal n r := by
  unfold ofVal
  rw [ofOk_neg, partOf_opp]
  split <;> simp
theorem ofVal_bd (n r : Int) : -4000000000001 ≤ ofVal n r ∧ ofVal n r ≤ 4000000000001 := by
  unfold ofVal
  split
  · rename_i h
    simp only [ofOk, decide_eq_true_eq] at h
    exact partOf_bd h.1 h.2.1 h.2.2.1 h.2.2.2
  · omega

end Go.Sl
