/- Plain laws of journals: merged lines are right, each account keeps its sum, the order does not count. No program is named here. -/
import Derived.Test.YtnpnndifhlihhaaJournalP
namespace Go.Sl
open Go Go.RowKit

theorem accSum_mergeTo (z : List SItem) (k : Nat) : ∀ n, accSum k (mergeTo z n) = if 1 ≤ k ∧ k ≤ n then accSum k z else 0
  | 0 => by simp [mergeTo, accSum]; omega
  | n + 1 => by
    have ih := accSum_mergeTo z k n
    by_cases h0 : accSum (n + 1) z = 0
    · rw [mergeTo_no h0, ih]
      by_cases hk : k = n + 1
      · subst hk; rw [if_neg (by omega), if_pos (by omega)]; exact h0.symm
      · by_cases h : 1 ≤ k ∧ k ≤ n
        · rw [if_pos h, if_pos (by omega)]
        · rw [if_neg h, if_neg (by omega)]
    · rw [mergeTo_yes h0, accSum_snoc, ih]
      by_cases hk : k = n + 1
      · subst hk
        rw [if_neg (by omega), if_pos (by simp), if_pos (by omega), Int.zero_add]; rfl
      · rw [if_neg (show ¬ ((n : Int) + 1 = (k : Int)) by omega), Int.add_zero]
        by_cases h : 1 ≤ k ∧ k ≤ n
        · rw [if_pos h, if_pos (by omega)]
        · rw [if_neg h, if_neg (by omega)]
theorem accSum_merge {z : List SItem} {k : Int} (h1 : 1 ≤ k) (h7 : k ≤ 7) : accSum k (merge z) = accSum k z := by
  obtain ⟨n, rfl⟩ := Int.eq_ofNat_of_zero_le (show 0 ≤ k by omega)
  have := accSum_mergeTo z n 7
  rw [if_pos (by omega)] at this
  exact this
theorem accSum_merge_out {z : List SItem} {k : Int} (h : k < 1 ∨ 7 < k) : accSum k (merge z) = 0 := by
  rcases Int.lt_or_le k 0 with hk | hk
  · have key : ∀ xs : List SItem, (∀ x ∈ xs, 1 ≤ x.kind) → accSum k xs = 0 := by
      intro xs
      induction xs with
      | nil => intro _; rfl
      | cons x xs ih => intro hx; have := hx x (by simp); simp only [accSum, if_neg (show ¬ x.kind = k by omega), ih (fun y hy => hx y (by simp [hy]))]; rfl
    exact key _ fun x hx => (mergeTo_mem hx).1
  · obtain ⟨n, rfl⟩ := Int.eq_ofNat_of_zero_le hk
    have := accSum_mergeTo z n 7
    rw [if_neg (by omega)] at this
    exact this

/-- The accounts' sums, of the first n. -/
def accAll (z : List SItem) : Nat → Int
  | 0 => 0
  | n + 1 => accAll z n + accSum (n + 1) z
theorem sumAmt_mergeTo (z : List SItem) : ∀ n, sumAmt (mergeTo z n) = accAll z n
  | 0 => by simp [mergeTo, sumAmt, accAll]
  | n + 1 => by
    by_cases h0 : accSum (n + 1) z = 0
    · rw [mergeTo_no h0, sumAmt_mergeTo z n]; simp only [accAll, h0]; omega
    · rw [mergeTo_yes h0, sumAmt_snoc, sumAmt_mergeTo z n]; rfl
theorem accAll_cons (x : SItem) (z : List SItem) : ∀ n : Nat, accAll (x :: z) n = accAll z n + if 1 ≤ x.kind ∧ x.kind ≤ n then x.amt else 0
  | 0 => by simp only [accAll]; rw [if_neg (by omega)]; rfl
  | n + 1 => by
    simp only [accAll, accAll_cons x z n, accSum]
    by_cases hk : x.kind = (n : Int) + 1
    · rw [if_pos hk, if_neg (by omega), if_pos (by omega)]; omega
    · rw [if_neg hk]
      by_cases h : 1 ≤ x.kind ∧ x.kind ≤ n
      · rw [if_pos h, if_pos (by omega)]; omega
      · rw [if_neg h, if_neg (by omega)]; omega
def Kinds7 (z : List SItem) : Prop := ∀ x ∈ z, 1 ≤ x.kind ∧ x.kind ≤ 7
theorem accAll_sum : ∀ z : List SItem, Kinds7 z → accAll z 7 = sumAmt z
  | [], _ => by simp [accAll, accSum, sumAmt]
  | x :: z, h => by
    rw [accAll_cons, accAll_sum z (fun y hy => h y (by simp [hy])), if_pos (by have := h x (by simp); omega)]
    simp only [sumAmt, List.map_cons, List.sum_cons]; omega
theorem sumAmt_merge {z : List SItem} (h : Kinds7 z) : sumAmt (merge z) = sumAmt z := by
  unfold merge; rw [sumAmt_mergeTo, accAll_sum z h]
theorem kinds7_merge (z : List SItem) : Kinds7 (merge z) := fun x hx => by have := mergeTo_mem hx; omega
theorem kinds7_append {a b : List SItem} (h : Kinds7 a) (k : Kinds7 b) : Kinds7 (a ++ b) := fun x hx => by
  rcases List.mem_append.1 hx with hx | hx
  · exact h x hx
  · exact k x hx

theorem rising_snoc : ∀ (xs : List SItem) (a : Int) (y : SItem), risingB a xs = true → (∀ x ∈ xs, x.kind < y.kind) → a < y.kind → lineB y = true → risingB a (xs ++ [y]) = true
  | [], a, y, _, _, ha, hy => by simp [risingB, hy, ha]
  | x :: xs, a, y, h, hx, _, hy => by
    simp only [risingB, Bool.and_eq_true] at h
    simp only [List.cons_append, risingB, Bool.and_eq_true]
    exact ⟨h.1, rising_snoc xs _ y h.2 (fun z hz => hx z (by simp [hz])) (hx x (by simp)) hy⟩
/-- Amounts of the accounts are of Money. -/
def AccMoney (z : List SItem) : Prop := ∀ a, 1 ≤ a → a ≤ 7 → money (accSum a z) = true
theorem rising_mergeTo {z : List SItem} (h : AccMoney z) : ∀ n, n ≤ 7 → risingB 0 (mergeTo z n) = true
  | 0, _ => rfl
  | n + 1, hn => by
    by_cases h0 : accSum (n + 1) z = 0
    · rw [mergeTo_no h0]; exact rising_mergeTo h n (by omega)
    · rw [mergeTo_yes h0]
      refine rising_snoc _ _ _ (rising_mergeTo h n (by omega)) (fun x hx => ?_) (show (0 : Int) < (n : Int) + 1 by omega) ?_
      · have := mergeTo_mem hx; simp; omega
      · simp only [lineB, Bool.and_eq_true, decide_eq_true_eq]
        exact ⟨⟨by omega, by omega, h0⟩, h _ (by omega) (by omega)⟩
theorem lines_money {xs : List SItem} (h : risingB 0 xs = true) : ∀ x ∈ xs, money x.amt = true := fun x hx => by
  have := risingB_lines xs 0 h x hx
  simp only [lineB, Bool.and_eq_true] at this
  exact this.2
/-- Lines put together are right, if they come to nothing. -/
theorem check_merge {z : List SItem} (h : AccMoney z) (k : Kinds7 z) (s : sumAmt z = 0) : checkB (merge z) = true := by
  have hr := rising_mergeTo h 7 (Nat.le_refl _)
  have hs := sides_sum (merge z) (lines_money hr)
  rw [sumAmt_merge k, s] at hs
  have hl := mergeTo_len z 7
  simp only [checkB, Bool.and_eq_true, decide_eq_true_eq]
  exact ⟨⟨by unfold merge; omega, hr⟩, by omega⟩
theorem mergeTo_congr {y z : List SItem} : ∀ n, (∀ k : Nat, 1 ≤ k → k ≤ n → accSum k y = accSum k z) → mergeTo y n = mergeTo z n
  | 0, _ => rfl
  | n + 1, h => by
    have h1 := h (n + 1) (by omega) (Nat.le_refl _)
    have e : accSum ((n : Int) + 1) y = accSum ((n : Int) + 1) z := h1
    simp only [mergeTo, e, mergeTo_congr n (fun k a b => h k a (by omega))]
/-- Only the accounts' sums count. -/
theorem merge_congr {y z : List SItem} (h : ∀ k, 1 ≤ k → k ≤ 7 → accSum k y = accSum k z) : merge y = merge z := mergeTo_congr 7 fun k a b => h k (by omega) (by omega)
theorem merge_merge (z : List SItem) : merge (merge z) = merge z := merge_congr fun _ h1 h7 => accSum_merge h1 h7
theorem merge_comm (a b : List SItem) : merge (a ++ b) = merge (b ++ a) := merge_congr fun k _ _ => by rw [accSum_append, accSum_append]; omega
/-- Nothing on any account: no lines. -/
theorem merge_nil {z : List SItem} (h : ∀ k, 1 ≤ k → k ≤ 7 → accSum k z = 0) : merge z = [] := by
  rw [merge_congr (z := []) (fun k a b => by rw [h k a b]; rfl)]; rfl
theorem few_of {z : List SItem} (hl : z.length ≤ 40) (h : ∀ x ∈ z, money x.amt = true) : fewB z = true := by
  simp only [fewB, Bool.and_eq_true, decide_eq_true_eq, List.all_eq_true]; exact ⟨hl, h⟩

/-- Lines as play.Right makes them: merged, small, coming to nothing. -/
structure Fine (xs : List SItem) : Prop where
  merged : merge xs = xs
  kinds : Kinds7 xs
  len : xs.length ≤ 7
  small : ∀ x ∈ xs, -100000000 ≤ x.amt ∧ x.amt ≤ 100000000
  none : ∀ x ∈ xs, x.amt ≠ 0
  zero : sumAmt xs = 0
theorem Fine.money {xs : List SItem} (f : Fine xs) : ∀ x ∈ xs, Sl.money x.amt = true := fun x hx => by have := f.small x hx; simp [Sl.money]; omega
theorem Fine.few {xs : List SItem} (f : Fine xs) : fewB xs = true := few_of (by have := f.len; omega) f.money
theorem Fine.acc {xs : List SItem} (f : Fine xs) (a : Int) : -700000000 ≤ accSum a xs ∧ accSum a xs ≤ 700000000 := by
  have h1 := accSum_bd (b := 100000000) (by omega) a xs f.small
  have h2 := f.len
  omega
theorem Fine.accMoney {xs : List SItem} (f : Fine xs) : AccMoney xs := fun a _ _ => by have := f.acc a; simp [Sl.money]; omega
theorem Fine.check {xs : List SItem} (f : Fine xs) : checkB xs = true := by
  have := check_merge f.accMoney f.kinds f.zero
  rwa [f.merged] at this
theorem Fine.tame {xs : List SItem} (f : Fine xs) : Tame xs := Tame.of_few f.few
end Go.Sl
