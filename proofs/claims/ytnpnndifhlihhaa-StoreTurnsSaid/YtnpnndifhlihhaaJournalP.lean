/- Journals as plain Lean: what an account has, lines put together, turned round, right ones; their sides. No program is named here. -/
import Derived.Test.YtnpnndifhlihhaaKinds
namespace Go.Sl
open Go Go.RowKit

/-- What an account has in lines. -/
def accSum (a : Int) : List SItem → Int
  | [] => 0
  | x :: xs => (if x.kind = a then x.amt else 0) + accSum a xs
theorem accSum_append (a : Int) : ∀ xs ys, accSum a (xs ++ ys) = accSum a xs + accSum a ys
  | [], ys => by simp [accSum]
  | x :: xs, ys => by simp only [List.cons_append, accSum, accSum_append a xs ys]; omega
theorem accSum_snoc (a : Int) (xs : List SItem) (x : SItem) : accSum a (xs ++ [x]) = accSum a xs + if x.kind = a then x.amt else 0 := by
  rw [accSum_append]; simp [accSum]
theorem accSum_bd {b : Int} (hb : 0 ≤ b) (a : Int) : ∀ xs : List SItem, (∀ x ∈ xs, -b ≤ x.amt ∧ x.amt ≤ b) → -(xs.length * b) ≤ accSum a xs ∧ accSum a xs ≤ xs.length * b
  | [], _ => by simp [accSum]
  | x :: xs, h => by
    have h1 := accSum_bd hb a xs (fun y hy => h y (by simp [hy]))
    have h2 := h x (by simp)
    simp only [accSum, List.length_cons, Int.natCast_add, Int.add_mul, Int.natCast_one, Int.one_mul]
    split <;> omega
/-- Lines whose sums stay far from the bounds of an int. -/
structure Tame (xs : List SItem) : Prop where
  len : xs.length ≤ 100000
  amt : ∀ x ∈ xs, -1000000000000 ≤ x.amt ∧ x.amt ≤ 1000000000000
theorem Tame.take {xs : List SItem} (h : Tame xs) (n : Nat) : Tame (xs.take n) := ⟨by have := h.len; rw [List.length_take]; omega, fun x hx => h.amt x (List.mem_of_mem_take hx)⟩
theorem Tame.acc {xs : List SItem} (h : Tame xs) (a : Int) : -100000000000000000 ≤ accSum a xs ∧ accSum a xs ≤ 100000000000000000 := by
  have h1 := accSum_bd (b := 1000000000000) (by omega) a xs h.amt
  have h2 := h.len
  omega
theorem Tame.sum {xs : List SItem} (h : Tame xs) : -100000000000000000 ≤ sumAmt xs ∧ sumAmt xs ≤ 100000000000000000 := by
  have h1 := sumAmt_bd (b := 1000000000000) (by omega) xs h.amt
  have h2 := h.len
  omega
theorem Tame.append {xs ys : List SItem} (h : Tame xs) (k : Tame ys) (hl : xs.length + ys.length ≤ 100000) : Tame (xs ++ ys) :=
  ⟨by simpa using hl, fun x hx => by rcases List.mem_append.1 hx with hx | hx; exact h.amt x hx; exact k.amt x hx⟩

/-- One line an account, of the first n accounts. -/
def mergeTo (xs : List SItem) : Nat → List SItem
  | 0 => []
  | n + 1 => mergeTo xs n ++ if accSum (n + 1) xs = 0 then [] else [⟨n + 1, accSum (n + 1) xs⟩]
def merge (xs : List SItem) : List SItem := mergeTo xs 7
theorem mergeTo_len (xs : List SItem) : ∀ n, (mergeTo xs n).length ≤ n
  | 0 => by simp [mergeTo]
  | n + 1 => by
    have := mergeTo_len xs n
    simp only [mergeTo, List.length_append]
    split <;> simp <;> omega
theorem mergeTo_yes {xs : List SItem} {n : Nat} (h : accSum (n + 1) xs ≠ 0) : mergeTo xs (n + 1) = mergeTo xs n ++ [⟨n + 1, accSum (n + 1) xs⟩] := by
  simp only [mergeTo, if_neg h]
theorem mergeTo_no {xs : List SItem} {n : Nat} (h : accSum (n + 1) xs = 0) : mergeTo xs (n + 1) = mergeTo xs n := by
  simp only [mergeTo, if_pos h, List.append_nil]
theorem mergeTo_mem {xs : List SItem} : ∀ {n : Nat} {y : SItem}, y ∈ mergeTo xs n → 1 ≤ y.kind ∧ y.kind ≤ n ∧ y.amt = accSum y.kind xs ∧ y.amt ≠ 0
  | 0, y, h => by simp [mergeTo] at h
  | n + 1, y, h => by
    by_cases h0 : accSum (n + 1) xs = 0
    · rw [mergeTo_no h0] at h
      have := mergeTo_mem h
      omega
    · rw [mergeTo_yes h0] at h
      rcases List.mem_append.1 h with h | h
      · have := mergeTo_mem h
        omega
      · simp at h; subst h; exact ⟨by simp; omega, by simp, rfl, h0⟩
theorem Tame.merge {xs : List SItem} (hm : ∀ a, -1000000000000 ≤ accSum a xs ∧ accSum a xs ≤ 1000000000000) : Tame (merge xs) :=
  ⟨by have := mergeTo_len xs 7; unfold Sl.merge; omega, fun x hx => by have := mergeTo_mem hx; rw [this.2.2.1]; exact hm _⟩

/-- Amounts with the other sign. -/
def reverseL (xs : List SItem) : List SItem := xs.map fun x => ⟨x.kind, wrap64 (-x.amt)⟩
/-- Are there not too many lines, of Money? -/
def fewB (xs : List SItem) : Bool := decide (xs.length ≤ 40) && xs.all fun x => money x.amt
theorem Tame.of_few {xs : List SItem} (h : fewB xs = true) : Tame xs := by
  simp only [fewB, Bool.and_eq_true, decide_eq_true_eq, List.all_eq_true, money] at h
  exact ⟨by omega, fun x hx => by have := h.2 x hx; omega⟩
/-- What Merge answers. -/
def mergeF (xs : List SItem) : List SItem := if fewB xs = true then merge xs else []
def netF (xs : List SItem) (a : Int) : Int := if fewB xs = true then accSum a xs else 0
/-- May a line be? -/
def lineB (x : SItem) : Bool := decide (1 ≤ x.kind ∧ x.kind ≤ 7 ∧ x.amt ≠ 0) && money x.amt
/-- Lines behind an account: right, and rising. -/
def risingB : Int → List SItem → Bool
  | _, [] => true
  | a, x :: xs => lineB x && decide (a < x.kind) && risingB x.kind xs
/-- The debit of an amount, its credit (as sides.Of has them). -/
def deb (n : Int) : Nat := if money n = true then n.toNat else 0
def cre (n : Int) : Nat := if money n = true then (-n).toNat else 0
def debs (xs : List SItem) : Nat := (xs.map fun x => deb x.amt).sum
def cres (xs : List SItem) : Nat := (xs.map fun x => cre x.amt).sum
theorem deb_le (n : Int) : deb n ≤ 100000000000 := by unfold deb; split <;> rename_i h <;> simp [money] at * <;> omega
theorem cre_le (n : Int) : cre n ≤ 100000000000 := by unfold cre; split <;> rename_i h <;> simp [money] at * <;> omega
theorem debs_snoc (xs : List SItem) (x : SItem) : debs (xs ++ [x]) = debs xs + deb x.amt := by simp [debs]
theorem cres_snoc (xs : List SItem) (x : SItem) : cres (xs ++ [x]) = cres xs + cre x.amt := by simp [cres]
theorem debs_le : ∀ xs : List SItem, debs xs ≤ xs.length * 100000000000
  | [] => by simp [debs]
  | x :: xs => by
    have h1 := debs_le xs
    have h2 := deb_le x.amt
    simp only [debs, List.map_cons, List.sum_cons, List.length_cons] at h1 ⊢
    omega
theorem cres_le : ∀ xs : List SItem, cres xs ≤ xs.length * 100000000000
  | [] => by simp [cres]
  | x :: xs => by
    have h1 := cres_le xs
    have h2 := cre_le x.amt
    simp only [cres, List.map_cons, List.sum_cons, List.length_cons] at h1 ⊢
    omega
/-- Are lines right? -/
def checkB (xs : List SItem) : Bool := decide (xs.length ≤ 20) && risingB 0 xs && decide (debs xs = cres xs)
def checkE (xs : List SItem) : Int := if checkB xs = true then 0 else 2

/-- Of Money alone debit less credit is the sum. -/
theorem sides_sum : ∀ xs : List SItem, (∀ x ∈ xs, money x.amt = true) → (debs xs : Int) - (cres xs : Int) = sumAmt xs
  | [], _ => by simp [debs, cres, sumAmt]
  | x :: xs, h => by
    have h1 := sides_sum xs (fun y hy => h y (by simp [hy]))
    have h2 := h x (by simp)
    simp only [debs, cres, sumAmt, List.map_cons, List.sum_cons, deb, cre, h2, if_true] at h1 ⊢
    omega
theorem risingB_lines : ∀ (xs : List SItem) (a : Int), risingB a xs = true → ∀ x ∈ xs, lineB x = true
  | [], _, _, x, hx => by simp at hx
  | y :: xs, a, h, x, hx => by
    simp only [risingB, Bool.and_eq_true] at h
    rcases List.mem_cons.1 hx with rfl | hx
    · exact h.1.1
    · exact risingB_lines xs _ h.2 x hx

end Go.Sl
