/- Walks and plain facts that the laws of this seat share, part 2: contracts of functions, each said at its theorem. -/
import Derived.Test.YtbaklmlnfdlmmaaPk1
import Derived.Lib.BufferMore
import Derived.Shelf.Abstract
import Derived.WalkKit
import Derived.Laws.StructEq
import Derived.Deep.RegionHeld3
import Derived.WalkSpells
set_option linter.all false
section
/- Journals as plain Lean: what an account has, lines put together, turned round, right ones; their sides. No program is named here. -/
namespace Go.Sl
open Go Go.RowKit

/-- What an account has in lines. -/
def accSum (a : Int) : List SItem → Int
  | [] => 0
  | x :: xs => (if x.kind = a then x.amt else 0) + accSum a xs
theorem accSum_append (a : Int) : ∀ xs ys, accSum a (xs ++ ys) = accSum a xs + accSum a ys
  | [], ys => by simp [accSum]
  | x :: xs, ys => by simp only [List.cons_append, accSum, accSum_append a xs ys]; omega
theorem accSum_snoc (a : Int) (xs : List SItem) (x : SItem) : accSum a (xs ++ [x]) = accSum a xs + if x.kind = a then x.amt else 0 := by
  rw [accSum_append]; simp [accSum]
theorem accSum_bd {b : Int} (hb : 0 ≤ b) (a : Int) : ∀ xs : List SItem, (∀ x ∈ xs, -b ≤ x.amt ∧ x.amt ≤ b) → -(xs.length * b) ≤ accSum a xs ∧ accSum a xs ≤ xs.length * b
  | [], _ => by simp [accSum]
  | x :: xs, h => by
    have h1 := accSum_bd hb a xs (fun y hy => h y (by simp [hy]))
    have h2 := h x (by simp)
    simp only [accSum, List.length_cons, Int.natCast_add, Int.add_mul, Int.natCast_one, Int.one_mul]
    split <;> omega
/-- Lines whose sums stay far from the bounds of an int. -/
structure Tame (xs : List SItem) : Prop where
  len : xs.length ≤ 100000
  amt : ∀ x ∈ xs, -1000000000000 ≤ x.amt ∧ x.amt ≤ 1000000000000
theorem Tame.take {xs : List SItem} (h : Tame xs) (n : Nat) : Tame (xs.take n) := ⟨by have := h.len; rw [List.length_take]; omega, fun x hx => h.amt x (List.mem_of_mem_take hx)⟩
theorem Tame.acc {xs : List SItem} (h : Tame xs) (a : Int) : -100000000000000000 ≤ accSum a xs ∧ accSum a xs ≤ 100000000000000000 := by
  have h1 := accSum_bd (b := 1000000000000) (by omega) a xs h.amt
  have h2 := h.len
  omega
theorem Tame.sum {xs : List SItem} (h : Tame xs) : -100000000000000000 ≤ sumAmt xs ∧ sumAmt xs ≤ 100000000000000000 := by
  have h1 := sumAmt_bd (b := 1000000000000) (by omega) xs h.amt
  have h2 := h.len
  omega
theorem Tame.append {xs ys : List SItem} (h : Tame xs) (k : Tame ys) (hl : xs.length + ys.length ≤ 100000) : Tame (xs ++ ys) :=
  ⟨by simpa using hl, fun x hx => by rcases List.mem_append.1 hx with hx | hx; exact h.amt x hx; exact k.amt x hx⟩

/-- One line an account, of the first n accounts. -/
def mergeTo (xs : List SItem) : Nat → List SItem
  | 0 => []
  | n + 1 => mergeTo xs n ++ if accSum (n + 1) xs = 0 then [] else [⟨n + 1, accSum (n + 1) xs⟩]
def merge (xs : List SItem) : List SItem := mergeTo xs 7
theorem mergeTo_len (xs : List SItem) : ∀ n, (mergeTo xs n).length ≤ n
  | 0 => by simp [mergeTo]
  | n + 1 => by
    have := mergeTo_len xs n
    simp only [mergeTo, List.length_append]
    split <;> simp <;> omega
theorem mergeTo_yes {xs : List SItem} {n : Nat} (h : accSum (n + 1) xs ≠ 0) : mergeTo xs (n + 1) = mergeTo xs n ++ [⟨n + 1, accSum (n + 1) xs⟩] := by
  simp only [mergeTo, if_neg h]
theorem mergeTo_no {xs : List SItem} {n : Nat} (h : accSum (n + 1) xs = 0) : mergeTo xs (n + 1) = mergeTo xs n := by
  simp only [mergeTo, if_pos h, List.append_nil]
theorem mergeTo_mem {xs : List SItem} : ∀ {n : Nat} {y : SItem}, y ∈ mergeTo xs n → 1 ≤ y.kind ∧ y.kind ≤ n ∧ y.amt = accSum y.kind xs ∧ y.amt ≠ 0
  | 0, y, h => by simp [mergeTo] at h
  | n + 1, y, h => by
    by_cases h0 : accSum (n + 1) xs = 0
    · rw [mergeTo_no h0] at h
      have := mergeTo_mem h
      omega
    · rw [mergeTo_yes h0] at h
      rcases List.mem_append.1 h with h | h
      · have := mergeTo_mem h
        omega
      · simp at h; subst h; exact ⟨by simp; omega, by simp, rfl, h0⟩
theorem Tame.merge {xs : List SItem} (hm : ∀ a, -1000000000000 ≤ accSum a xs ∧ accSum a xs ≤ 1000000000000) : Tame (merge xs) :=
  ⟨by have := mergeTo_len xs 7; unfold Sl.merge; omega, fun x hx => by have := mergeTo_mem hx; rw [this.2.2.1]; exact hm _⟩

/-- Amounts with the other sign. -/
def reverseL (xs : List SItem) : List SItem := xs.map fun x => ⟨x.kind, wrap64 (-x.amt)⟩
/-- Are there not too many lines, of Money? -/
def fewB (xs : List SItem) : Bool := decide (xs.length ≤ 40) && xs.all fun x => money x.amt
theorem Tame.of_few {xs : List SItem} (h : fewB xs = true) : Tame xs := by
  simp only [fewB, Bool.and_eq_true, decide_eq_true_eq, List.all_eq_true, money] at h
  exact ⟨by omega, fun x hx => by have := h.2 x hx; omega⟩
/-- What Merge answers. -/
def mergeF (xs : List SItem) : List SItem := if fewB xs = true then merge xs else []
def netF (xs : List SItem) (a : Int) : Int := if fewB xs = true then accSum a xs else 0
/-- May a line be? -/
def lineB (x : SItem) : Bool := decide (1 ≤ x.kind ∧ x.kind ≤ 7 ∧ x.amt ≠ 0) && money x.amt
/-- Lines behind an account: right, and rising. -/
def risingB : Int → List SItem → Bool
  | _, [] => true
  | a, x :: xs => lineB x && decide (a < x.kind) && risingB x.kind xs
/-- The debit of an amount, its credit (as sides.Of has them). -/
def deb (n : Int) : Nat := if money n = true then n.toNat else 0
def cre (n : Int) : Nat := if money n = true then (-n).toNat else 0
def debs (xs : List SItem) : Nat := (xs.map fun x => deb x.amt).sum
def cres (xs : List SItem) : Nat := (xs.map fun x => cre x.amt).sum
theorem deb_le (n : Int) : deb n ≤ 100000000000 := by unfold deb; split <;> rename_i h <;> simp [money] at * <;> omega
theorem cre_le (n : Int) : cre n ≤ 100000000000 := by unfold cre; split <;> rename_i h <;> simp [money] at * <;> omega
theorem debs_snoc (xs : List SItem) (x : SItem) : debs (xs ++ [x]) = debs xs + deb x.amt := by simp [debs]
theorem cres_snoc (xs : List SItem) (x : SItem) : cres (xs ++ [x]) = cres xs + cre x.amt := by simp [cres]
theorem debs_le : ∀ xs : List SItem, debs xs ≤ xs.length * 100000000000
  | [] => by simp [debs]
  | x :: xs => by
    have h1 := debs_le xs
    have h2 := deb_le x.amt
    simp only [debs, List.map_cons, List.sum_cons, List.length_cons] at h1 ⊢
    omega
theorem cres_le : ∀ xs : List SItem, cres xs ≤ xs.length * 100000000000
  | [] => by simp [cres]
  | x :: xs => by
    have h1 := cres_le xs
    have h2 := cre_le x.amt
    simp only [cres, List.map_cons, List.sum_cons, List.length_cons] at h1 ⊢
    omega
/-- Are lines right? -/
def checkB (xs : List SItem) : Bool := decide (xs.length ≤ 20) && risingB 0 xs && decide (debs xs = cres xs)
def checkE (xs : List SItem) : Int := if checkB xs = true then 0 else 2

/-- Of Money alone debit less credit is the sum. -/
theorem sides_sum : ∀ xs : List SItem, (∀ x ∈ xs, money x.amt = true) → (debs xs : Int) - (cres xs : Int) = sumAmt xs
  | [], _ => by simp [debs, cres, sumAmt]
  | x :: xs, h => by
    have h1 := sides_sum xs (fun y hy => h y (by simp [hy]))
    have h2 := h x (by simp)
    simp only [debs, cres, sumAmt, List.map_cons, List.sum_cons, deb, cre, h2, if_true] at h1 ⊢
    omega
theorem risingB_lines : ∀ (xs : List SItem) (a : Int), risingB a xs = true → ∀ x ∈ xs, lineB x = true
  | [], _, _, x, hx => by simp at hx
  | y :: xs, a, h, x, hx => by
    simp only [risingB, Bool.and_eq_true] at h
    rcases List.mem_cons.1 hx with rfl | hx
    · exact h.1.1
    · exact risingB_lines xs _ h.2 x hx

end Go.Sl
end
section
/- Plain laws of journals: merged lines are right, each account keeps its sum, the order does not count. No program is named here. -/
namespace Go.Sl
open Go Go.RowKit

theorem accSum_mergeTo (z : List SItem) (k : Nat) : ∀ n, accSum k (mergeTo z n) = if 1 ≤ k ∧ k ≤ n then accSum k z else 0
  | 0 => by simp [mergeTo, accSum]; omega
  | n + 1 => by
    have ih := accSum_mergeTo z k n
    by_cases h0 : accSum (n + 1) z = 0
    · rw [mergeTo_no h0, ih]
      by_cases hk : k = n + 1
      · subst hk; rw [if_neg (by omega), if_pos (by omega)]; exact h0.symm
      · by_cases h : 1 ≤ k ∧ k ≤ n
        · rw [if_pos h, if_pos (by omega)]
        · rw [if_neg h, if_neg (by omega)]
    · rw [mergeTo_yes h0, accSum_snoc, ih]
      by_cases hk : k = n + 1
      · subst hk
        rw [if_neg (by omega), if_pos (by simp), if_pos (by omega), Int.zero_add]; rfl
      · rw [if_neg (show ¬ ((n : Int) + 1 = (k : Int)) by omega), Int.add_zero]
        by_cases h : 1 ≤ k ∧ k ≤ n
        · rw [if_pos h, if_pos (by omega)]
        · rw [if_neg h, if_neg (by omega)]
theorem accSum_merge {z : List SItem} {k : Int} (h1 : 1 ≤ k) (h7 : k ≤ 7) : accSum k (merge z) = accSum k z := by
  obtain ⟨n, rfl⟩ := Int.eq_ofNat_of_zero_le (show 0 ≤ k by omega)
  have := accSum_mergeTo z n 7
  rw [if_pos (by omega)] at this
  exact this
theorem accSum_merge_out {z : List SItem} {k : Int} (h : k < 1 ∨ 7 < k) : accSum k (merge z) = 0 := by
  rcases Int.lt_or_le k 0 with hk | hk
  · have key : ∀ xs : List SItem, (∀ x ∈ xs, 1 ≤ x.kind) → accSum k xs = 0 := by
      intro xs
      induction xs with
      | nil => intro _; rfl
      | cons x xs ih => intro hx; have := hx x (by simp); simp only [accSum, if_neg (show ¬ x.kind = k by omega), ih (fun y hy => hx y (by simp [hy]))]; rfl
    exact key _ fun x hx => (mergeTo_mem hx).1
  · obtain ⟨n, rfl⟩ := Int.eq_ofNat_of_zero_le hk
    have := accSum_mergeTo z n 7
    rw [if_neg (by omega)] at this
    exact this

/-- The accounts' sums, of the first n. -/
def accAll (z : List SItem) : Nat → Int
  | 0 => 0
  | n + 1 => accAll z n + accSum (n + 1) z
theorem sumAmt_mergeTo (z : List SItem) : ∀ n, sumAmt (mergeTo z n) = accAll z n
  | 0 => by simp [mergeTo, sumAmt, accAll]
  | n + 1 => by
    by_cases h0 : accSum (n + 1) z = 0
    · rw [mergeTo_no h0, sumAmt_mergeTo z n]; simp only [accAll, h0]; omega
    · rw [mergeTo_yes h0, sumAmt_snoc, sumAmt_mergeTo z n]; rfl
theorem accAll_cons (x : SItem) (z : List SItem) : ∀ n : Nat, accAll (x :: z) n = accAll z n + if 1 ≤ x.kind ∧ x.kind ≤ n then x.amt else 0
  | 0 => by simp only [accAll]; rw [if_neg (by omega)]; rfl
  | n + 1 => by
    simp only [accAll, accAll_cons x z n, accSum]
    by_cases hk : x.kind = (n : Int) + 1
    · rw [if_pos hk, if_neg (by omega), if_pos (by omega)]; omega
    · rw [if_neg hk]
      by_cases h : 1 ≤ x.kind ∧ x.kind ≤ n
      · rw [if_pos h, if_pos (by omega)]; omega
      · rw [if_neg h, if_neg (by omega)]; omega
def Kinds7 (z : List SItem) : Prop := ∀ x ∈ z, 1 ≤ x.kind ∧ x.kind ≤ 7
theorem accAll_sum : ∀ z : List SItem, Kinds7 z → accAll z 7 = sumAmt z
  | [], _ => by simp [accAll, accSum, sumAmt]
  | x :: z, h => by
    rw [accAll_cons, accAll_sum z (fun y hy => h y (by simp [hy])), if_pos (by have := h x (by simp); omega)]
    simp only [sumAmt, List.map_cons, List.sum_cons]; omega
theorem sumAmt_merge {z : List SItem} (h : Kinds7 z) : sumAmt (merge z) = sumAmt z := by
  unfold merge; rw [sumAmt_mergeTo, accAll_sum z h]
theorem kinds7_merge (z : List SItem) : Kinds7 (merge z) := fun x hx => by have := mergeTo_mem hx; omega
theorem kinds7_append {a b : List SItem} (h : Kinds7 a) (k : Kinds7 b) : Kinds7 (a ++ b) := fun x hx => by
  rcases List.mem_append.1 hx with hx | hx
  · exact h x hx
  · exact k x hx

theorem rising_snoc : ∀ (xs : List SItem) (a : Int) (y : SItem), risingB a xs = true → (∀ x ∈ xs, x.kind < y.kind) → a < y.kind → lineB y = true → risingB a (xs ++ [y]) = true
  | [], a, y, _, _, ha, hy => by simp [risingB, hy, ha]
  | x :: xs, a, y, h, hx, _, hy => by
    simp only [risingB, Bool.and_eq_true] at h
    simp only [List.cons_append, risingB, Bool.and_eq_true]
    exact ⟨h.1, rising_snoc xs _ y h.2 (fun z hz => hx z (by simp [hz])) (hx x (by simp)) hy⟩
/-- Amounts of the accounts are of Money. -/
def AccMoney (z : List SItem) : Prop := ∀ a, 1 ≤ a → a ≤ 7 → money (accSum a z) = true
theorem rising_mergeTo {z : List SItem} (h : AccMoney z) : ∀ n, n ≤ 7 → risingB 0 (mergeTo z n) = true
  | 0, _ => rfl
  | n + 1, hn => by
    by_cases h0 : accSum (n + 1) z = 0
    · rw [mergeTo_no h0]; exact rising_mergeTo h n (by omega)
    · rw [mergeTo_yes h0]
      refine rising_snoc _ _ _ (rising_mergeTo h n (by omega)) (fun x hx => ?_) (show (0 : Int) < (n : Int) + 1 by omega) ?_
      · have := mergeTo_mem hx; simp; omega
      · simp only [lineB, Bool.and_eq_true, decide_eq_true_eq]
        exact ⟨⟨by omega, by omega, h0⟩, h _ (by omega) (by omega)⟩
theorem lines_money {xs : List SItem} (h : risingB 0 xs = true) : ∀ x ∈ xs, money x.amt = true := fun x hx => by
  have := risingB_lines xs 0 h x hx
  simp only [lineB, Bool.and_eq_true] at this
  exact this.2
/-- Lines put together are right, if they come to nothing. -/
theorem check_merge {z : List SItem} (h : AccMoney z) (k : Kinds7 z) (s : sumAmt z = 0) : checkB (merge z) = true := by
  have hr := rising_mergeTo h 7 (Nat.le_refl _)
  have hs := sides_sum (merge z) (lines_money hr)
  rw [sumAmt_merge k, s] at hs
  have hl := mergeTo_len z 7
  simp only [checkB, Bool.and_eq_true, decide_eq_true_eq]
  exact ⟨⟨by unfold merge; omega, hr⟩, by omega⟩
theorem mergeTo_congr {y z : List SItem} : ∀ n, (∀ k : Nat, 1 ≤ k → k ≤ n → accSum k y = accSum k z) → mergeTo y n = mergeTo z n
  | 0, _ => rfl
  | n + 1, h => by
    have h1 := h (n + 1) (by omega) (Nat.le_refl _)
    have e : accSum ((n : Int) + 1) y = accSum ((n : Int) + 1) z := h1
    simp only [mergeTo, e, mergeTo_congr n (fun k a b => h k a (by omega))]
/-- Only the accounts' sums count. -/
theorem merge_congr {y z : List SItem} (h : ∀ k, 1 ≤ k → k ≤ 7 → accSum k y = accSum k z) : merge y = merge z := mergeTo_congr 7 fun k a b => h k (by omega) (by omega)
theorem merge_merge (z : List SItem) : merge (merge z) = merge z := merge_congr fun _ h1 h7 => accSum_merge h1 h7
theorem merge_comm (a b : List SItem) : merge (a ++ b) = merge (b ++ a) := merge_congr fun k _ _ => by rw [accSum_append, accSum_append]; omega
/-- Nothing on any account: no lines. -/
theorem merge_nil {z : List SItem} (h : ∀ k, 1 ≤ k → k ≤ 7 → accSum k z = 0) : merge z = [] := by
  rw [merge_congr (z := []) (fun k a b => by rw [h k a b]; rfl)]; rfl
theorem few_of {z : List SItem} (hl : z.length ≤ 40) (h : ∀ x ∈ z, money x.amt = true) : fewB z = true := by
  simp only [fewB, Bool.and_eq_true, decide_eq_true_eq, List.all_eq_true]; exact ⟨hl, h⟩

/-- Lines as play.Right makes them: merged, small, coming to nothing. -/
structure Fine (xs : List SItem) : Prop where
  merged : merge xs = xs
  kinds : Kinds7 xs
  len : xs.length ≤ 7
  small : ∀ x ∈ xs, -100000000 ≤ x.amt ∧ x.amt ≤ 100000000
  none : ∀ x ∈ xs, x.amt ≠ 0
  zero : sumAmt xs = 0
theorem Fine.money {xs : List SItem} (f : Fine xs) : ∀ x ∈ xs, Sl.money x.amt = true := fun x hx => by have := f.small x hx; simp [Sl.money]; omega
theorem Fine.few {xs : List SItem} (f : Fine xs) : fewB xs = true := few_of (by have := f.len; omega) f.money
theorem Fine.acc {xs : List SItem} (f : Fine xs) (a : Int) : -700000000 ≤ accSum a xs ∧ accSum a xs ≤ 700000000 := by
  have h1 := accSum_bd (b := 100000000) (by omega) a xs f.small
  have h2 := f.len
  omega
theorem Fine.accMoney {xs : List SItem} (f : Fine xs) : AccMoney xs := fun a _ _ => by have := f.acc a; simp [Sl.money]; omega
theorem Fine.check {xs : List SItem} (f : Fine xs) : checkB xs = true := by
  have := check_merge f.accMoney f.kinds f.zero
  rwa [f.merged] at this
theorem Fine.tame {xs : List SItem} (f : Fine xs) : Tame xs := Tame.of_few f.few
end Go.Sl
end
section
/- Journals and the store as plain Lean, and how they lie in memory. No program is named here. -/
namespace Go.Sl
open Go Go.RowKit
/-- A journal. -/
structure SJ where
  seq : Int
  ent : ByteArray
  period : Int
  kind : Int
  of : Int
  lines : List SItem
def SJ.cells (x : SJ) (A : Option Addr) (cap : Nat) : List Value := [.int .i64 x.seq, .string x.ent, .int .i64 x.period, .int .i64 x.kind, .int .i64 x.of, .slice A x.lines.length cap]
def kJ : Kd SJ where
  size := 6
  K h x cs := ∃ A cap, cs = x.cells A cap ∧ Ow kItem h A cap x.lines
  pos := by decide
  len := by rintro h x cs ⟨A, cap, rfl, _⟩; rfl
  one := by rintro h x cs ⟨A, cap, rfl, _⟩ u hu; simp [SJ.cells] at hu; rcases hu with rfl | rfl | rfl | rfl | rfl | rfl <;> rfl
  mono := by rintro h h' x cs ⟨A, cap, e, s⟩ l; exact ⟨A, cap, e, s.mono l⟩
/-- The cells of a journal in a slice of journals, and its lines. -/
theorem Sl.jou {h : Hp} {A : Option Addr} {cap : Nat} {xs : List SJ} {w : World} (s : Sl kJ h A cap xs) (hs : h.sub w) {i : Nat} {x : SJ} (hx : Hid (xs[i]? = some x)) :
    ∃ b off B cb, A = some ⟨b, off, .none⟩ ∧ Sl kItem h B cb x.lines ∧ w.cell? ⟨b, off + i * 6, .none⟩ = some (.int .i64 x.seq) ∧ w.cell? ⟨b, off + i * 6 + 1, .none⟩ = some (.string x.ent) ∧ w.cell? ⟨b, off + i * 6 + 2, .none⟩ = some (.int .i64 x.period) ∧
      w.cell? ⟨b, off + i * 6 + 3, .none⟩ = some (.int .i64 x.kind) ∧ w.cell? ⟨b, off + i * 6 + 4, .none⟩ = some (.int .i64 x.of) ∧ w.cell? ⟨b, off + i * 6 + 5, .none⟩ = some (.slice B x.lines.length cb) := by
  obtain ⟨b, off, cs, e, hK, _, hc⟩ := s.at hs hx.out
  obtain ⟨B, cb, rfl, sl⟩ := hK
  exact ⟨b, off, B, cb, e, sl.sl, by simpa [kJ] using hc 0 _ rfl, hc 1 _ rfl, hc 2 _ rfl, hc 3 _ rfl, hc 4 _ rfl, hc 5 _ rfl⟩
/-- The store's own struct. -/
def kSt : Kd (List SJ) where
  size := 1
  K h js cs := ∃ A cap, cs = [.slice A js.length cap] ∧ Ow kJ h A cap js
  pos := by decide
  len := by rintro h x cs ⟨A, cap, rfl, _⟩; rfl
  one := by rintro h x cs ⟨A, cap, rfl, _⟩ u hu; simp at hu; subst hu; rfl
  mono := by rintro h h' x cs ⟨A, cap, e, s⟩ l; exact ⟨A, cap, e, s.mono l⟩
end Go.Sl
end
section
/- What the type table says of api.Journal. -/
namespace Go.Proofs.Ytbaklmlnfdlmmaa
open Go.RowKit Go.Sl
set_option maxHeartbeats 1000000
set_option maxRecDepth 100000
theorem info_jou : Info Try.prog 37 (.agg #[.int .i64 0, .string ⟨#[]⟩, .int .i64 0, .int .i64 0, .int .i64 0, .slice none 0 0]) 6 72 := by unfold Info; kernel_rfl
end Go.Proofs.Ytbaklmlnfdlmmaa
end
section
/- What the type table says of api.Line. -/
namespace Go.Proofs.Ytbaklmlnfdlmmaa
open Go.RowKit Go.Sl
set_option maxHeartbeats 1000000
set_option maxRecDepth 100000
theorem info_line : Info Try.prog 43 (.agg #[.int .i64 0, .int .i64 0]) 2 16 := by unfold Info; kernel_rfl
end Go.Proofs.Ytbaklmlnfdlmmaa
end
section
/- slices.Clone over api.Line. -/
namespace Go.Proofs.Ytbaklmlnfdlmmaa
open Go.RowKit Go.Sl
set_option maxHeartbeats 1000000
set_option maxRecDepth 100000
theorem clone_line (A : Option Addr) (ca : Nat) (xs : List SItem) (h : Hp) (w : World) (hs : h.sub w) (sx : Sl kItem h A ca xs) (hl : xs.length ≤ 1000000) :
    Calls Try.prog 37 #[.slice A xs.length ca] w fun e w' => ∃ C cap h', e = .returned (.slice C xs.length cap) ∧ Ow kItem h' C cap xs ∧ Upd Hp.none h' w w' := by
  cases A with
  | none =>
    have h0 := sx.nil rfl
    have h1 := sx.le
    obtain rfl : xs = [] := List.eq_nil_of_length_eq_zero (by omega)
    subst h0
    have hn : ∀ W, (binOp .eql 34 (.slice none 0 0) (.slice none 0 0)).run Try.prog W = .ok (.bool true) W := fun W => Lib.run_eql_slice_nil_nil W _ _ Try.underlying34
    go_enter Try.func37, Try.ntmps37
    go_wp2
    go_ret
    exact ⟨none, 0, Hp.none, rfl, Ow.none _ _, Upd.of_below (Below.refl _ _)⟩
  | some ad =>
    have hn : ∀ W, (binOp .eql 34 (.slice (some ad) xs.length ca) (.slice none 0 0)).run Try.prog W = .ok (.bool false) W := fun W => Lib.run_eql_slice_some_nil W _ _ _ Try.underlying34
    go_enter Try.func37, Try.ntmps37
    go_wp2_with (at_builtin; refine wpList_clone Try.underlying34 info_line (by rfl) (by rfl) rfl xs.length ca (by rfl) (by rfl) rfl kItem_flat sx (hs.of_below (by repeat (first | exact Below.refl _ _ | apply Below.drew | refine Below.alloc ?_ (by simp) _))) (by omega) (by omega) ?_; intro C' cap' w1 h1 ho1 hu1)
    go_ret
    exact ⟨C', cap', h1, rfl, ho1, hu1.before (by repeat (first | exact Below.refl _ _ | apply Below.drew | refine Below.alloc ?_ (by simp) _))⟩
end Go.Proofs.Ytbaklmlnfdlmmaa
end
section
/- The walks of store.own and store.Journals. -/
namespace Go.Proofs.Ytbaklmlnfdlmmaa
open Go.RowKit Go.Sl
set_option maxHeartbeats 1000000
set_option maxRecDepth 100000
theorem own_calls (x : SJ) (B : Option Addr) (cb : Nat) (h : Hp) (w : World) (hs : h.sub w) (sx : Sl kItem h B cb x.lines) (hl : x.lines.length ≤ 1000000) :
    Calls Try.prog 24 #[.agg #[.int .i64 x.seq, .string x.ent, .int .i64 x.period, .int .i64 x.kind, .int .i64 x.of, .slice B x.lines.length cb]] w fun e w' => ∃ C cap h', e = .returned (.agg #[.int .i64 x.seq, .string x.ent, .int .i64 x.period, .int .i64 x.kind, .int .i64 x.of, .slice C x.lines.length cap]) ∧ Ow kItem h' C cap x.lines ∧ Upd Hp.none h' w w' := by
  go_enter Try.func24, Try.ntmps24
  go_wp2_with fail
  refine (clone_line B cb x.lines h _ (hs.of_below (by repeat (first | exact Below.refl _ _ | apply Below.drew | refine Below.alloc ?_ (by simp) _))) sx hl).mono ?_
  rintro e w1 ⟨C, cap, h1, rfl, o1, u1⟩
  have k1 : w1.heap[w.heap.size]? = some (.cells #[.int .i64 x.seq, .string x.ent, .int .i64 x.period, .int .i64 x.kind, .int .i64 x.of, .slice B x.lines.length cb] 37) := (u1.below.block _ (by simp; omega)).trans ((heap_old_at (by simp)).trans (heap_new_at rfl))
  have k2 : w1.heap[w.heap.size + 1]? = some (.cells #[.int .i64 0, .string ⟨#[]⟩, .int .i64 0, .int .i64 0, .int .i64 0, .slice none 0 0] 37) := (u1.below.block _ (by simp)).trans (heap_new_at (by simp))
  have n1 := Lib.hid (u1.new_none (b := w.heap.size) (by simp; omega))
  have n2 := Lib.hid (u1.new_none (b := w.heap.size + 1) (by simp))
  have c0 : w1.cell? ⟨w.heap.size, 0, none⟩ = some (.int .i64 x.seq) := by rw [cell_of_row w1 _ 0 _ _ _ k1]; rfl
  have c1 : w1.cell? ⟨w.heap.size, 1, none⟩ = some (.string x.ent) := by rw [cell_of_row w1 _ 1 _ _ _ k1]; rfl
  have c2 : w1.cell? ⟨w.heap.size, 2, none⟩ = some (.int .i64 x.period) := by rw [cell_of_row w1 _ 2 _ _ _ k1]; rfl
  have c3 : w1.cell? ⟨w.heap.size, 3, none⟩ = some (.int .i64 x.kind) := by rw [cell_of_row w1 _ 3 _ _ _ k1]; rfl
  have c4 : w1.cell? ⟨w.heap.size, 4, none⟩ = some (.int .i64 x.of) := by rw [cell_of_row w1 _ 4 _ _ _ k1]; rfl
  have c5 : w1.cell? ⟨w.heap.size, 5, none⟩ = some (.slice B x.lines.length cb) := by rw [cell_of_row w1 _ 5 _ _ _ k1]; rfl
  have cf : ∀ n, w1.frozen? ⟨w.heap.size, n, none⟩ = false := fun n => frozen_of_row w1 _ n _ _ k1
  have d0 : w1.cell? ⟨w.heap.size + 1, 0, none⟩ = some (.int .i64 0) := by rw [cell_of_row w1 _ 0 _ _ _ k2]; rfl
  have d1 : w1.cell? ⟨w.heap.size + 1, 1, none⟩ = some (.string ⟨#[]⟩) := by rw [cell_of_row w1 _ 1 _ _ _ k2]; rfl
  have d2 : w1.cell? ⟨w.heap.size + 1, 2, none⟩ = some (.int .i64 0) := by rw [cell_of_row w1 _ 2 _ _ _ k2]; rfl
  have d3 : w1.cell? ⟨w.heap.size + 1, 3, none⟩ = some (.int .i64 0) := by rw [cell_of_row w1 _ 3 _ _ _ k2]; rfl
  have d4 : w1.cell? ⟨w.heap.size + 1, 4, none⟩ = some (.int .i64 0) := by rw [cell_of_row w1 _ 4 _ _ _ k2]; rfl
  have d5 : w1.cell? ⟨w.heap.size + 1, 5, none⟩ = some (.slice none 0 0) := by rw [cell_of_row w1 _ 5 _ _ _ k2]; rfl
  have df : ∀ n, w1.frozen? ⟨w.heap.size + 1, n, none⟩ = false := fun n => frozen_of_row w1 _ n _ _ k2
  clear k1 k2
  have u : Upd Hp.none h1 w w1 := u1.before (by repeat (first | exact Below.refl _ _ | apply Below.drew | refine Below.alloc ?_ (by simp) _))
  clear u1
  go_wp2
  exact bodyPost_ret (v := .agg #[.int .i64 x.seq, .string x.ent, .int .i64 x.period, .int .i64 x.kind, .int .i64 x.of, .slice C x.lines.length cap]) (by simp [results, Try.results24, go_sem, d0, d1, d2, d3, d4, d5]) rfl ⟨C, cap, h1, rfl, o1, (((((((u.setNew (by simp) n1.out).setNew (by simp) n2.out).setNew (by simp) n2.out).setNew (by simp) n2.out).setNew (by simp) n2.out).setNew (by simp) n2.out).setNew (by simp) n2.out)⟩
theorem journals_calls (p : Nat) (A : Option Addr) (ca : Nat) (js : List SJ) (h : Hp) (w : World) (hs : h.sub w) (hc : w.cell? ⟨p, 0, none⟩ = some (.slice A js.length ca)) (sx : Sl kJ h A ca js) (hl : js.length ≤ 1000000) (hll : ∀ x ∈ js, x.lines.length ≤ 1000000) :
    Calls Try.prog 12 #[.pointer (some ⟨p, 0, none⟩)] w fun e w' => ∃ C cap h', e = .returned (.slice C js.length cap) ∧ Ow kJ h' C cap js ∧ Upd Hp.none h' w w' := by
  have m1 := sx.small
  go_enter Try.func12, Try.ntmps12
  go_wp2
  go_loopw [3, 11] (fun v i wr => ∃ (j cap : Nat) (C : Option Addr) (h' : Hp), j ≤ js.length ∧ i = .int .i64 j ∧ v = .slice C j cap ∧ Hid (Ow kJ h' C cap (js.take j)) ∧ Upd Hp.none h' w wr) (fun _ i _ => js.length - (intOf i).toNat)
  case atStart => exact ⟨0, 0, none, Hp.none, by omega, rfl, rfl, Ow.none _ _, Upd.of_below (Below.refl _ _)⟩
  case round =>
    obtain ⟨j, cap, C, h', hj, rfl, rfl, ho, hu⟩ := hrel
    have HL : Hid ((js.take j).length = j) := by unfold Hid; simp; omega
    by_cases hlt : j < js.length
    · obtain ⟨x, hx⟩ := some_of_lt hlt
      obtain ⟨b1, o1, B, cb, rfl, sl, c1, c2, c3, c4, c5, c6⟩ := sx.jou (hs.of_below hu.below) hx
      have i1 : (0 : Int) ≤ (j : Int) := by omega
      have i2 : (j : Int) < (js.length : Int) := by omega
      have hxl := hll x (List.mem_of_getElem? hx.out)
      have HT : Hid (js.take (j + 1) = js.take j ++ [x]) := Lib.hid (take_next hx)
      have OC := fun W (hW : Below wr.heap.size wr W) => own_calls x B cb h W ((hs.of_below hu.below).of_below hW) sl hxl
      go_wp2_with (first
        | (go_at_call 24; refine (OC _ (by repeat (first | exact Below.refl _ _ | apply Below.drew | refine Below.alloc ?_ (by simp) _))).mono ?_; rintro e w2 ⟨C2, cap2, h2, rfl, o2, u2⟩)
        | (at_builtin; refine wpList_app1 (hx := h2) Try.underlying26 info_jou (by rfl) (by rfl) rfl j 1 (by rfl) (by rfl) HL.out ho.out ((hu.sub.of_below ((u2.before (by repeat (first | exact Below.refl _ _ | apply Below.drew | refine Below.alloc ?_ (by simp) _))).below)).of_below (by repeat (first | exact Below.refl _ _ | apply Below.drew | refine Below.alloc ?_ (by simp) _))) (heap_new_at (by simp)) ⟨C2, cap2, rfl, o2⟩ (u2.sub.of_below (by repeat (first | exact Below.refl _ _ | apply Below.drew | refine Below.alloc ?_ (by simp) _))) (u2.apart (fun _ e => absurd rfl e) (hu.sub.of_below (by repeat (first | exact Below.refl _ _ | apply Below.drew | refine Below.alloc ?_ (by simp) _)))).symm (by omega) (by omega) ?_; intro C' cap' w3 h3 ho3 hu3))
      go_roundw
      case rel => exact ⟨j + 1, cap', C', h3, by omega, by go_num, rfl, by rw [HT.out]; exact ho3, hu.trans (Upd.eat ((u2.before (by repeat (first | exact Below.refl _ _ | apply Below.drew | refine Below.alloc ?_ (by simp) _))).after (by repeat (first | exact Below.refl _ _ | apply Below.drew | refine Below.alloc ?_ (by simp) _))) hu3)⟩
      case measure => simp [intOf]; omega
    · obtain rfl : j = js.length := by omega
      rw [List.take_length] at ho
      go_wp2
      go_ret
      exact ⟨C, cap, h', rfl, ho.out, hu⟩
end Go.Proofs.Ytbaklmlnfdlmmaa
end
section
/- Where a predicate first holds. No program is named here. -/
namespace Go.Sl
/-- Where a predicate first holds; -1: nowhere. -/
def idx {α : Type} (p : α → Bool) (xs : List α) : Int := if xs.any p then (xs.findIdx p : Nat) else -1
theorem idx_any {α : Type} (p : α → Bool) (xs : List α) : decide (0 ≤ idx p xs) = xs.any p := by
  unfold idx; split <;> rename_i h <;> simp [h]
theorem idx_hit {α : Type} {p : α → Bool} {xs : List α} {j : Nat} {x : α} (h : ∀ y ∈ xs.take j, p y = false) (hx : xs[j]? = some x) (hp : p x = true) : idx p xs = j := by
  have hj := (List.getElem?_eq_some_iff.1 hx)
  have ha : xs.any p = true := List.any_eq_true.2 ⟨x, List.mem_of_getElem? hx, hp⟩
  simp only [idx, ha, if_true]
  congr 1
  refine (List.findIdx_eq hj.1).2 ⟨by rw [hj.2]; exact hp, fun i hi => ?_⟩
  have hil : i < xs.length := by have := hj.1; omega
  have := h xs[i] (by rw [List.mem_take_iff_getElem]; exact ⟨i, by omega, rfl⟩)
  simpa using this
theorem idx_miss {α : Type} {p : α → Bool} {xs : List α} (h : ∀ y ∈ xs, p y = false) : idx p xs = -1 := by
  have : xs.any p = false := by rw [List.any_eq_false]; intro y hy; simp [h y hy]
  simp [idx, this]
end Go.Sl
end
section
/- slices.IndexFunc over api.Journal, whatever the predicate. -/
namespace Go.Proofs.Ytbaklmlnfdlmmaa
open Go.RowKit Go.Sl
set_option maxHeartbeats 1000000
set_option maxRecDepth 100000
theorem indexFunc_jou (g : FuncId) (lb : Array Value) (eg : Enters Try.prog g) (p : SJ → Bool) (A : Option Addr) (ca : Nat) (xs : List SJ) (h : Hp) (w : World) (hs : h.sub w) (sx : Sl kJ h A ca xs)
    (hp : ∀ (x : SJ) (B : Option Addr) (cb : Nat) (W : World), Below w.heap.size w W → Sl kItem h B cb x.lines → Calls Try.prog g (#[.agg #[.int .i64 x.seq, .string x.ent, .int .i64 x.period, .int .i64 x.kind, .int .i64 x.of, .slice B x.lines.length cb]] ++ lb) W fun e W' => e = .returned (.bool (p x)) ∧ Below W.heap.size W W') :
    Calls Try.prog 43 #[.slice A xs.length ca, .func (.func g) #[] lb] w fun e w' => e = .returned (.int .i64 (idx p xs)) ∧ Below w.heap.size w w' := by
  have m1 := sx.small
  have eg' := fun (args : Array Value) (w : World) => eg args w
  go_enter Try.func43, Try.ntmps43
  go_wp2
  go_loopw [8] (fun i wr => ∃ (j : Nat), j ≤ xs.length ∧ i = .int .i64 j ∧ Hid (∀ y ∈ xs.take j, p y = false) ∧ Below w.heap.size w wr) (fun i _ => xs.length - (intOf i).toNat)
  case atStart => exact ⟨0, by omega, rfl, by unfold Hid; simp, Below.refl _ _⟩
  case round =>
    obtain ⟨j, hj, rfl, hn, hb⟩ := hrel
    by_cases hlt : j < xs.length
    · obtain ⟨x, hx⟩ := some_of_lt hlt
      obtain ⟨b1, o1, B, cb, rfl, sl, c1, c2, c3, c4, c5, c6⟩ := sx.jou (hs.of_below hb) hx
      have i1 : (0 : Int) ≤ (j : Int) := by omega
      have i2 : (j : Int) < (xs.length : Int) := by omega
      have hpx := Lib.hid (hp x B cb wr hb sl)
      by_cases hpp : p x = true
      · have HF : Hid (idx p xs = j) := idx_hit hn.out hx.out hpp
        go_wp2_with fail
        refine hpx.out.mono ?_
        rintro e w1 ⟨rfl, b1⟩
        go_wp2
        go_ret
        exact ⟨by rw [HF.out]; rfl, hb.trans (b1.mono hb.size)⟩
      · have hpf : p x = false := by simpa using hpp
        have HN : Hid (∀ y ∈ xs.take (j + 1), p y = false) := by
          intro y hy
          rw [take_next hx] at hy
          rcases List.mem_append.1 hy with hy | hy
          · exact hn.out y hy
          · simp at hy; subst hy; exact hpf
        clear hpp
        go_wp2_with fail
        refine hpx.out.mono ?_
        rintro e w1 ⟨rfl, b1⟩
        go_wp2
        go_roundw
        case rel => exact ⟨j + 1, by omega, by go_num, HN, hb.trans (b1.mono hb.size)⟩
        case measure => simp [intOf]; omega
    · have HF : Hid (idx p xs = -1) := idx_miss (fun y hy => hn.out y (by rw [List.take_of_length_le (by omega)]; exact hy))
      go_wp2
      go_ret
      exact ⟨by rw [HF.out]; rfl, hb⟩
end Go.Proofs.Ytbaklmlnfdlmmaa
end
section
/- slices.ContainsFunc over api.Journal, whatever the predicate. -/
namespace Go.Proofs.Ytbaklmlnfdlmmaa
open Go.RowKit Go.Sl
set_option maxHeartbeats 1000000
set_option maxRecDepth 100000
theorem containsFunc_jou (g : FuncId) (lb : Array Value) (eg : Enters Try.prog g) (p : SJ → Bool) (A : Option Addr) (ca : Nat) (xs : List SJ) (h : Hp) (w : World) (hs : h.sub w) (sx : Sl kJ h A ca xs)
    (hp : ∀ (x : SJ) (B : Option Addr) (cb : Nat) (W : World), Below w.heap.size w W → Sl kItem h B cb x.lines → Calls Try.prog g (#[.agg #[.int .i64 x.seq, .string x.ent, .int .i64 x.period, .int .i64 x.kind, .int .i64 x.of, .slice B x.lines.length cb]] ++ lb) W fun e W' => e = .returned (.bool (p x)) ∧ Below W.heap.size W W') :
    Calls Try.prog 45 #[.slice A xs.length ca, .func (.func g) #[] lb] w fun e w' => e = .returned (.bool (xs.any p)) ∧ Below w.heap.size w w' := by
  have C := indexFunc_jou g lb eg p A ca xs h w hs sx hp
  have HI := Lib.hid (idx_any p xs)
  go_enter Try.func45, Try.ntmps45
  go_wp2_with fail
  refine C.mono ?_
  rintro e w1 ⟨rfl, b1⟩
  go_wp2
  go_ret
  exact ⟨by rw [← HI.out]; rfl, b1⟩
end Go.Proofs.Ytbaklmlnfdlmmaa
end
section
/- '==' and '!=' of structs as one Bool. No program is named here. -/
namespace Go.Sl
open Go Go.RowKit
section
variable {P : Program} {d : Nat} {xs ys : Array Value} {f : Field} {fs : List Field} {a b : Value} {r s : Bool} {w : World}

theorem eqFields_nil : (Op.eqFields d xs ys []).run P w = .ok true w := by simp [Op.eqFields]
theorem eqFields_cons (hn : (f.name == "_") = false) (ha : (Go.part f.type xs f.offset).run P w = .ok a w) (hb : (Go.part f.type ys f.offset).run P w = .ok b w)
    (he : (Op.equalIn d f.type a b).run P w = .ok r w) (hr : (Op.eqFields d xs ys fs).run P w = .ok s w) : (Op.eqFields d xs ys (f :: fs)).run P w = .ok (r && s) w := by
  have hn' : f.name ≠ "_" := by simpa using hn
  rw [Op.eqFields]
  simp only [if_pos hn', Sem.run_bind, ha, hb, he, Result.andThen_ok]
  cases r
  · simp
  · simpa using hr
theorem equalIn_struct {t : TypeId} {fs : Array Field} (hu : P.underlying t = some (.struct fs)) (hp : P.stoodInHeld t = false)
    (h : (Op.eqFields d xs ys fs.toList).run P w = .ok r w) : (Op.equalIn (d + 1) t (.agg xs) (.agg ys)).run P w = .ok r w := by
  have hf : P.fieldsOf t = fs := by simp [Program.fieldsOf, hu]
  rw [run_equalIn_struct (P := P) w d t xs ys (by rw [hf]; exact hu) hp, hf]
  exact h
theorem neq_struct {t : TypeId} (h : (Op.equalIn 10000 t (.agg xs) (.agg ys)).run P w = .ok r w) : (binOp .neq t (.agg xs) (.agg ys)).run P w = .ok (.bool (!r)) w := by
  rw [run_neq_struct, h]; rfl
theorem eql_struct {t : TypeId} (h : (Op.equalIn 10000 t (.agg xs) (.agg ys)).run P w = .ok r w) : (binOp .eql t (.agg xs) (.agg ys)).run P w = .ok (.bool r) w := by
  rw [run_eql_struct, h]; rfl
end
end Go.Sl
end
section
/- '==' and '!=' of api.Line. -/
namespace Go.Proofs.Ytbaklmlnfdlmmaa
open Go.RowKit Go.Sl
set_option maxHeartbeats 1000000
set_option maxRecDepth 100000
theorem equalIn_line (d : Nat) (x0 y0 : Int) (x1 y1 : Int) (w : World) : (Op.equalIn (d + 2) 43 (.agg #[.int .i64 x0, .int .i64 x1]) (.agg #[.int .i64 y0, .int .i64 y1])).run Try.prog w = .ok (x0 == y0 && (x1 == y1 && (true))) w := by
  refine equalIn_struct (d := d + 1) Try.underlying43 (by kernel_rfl) ?_
  refine eqFields_cons (by rfl) (by go_simp; rfl) (by go_simp; rfl) (by go_simp) ?_
  refine eqFields_cons (by rfl) (by go_simp; rfl) (by go_simp; rfl) (by go_simp) ?_
  exact eqFields_nil
theorem eqc_line (x y : SItem) : (x.kind == y.kind && (x.amt == y.amt && (true))) = decide (x = y) := by
  rw [Bool.eq_iff_iff]; cases x; cases y; simp
theorem ne_line (x y : SItem) (w : World) : (binOp .neq 43 (.agg #[.int .i64 x.kind, .int .i64 x.amt]) (.agg #[.int .i64 y.kind, .int .i64 y.amt])).run Try.prog w = .ok (.bool (neB x y)) w := by
  have h := equalIn_line 9998 x.kind y.kind x.amt y.amt w
  simp only [Nat.reduceAdd] at h
  rw [neq_struct h, eqc_line]; rfl
theorem eq_line (x y : SItem) (w : World) : (binOp .eql 43 (.agg #[.int .i64 x.kind, .int .i64 x.amt]) (.agg #[.int .i64 y.kind, .int .i64 y.amt])).run Try.prog w = .ok (.bool (eqB x y)) w := by
  have h := equalIn_line 9998 x.kind y.kind x.amt y.amt w
  simp only [Nat.reduceAdd] at h
  rw [eql_struct h, eqc_line]; rfl
end Go.Proofs.Ytbaklmlnfdlmmaa
end
section
/- slices.Equal over api.Line: the same things? -/
namespace Go.Proofs.Ytbaklmlnfdlmmaa
open Go.RowKit Go.Sl
set_option maxHeartbeats 1000000
set_option maxRecDepth 100000
theorem equal_line (A B : Option Addr) (ca cb : Nat) (xs ys : List SItem) (h k : Hp) (w : World) (hs : h.sub w) (ks : k.sub w) (sx : Sl kItem h A ca xs) (sy : Sl kItem k B cb ys) :
    Calls Try.prog 36 #[.slice A xs.length ca, .slice B ys.length cb] w fun e w' => e = .returned (.bool (eqB xs ys)) ∧ Below w.heap.size w w' := by
  have m1 := sx.small
  have m2 := sy.small
  by_cases hl : xs.length = ys.length
  · have hl1 : ((xs.length : Int) == (ys.length : Int)) = true := by simp [hl]
    have hl2 : ((xs.length : Int) != (ys.length : Int)) = false := by simp [hl]
    have hL := Lib.hid hl
    clear hl
    go_enter Try.func36, Try.ntmps36
    go_wp2
    clear hl1 hl2
    go_loopw [13] (fun i wr => ∃ j : Nat, j ≤ xs.length ∧ i = .int .i64 j ∧ Hid (xs.take j = ys.take j) ∧ Below w.heap.size w wr) (fun i _ => xs.length - (intOf i).toNat)
    case atStart => exact ⟨0, by omega, rfl, rfl, Below.refl _ _⟩
    case round =>
      obtain ⟨j, hj, rfl, he, hb⟩ := hrel
      by_cases hlt : j < xs.length
      · have hlt2 : j < ys.length := by have := hL.out; omega
        obtain ⟨x, hx⟩ := some_of_lt hlt
        obtain ⟨y, hy⟩ := some_of_lt hlt2
        obtain ⟨b1, o1, rfl, c1, c2⟩ := sx.item (hs.of_below hb) hx
        obtain ⟨b2, o2, rfl, d1, d2⟩ := sy.item (ks.of_below hb) hy
        have hn := ne_line x y
        have i1 : (0 : Int) ≤ (j : Int) := by omega
        have i2 : (j : Int) < (xs.length : Int) := by omega
        have i3 : (j : Int) < (ys.length : Int) := by omega
        have hE := take_both hx hy
        by_cases hxy : x = y
        · have hd := neB_f hxy
          have hE2 := hE.2 ⟨he, hxy⟩
          clear hxy hE
          go_wp2
          go_region_held3 (fun w' => w'.cell? ⟨b1, o1 + j * 2, none⟩ = some (.int .i64 x.kind) ∧ w'.cell? ⟨b1, o1 + j * 2 + 1, none⟩ = some (.int .i64 x.amt) ∧ w'.cell? ⟨b2, o2 + j * 2, none⟩ = some (.int .i64 y.kind) ∧ w'.cell? ⟨b2, o2 + j * 2 + 1, none⟩ = some (.int .i64 y.amt)) (go_keep) (fail)
          go_wp2
          go_roundw
          case rel => exact ⟨j + 1, by omega, by go_num, hE2, hb.drew⟩
          case measure => simp [intOf]; omega
        · have hd := neB_t hxy
          have hne : Hid (xs ≠ ys) := fun e => hxy (by have := hx.out; rw [e, hy.out] at this; exact (Option.some.inj this).symm)
          clear hxy hE
          go_wp2
          go_region_held3 (fun w' => w'.cell? ⟨b1, o1 + j * 2, none⟩ = some (.int .i64 x.kind) ∧ w'.cell? ⟨b1, o1 + j * 2 + 1, none⟩ = some (.int .i64 x.amt) ∧ w'.cell? ⟨b2, o2 + j * 2, none⟩ = some (.int .i64 y.kind) ∧ w'.cell? ⟨b2, o2 + j * 2 + 1, none⟩ = some (.int .i64 y.amt)) (go_keep) (fail)
          go_wp2
          go_ret
          exact ⟨by rw [eqB_f hne.out]; rfl, hb.drew⟩
      · have hfin : Hid (xs = ys) := by
          have h1 := he.out
          have hjl : j = xs.length := by omega
          rw [hjl, List.take_length] at h1
          rw [h1, hL.out, List.take_length]; rfl
        go_wp2
        go_ret
        exact ⟨by rw [eqB_t hfin.out]; rfl, hb⟩
  · have hl1 : ((xs.length : Int) == (ys.length : Int)) = false := by simp; omega
    have hl2 : ((xs.length : Int) != (ys.length : Int)) = true := by simp; omega
    have hne : Hid (xs ≠ ys) := fun e => hl (by rw [e])
    clear hl
    go_enter Try.func36, Try.ntmps36
    go_wp2
    go_ret
    exact ⟨by rw [eqB_f hne.out]; rfl, Below.refl _ _⟩
end Go.Proofs.Ytbaklmlnfdlmmaa
end
section
/- slices.IndexFunc over api.Line, whatever the predicate. -/
namespace Go.Proofs.Ytbaklmlnfdlmmaa
open Go.RowKit Go.Sl
set_option maxHeartbeats 1000000
set_option maxRecDepth 100000
theorem indexFunc_line (g : FuncId) (lb : Array Value) (eg : Enters Try.prog g) (p : SItem → Bool) (A : Option Addr) (ca : Nat) (xs : List SItem) (h : Hp) (w : World) (hs : h.sub w) (sx : Sl kItem h A ca xs)
    (hp : ∀ (x : SItem) (W : World), Below w.heap.size w W → Calls Try.prog g (#[.agg #[.int .i64 x.kind, .int .i64 x.amt]] ++ lb) W fun e W' => e = .returned (.bool (p x)) ∧ Below W.heap.size W W') :
    Calls Try.prog 55 #[.slice A xs.length ca, .func (.func g) #[] lb] w fun e w' => e = .returned (.int .i64 (idx p xs)) ∧ Below w.heap.size w w' := by
  have m1 := sx.small
  have eg' := fun (args : Array Value) (w : World) => eg args w
  go_enter Try.func55, Try.ntmps55
  go_wp2
  go_loopw [8] (fun i wr => ∃ (j : Nat), j ≤ xs.length ∧ i = .int .i64 j ∧ Hid (∀ y ∈ xs.take j, p y = false) ∧ Below w.heap.size w wr) (fun i _ => xs.length - (intOf i).toNat)
  case atStart => exact ⟨0, by omega, rfl, by unfold Hid; simp, Below.refl _ _⟩
  case round =>
    obtain ⟨j, hj, rfl, hn, hb⟩ := hrel
    by_cases hlt : j < xs.length
    · obtain ⟨x, hx⟩ := some_of_lt hlt
      obtain ⟨b1, o1, rfl, c1, c2⟩ := sx.item (hs.of_below hb) hx
      have i1 : (0 : Int) ≤ (j : Int) := by omega
      have i2 : (j : Int) < (xs.length : Int) := by omega
      have hpx := Lib.hid (hp x wr hb)
      by_cases hpp : p x = true
      · have HF : Hid (idx p xs = j) := idx_hit hn.out hx.out hpp
        go_wp2_with fail
        refine hpx.out.mono ?_
        rintro e w1 ⟨rfl, b1⟩
        go_wp2
        go_ret
        exact ⟨by rw [HF.out]; rfl, hb.trans (b1.mono hb.size)⟩
      · have hpf : p x = false := by simpa using hpp
        have HN : Hid (∀ y ∈ xs.take (j + 1), p y = false) := by
          intro y hy
          rw [take_next hx] at hy
          rcases List.mem_append.1 hy with hy | hy
          · exact hn.out y hy
          · simp at hy; subst hy; exact hpf
        clear hpp
        go_wp2_with fail
        refine hpx.out.mono ?_
        rintro e w1 ⟨rfl, b1⟩
        go_wp2
        go_roundw
        case rel => exact ⟨j + 1, by omega, by go_num, HN, hb.trans (b1.mono hb.size)⟩
        case measure => simp [intOf]; omega
    · have HF : Hid (idx p xs = -1) := idx_miss (fun y hy => hn.out y (by rw [List.take_of_length_le (by omega)]; exact hy))
      go_wp2
      go_ret
      exact ⟨by rw [HF.out]; rfl, hb⟩
end Go.Proofs.Ytbaklmlnfdlmmaa
end
section
/- slices.ContainsFunc over api.Line, whatever the predicate. -/
namespace Go.Proofs.Ytbaklmlnfdlmmaa
open Go.RowKit Go.Sl
set_option maxHeartbeats 1000000
set_option maxRecDepth 100000
theorem containsFunc_line (g : FuncId) (lb : Array Value) (eg : Enters Try.prog g) (p : SItem → Bool) (A : Option Addr) (ca : Nat) (xs : List SItem) (h : Hp) (w : World) (hs : h.sub w) (sx : Sl kItem h A ca xs)
    (hp : ∀ (x : SItem) (W : World), Below w.heap.size w W → Calls Try.prog g (#[.agg #[.int .i64 x.kind, .int .i64 x.amt]] ++ lb) W fun e W' => e = .returned (.bool (p x)) ∧ Below W.heap.size W W') :
    Calls Try.prog 50 #[.slice A xs.length ca, .func (.func g) #[] lb] w fun e w' => e = .returned (.bool (xs.any p)) ∧ Below w.heap.size w w' := by
  have C := indexFunc_line g lb eg p A ca xs h w hs sx hp
  have HI := Lib.hid (idx_any p xs)
  go_enter Try.func50, Try.ntmps50
  go_wp2_with fail
  refine C.mono ?_
  rintro e w1 ⟨rfl, b1⟩
  go_wp2
  go_ret
  exact ⟨by rw [← HI.out]; rfl, b1⟩
end Go.Proofs.Ytbaklmlnfdlmmaa
end
section
/- journal.few. -/
namespace Go.Proofs.Ytbaklmlnfdlmmaa
open Go.RowKit Go.Sl
set_option maxHeartbeats 400000
set_option maxRecDepth 100000
/-- journal.few's own predicate. -/
theorem few1_calls (x : SItem) (W : World) : Calls Try.prog 51 #[.agg #[.int .i64 x.kind, .int .i64 x.amt]] W fun e W' => e = .returned (.bool (!money x.amt)) ∧ Below W.heap.size W W' := by
  go_enter Try.func51, Try.ntmps51
  go_wp2_with (go_at_call 23; refine (money_calls _ _).mono ?_; rintro e w' ⟨rfl, rfl⟩)
  go_ret
  exact ⟨by simp, (Below.refl _ _).alloc (Nat.le_refl _) _⟩
theorem few_calls (A : Option Addr) (ca : Nat) (xs : List SItem) (h : Hp) (w : World) (hs : h.sub w) (sx : Sl kItem h A ca xs) :
    Calls Try.prog 41 #[.slice A xs.length ca] w fun e w' => e = .returned (.bool (fewB xs)) ∧ Below w.heap.size w w' := by
  have m1 := sx.small
  by_cases hl : xs.length ≤ 40
  · have i1 : decide ((xs.length : Int) ≤ 40) = true := by simp; omega
    have HB : Hid (fewB xs = !(xs.any fun x => !money x.amt)) := by
      unfold Hid fewB; rw [decide_eq_true hl, Bool.true_and]; simp [List.not_any_eq_all_not]
    have C := containsFunc_line 51 #[] (enters_of Try.func51 (by kernel_rfl) rfl) (fun x => !money x.amt) A ca xs h w hs sx (fun x W _ => few1_calls x W)
    clear hl
    generalize (xs.any fun x => !money x.amt) = b at *
    go_enter Try.func41, Try.ntmps41
    go_wp2_with fail
    refine C.mono ?_
    rintro e w1 ⟨rfl, b1⟩
    go_wp2
    go_ret
    exact ⟨by rw [HB.out]; rfl, b1⟩
  · have i1 : decide ((xs.length : Int) ≤ 40) = false := by simp; omega
    have HB : Hid (fewB xs = false) := by unfold Hid fewB; rw [decide_eq_false hl, Bool.false_and]
    clear hl
    go_enter Try.func41, Try.ntmps41
    go_wp2_with fail
    go_ret
    exact ⟨by rw [HB.out]; rfl, Below.refl _ _⟩
end Go.Proofs.Ytbaklmlnfdlmmaa
end
section
/- The walks of chart: names, is, Name, Accounts. -/
namespace Go.Proofs.Ytbaklmlnfdlmmaa
open Go.RowKit Go.Sl
set_option maxHeartbeats 400000
set_option maxRecDepth 100000
def isB (a : Int) : Bool := decide (1 ≤ a ∧ a ≤ 7)
theorem is_calls (a : Int) (w : World) : Calls Try.prog 40 #[.int .i64 a] w fun e w' => e = .returned (.bool (isB a)) ∧ w = w' := by
  go_enter Try.func40, Try.ntmps40
  go_wp2
  all_goals
    go_ret
    exact ⟨by simp [isB]; omega, rfl⟩
/-- The block of names. -/
def nameCells : Array Value := #[.string ⟨#[]⟩, .string ⟨#[99, 117, 114, 114, 101, 110, 116]⟩, .string ⟨#[112, 97, 121, 97, 98, 108, 101]⟩, .string ⟨#[100, 101, 102, 101, 114, 114, 101, 100]⟩, .string ⟨#[116, 101, 109, 112]⟩, .string ⟨#[108, 111, 115, 115, 101, 115]⟩, .string ⟨#[97, 108, 108, 111, 119, 97, 110, 99, 101]⟩, .string ⟨#[116, 114, 117, 101, 117, 112]⟩]
theorem names_calls (w : World) : Calls Try.prog 39 #[] w fun e w' => e = .returned (.slice (some ⟨w.heap.size, 0, none⟩) 8 8) ∧ w' = w.alloc (.cells nameCells 9) := by
  go_enter Try.func39, Try.ntmps39
  go_wp2
  go_ret
  exact ⟨rfl, rfl⟩
theorem name_no (a : Int) (w : World) (h : isB a = false) : Calls Try.prog 52 #[.int .i64 a] w fun e w' => e = .returned (.string ⟨#[]⟩) ∧ w = w' := by
  go_enter Try.func52, Try.ntmps52
  go_wp2_with (go_at_call 40; refine (is_calls _ _).mono ?_; rintro e w' ⟨rfl, rfl⟩)
  go_ret
  exact ⟨rfl, rfl⟩
def SomeName (w : World) (e : Ending) (w' : World) : Prop := ∃ c l, e = .returned (.string ⟨(c :: l : List UInt8).toArray⟩) ∧ Below w.heap.size w w'
theorem name_yes (a : Int) (w : World) (h : isB a = true) : Calls Try.prog 52 #[.int .i64 a] w (SomeName w) := by
  have ha : 1 ≤ a ∧ a ≤ 7 := by simpa [isB] using h
  have hc : a = 1 ∨ a = 2 ∨ a = 3 ∨ a = 4 ∨ a = 5 ∨ a = 6 ∨ a = 7 := by omega
  clear ha
  rcases hc with rfl | rfl | rfl | rfl | rfl | rfl | rfl
  all_goals
    go_enter Try.func52, Try.ntmps52
    go_wp2_with (first
      | (go_at_call 40; refine (is_calls _ _).mono ?_; rintro e w' ⟨rfl, rfl⟩)
      | (go_at_call 39; refine (names_calls _).mono ?_; rintro e w' ⟨rfl, rfl⟩; unfold nameCells))
    go_ret
    exact ⟨_, _, rfl, (Below.refl _ _).alloc (Nat.le_refl _) _⟩
theorem Try.infoInt : (Try.prog.info? 3).map (fun i => (i.zero, i.size, i.bytes)) = some (some (.int .i64 0), 1, 8) := by kernel_rfl
def accts (j : Nat) : List Int := (List.range (j - 1)).map fun (i : Nat) => (i : Int) + 1
theorem accts_len (j : Nat) : (accts j).length = j - 1 := by simp [accts]
theorem accts_next {j : Nat} (h : 1 ≤ j) : accts (j + 1) = accts j ++ [(j : Int)] := by
  unfold accts
  rw [show j + 1 - 1 = (j - 1) + 1 by omega, List.range_succ, List.map_append, List.map_singleton]
  congr 2; omega
theorem accounts_calls (w : World) : Calls Try.prog 31 #[] w fun e w' => ∃ C cap h', e = .returned (.slice C 7 cap) ∧ Ow kInt h' C cap [1, 2, 3, 4, 5, 6, 7] ∧ Upd Hp.none h' w w' := by
  obtain ⟨i0, hi, hz0, hz1, hz2⟩ := info_parts Try.infoInt
  go_enter Try.func31, Try.ntmps31
  go_wp2_with (go_at_call 39; refine (names_calls _).mono ?_; rintro e w' ⟨rfl, rfl⟩)
  go_loopw [1, 5] (fun v i wr => ∃ (j cap : Nat) (C : Option Addr) (h' : Hp), j ≤ 8 ∧ i = .int .i64 j ∧ v = .slice C (j - 1) cap ∧ Hid (Ow kInt h' C cap (accts j)) ∧ Upd Hp.none h' w wr) (fun _ i _ => 8 - (intOf i).toNat)
  case atStart => exact ⟨0, 0, none, Hp.none, by omega, rfl, rfl, Ow.none _ _, Upd.of_below ((Below.refl _ _).alloc (Nat.le_refl _) _)⟩
  case round =>
    obtain ⟨j, cap, C, h', hj, rfl, rfl, ho, hu⟩ := hrel
    by_cases hlt : j < 8
    · have i1 : (0 : Int) ≤ (j : Int) := by omega
      have i2 : (j : Int) < 8 := by omega
      by_cases h0 : j = 0
      · subst h0
        have hb : isB ((0 : Nat) : Int) = false := by decide
        go_wp2_with (go_at_call 40; refine (is_calls _ _).mono ?_; rintro e w' ⟨rfl, rfl⟩)
        go_roundw
        case rel => exact ⟨1, cap, C, h', by omega, rfl, rfl, ho, hu⟩
        case measure => simp [intOf]
      · have HL := Lib.hid (accts_len j)
        have HT := Lib.hid (accts_next (j := j) (by omega))
        have hj1 : 1 ≤ j := by omega
        obtain ⟨m, rfl⟩ : ∃ m, j = m + 1 := ⟨j - 1, by omega⟩
        clear h0
        simp only [Nat.add_sub_cancel] at HL
        have hb : isB ((m : Int) + 1) = true := by simp [isB]; omega
        go_wp2_with (first
          | (go_at_call 40; refine (is_calls _ _).mono ?_; rintro e w' ⟨rfl, rfl⟩)
          | (at_builtin; refine wpList_append (k := kInt) (h := h') (hx := Hp.none) (A := C) (cap := cap) (B := some ⟨wr.heap.size, 0, none⟩) (xs := accts (m + 1)) (ys := [(m : Int) + 1]) (by rfl) (.tmp 10) (.tmp 12) 29 (by rfl) 3 i0 (.int .i64 0) Try.underlying29 hi hz0 hz1 (by rfl) 8 hz2 m 1 1 HL.out rfl (by rfl) (by rfl) ho.out (hu.sub.of_below (by repeat (first | exact Below.refl _ _ | apply Below.drew | refine Below.alloc ?_ (by simp) _))) (Src.new (heap_new_at (by simp)) rfl) (Hp.none_sub _) (Hp.apart_none _) (by unfold maxLen; omega) (by omega) ?_; intro C' cap' w1 h1 ho1 hu1))
        go_roundw
        case rel => exact ⟨m + 2, cap', C', h1, by omega, by go_num, rfl, by rw [HT.out]; exact (by simpa using ho1 : Ow kInt h1 C' cap' (accts (m + 1) ++ [((m + 1 : Nat) : Int)])), hu.trans (hu1.flat.before (by repeat (first | exact Below.refl _ _ | apply Below.drew | refine Below.alloc ?_ (by simp) _)))⟩
        case measure => simp [intOf]; omega
    · obtain rfl : j = 8 := by omega
      go_wp2
      go_ret
      exact ⟨C, cap, h', rfl, ho.out, hu⟩
end Go.Proofs.Ytbaklmlnfdlmmaa
end
