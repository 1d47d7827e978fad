/- The program's structs as plain Lean, and how each lies in memory. No program is named here. -/
import Derived.Test.YtnpnndifhlihhaaSlice
import Derived.Test.YtnpnndifhlihhaaPlain
namespace Go.Sl
open Go Go.RowKit

def kInt : Kd Int := Kd.flat 1 (fun x => [.int .i64 x]) (by decide) (fun _ => rfl) (fun x u h => by simp at h; subst h; rfl)
theorem kInt_flat : kInt.Flat := Kd.flat_flat

/-- An item; a line is of the same make. -/
structure SItem where
  kind : Int
  amt : Int
instance : DecidableEq SItem := fun a b => decidable_of_iff (a.kind = b.kind ∧ a.amt = b.amt) (by cases a; cases b; simp)
instance : Inhabited SItem := ⟨⟨0, 0⟩⟩
def SItem.cells (x : SItem) : List Value := [.int .i64 x.kind, .int .i64 x.amt]
def kItem : Kd SItem := Kd.flat 2 SItem.cells (by decide) (fun _ => rfl) (fun x u h => by simp [SItem.cells] at h; rcases h with rfl | rfl <;> rfl)
theorem kItem_flat : kItem.Flat := Kd.flat_flat

/-- A bucket; a vintage is of the same make. -/
structure STri where
  a : Int
  b : Int
  c : Int
instance : DecidableEq STri := fun x y => decidable_of_iff (x.a = y.a ∧ x.b = y.b ∧ x.c = y.c) (by cases x; cases y; simp)
instance : Inhabited STri := ⟨⟨0, 0, 0⟩⟩
def STri.cells (x : STri) : List Value := [.int .i64 x.a, .int .i64 x.b, .int .i64 x.c]
def kTri : Kd STri := Kd.flat 3 STri.cells (by decide) (fun _ => rfl) (fun x u h => by simp [STri.cells] at h; rcases h with rfl | rfl | rfl <;> rfl)
theorem kTri_flat : kTri.Flat := Kd.flat_flat

theorem get_of_lt {α : Type} {xs : List α} {i : Nat} (h : i < xs.length) : xs[i]? = some xs[i] := by simp [h]

theorem some_of_lt {α : Type} {xs : List α} {i : Nat} (h : i < xs.length) : ∃ x, Hid (xs[i]? = some x) := ⟨_, get_of_lt h⟩
theorem take_next {α : Type} {xs : List α} {i : Nat} {x : α} (h : Hid (xs[i]? = some x)) : xs.take (i + 1) = xs.take i ++ [x] := by
  have h2 := (List.getElem?_eq_some_iff.1 h.out)
  rw [List.take_succ_eq_append_getElem h2.1, h2.2]

/-- The cell of a whole number in a slice of whole numbers. -/
theorem Sl.int {h : Hp} {A : Option Addr} {cap : Nat} {xs : List Int} {w : World} (s : Sl kInt h A cap xs) (hs : h.sub w) {i : Nat} {x : Int} (hx : Hid (xs[i]? = some x)) :
    ∃ b off, A = some ⟨b, off, .none⟩ ∧ w.cell? ⟨b, off + i, .none⟩ = some (.int .i64 x) := by
  obtain ⟨b, off, cs, e, hK, _, hc⟩ := s.at hs hx.out
  have hK' : cs = [.int .i64 x] := hK
  subst hK'
  exact ⟨b, off, e, by simpa [kInt, Kd.flat] using hc 0 _ rfl⟩
theorem Sl.item {h : Hp} {A : Option Addr} {cap : Nat} {xs : List SItem} {w : World} (s : Sl kItem h A cap xs) (hs : h.sub w) {i : Nat} {x : SItem} (hx : Hid (xs[i]? = some x)) :
    ∃ b off, A = some ⟨b, off, .none⟩ ∧ w.cell? ⟨b, off + i * 2, .none⟩ = some (.int .i64 x.kind) ∧ w.cell? ⟨b, off + i * 2 + 1, .none⟩ = some (.int .i64 x.amt) := by
  obtain ⟨b, off, cs, e, hK, _, hc⟩ := s.at hs hx.out
  have hK' : cs = SItem.cells x := hK
  subst hK'
  exact ⟨b, off, e, by simpa [kItem, Kd.flat] using hc 0 _ rfl, hc 1 _ rfl⟩
theorem Sl.tri {h : Hp} {A : Option Addr} {cap : Nat} {xs : List STri} {w : World} (s : Sl kTri h A cap xs) (hs : h.sub w) {i : Nat} {x : STri} (hx : Hid (xs[i]? = some x)) :
    ∃ b off, A = some ⟨b, off, .none⟩ ∧ w.cell? ⟨b, off + i * 3, .none⟩ = some (.int .i64 x.a) ∧ w.cell? ⟨b, off + i * 3 + 1, .none⟩ = some (.int .i64 x.b) ∧ w.cell? ⟨b, off + i * 3 + 2, .none⟩ = some (.int .i64 x.c) := by
  obtain ⟨b, off, cs, e, hK, _, hc⟩ := s.at hs hx.out
  have hK' : cs = STri.cells x := hK
  subst hK'
  exact ⟨b, off, e, by simpa [kTri, Kd.flat] using hc 0 _ rfl, hc 1 _ rfl, hc 2 _ rfl⟩

theorem map_set_step {α : Type} (f : α → α) : ∀ (xs : List α) (j : Nat) (x : α), xs[j]? = some x → ((xs.take j).map f ++ xs.drop j).set j (f x) = (xs.take (j + 1)).map f ++ xs.drop (j + 1)
  | [], j, x, h => by simp at h
  | y :: ys, 0, x, h => by simp at h; subst h; simp
  | y :: ys, j + 1, x, h => by
    have := map_set_step f ys j x (by simpa using h)
    simp only [List.take_succ_cons, List.map_cons, List.drop_succ_cons, List.cons_append, List.set_cons_succ, this]
theorem map_get_step {α : Type} (f : α → α) : ∀ (xs : List α) (j : Nat), ((xs.take j).map f ++ xs.drop j)[j]? = xs[j]?
  | [], j => by simp
  | y :: ys, 0 => by simp
  | y :: ys, j + 1 => by simpa using map_get_step f ys j

/-- '!=' as a Bool that no tactic looks into. -/
def neB {α : Type} [DecidableEq α] (x y : α) : Bool := !decide (x = y)
theorem neB_t {α : Type} [DecidableEq α] {x y : α} (h : x ≠ y) : neB x y = true := by simp [neB, h]
theorem neB_f {α : Type} [DecidableEq α] {x y : α} (h : x = y) : neB x y = false := by simp [neB, h]
/-- '==' as a Bool that no tactic looks into. -/
def eqB {α : Type} [DecidableEq α] (x y : α) : Bool := decide (x = y)
theorem eqB_t {α : Type} [DecidableEq α] {x y : α} (h : x = y) : eqB x y = true := by simp [eqB, h]
theorem eqB_f {α : Type} [DecidableEq α] {x y : α} (h : x ≠ y) : eqB x y = false := by simp [eqB, h]
theorem take_both {α : Type} {xs ys : List α} {j : Nat} {x y : α} (h1 : Hid (xs[j]? = some x)) (h2 : Hid (ys[j]? = some y)) :
    Hid (xs.take (j + 1) = ys.take (j + 1)) ↔ (Hid (xs.take j = ys.take j) ∧ x = y) := by
  have l1 := (List.getElem?_eq_some_iff.1 h1.out).1
  have l2 := (List.getElem?_eq_some_iff.1 h2.out).1
  unfold Hid
  rw [take_next h1, take_next h2]
  constructor
  · intro e
    have := List.append_inj e (by simp; omega)
    exact ⟨this.1, by simpa using this.2⟩
  · rintro ⟨e1, e2⟩; rw [e1, e2]

theorem Sl.litItem {h : Hp} {b n : Nat} {t : TypeId} {fr : Nat × Nat} {xs : List SItem} (hb : h b = some (.cells (xs.flatMap SItem.cells).toArray t fr)) (hn : xs.length = n) (hm : n ≤ maxLen) : Sl kItem h (some ⟨b, 0, .none⟩) n xs := by
  subst hn; exact Sl.lit hb hm
theorem Sl.litTri {h : Hp} {b n : Nat} {t : TypeId} {fr : Nat × Nat} {xs : List STri} (hb : h b = some (.cells (xs.flatMap STri.cells).toArray t fr)) (hn : xs.length = n) (hm : n ≤ maxLen) : Sl kTri h (some ⟨b, 0, .none⟩) n xs := by
  subst hn; exact Sl.lit hb hm
theorem Sl.litInt {h : Hp} {b n : Nat} {t : TypeId} {fr : Nat × Nat} {xs : List Int} (hb : h b = some (.cells (xs.flatMap fun x => [Value.int .i64 x]).toArray t fr)) (hn : xs.length = n) (hm : n ≤ maxLen) : Sl kInt h (some ⟨b, 0, .none⟩) n xs := by
  subst hn; exact Sl.lit hb hm

/-- Is an amount not too great to be converted? -/
def nearB (n : Int) : Bool := decide (-400000000000 ≤ n ∧ n ≤ 400000000000)
def sumAmt (xs : List SItem) : Int := (xs.map (·.amt)).sum
def convItems (xs : List SItem) (fx : Int) : List SItem := xs.map fun x => ⟨x.kind, partOf x.amt fx⟩
theorem sumAmt_snoc (xs : List SItem) (x : SItem) : sumAmt (xs ++ [x]) = sumAmt xs + x.amt := by simp [sumAmt]
theorem convItems_snoc (xs : List SItem) (x : SItem) (fx : Int) : convItems (xs ++ [x]) fx = convItems xs fx ++ [⟨x.kind, partOf x.amt fx⟩] := by simp [convItems]
theorem convItems_length (xs : List SItem) (fx : Int) : (convItems xs fx).length = xs.length := by simp [convItems]
theorem sumAmt_bd {b : Int} (hb : 0 ≤ b) : ∀ (xs : List SItem), (∀ x ∈ xs, -b ≤ x.amt ∧ x.amt ≤ b) → -(xs.length * b) ≤ sumAmt xs ∧ sumAmt xs ≤ xs.length * b
  | [], _ => by simp [sumAmt]
  | x :: xs, h => by
    have h1 := sumAmt_bd hb xs (fun y hy => h y (by simp [hy]))
    have h2 := h x (by simp)
    have e : sumAmt (x :: xs) = x.amt + sumAmt xs := by simp [sumAmt]
    rw [e]
    simp only [List.length_cons, Int.natCast_add, Int.add_mul, Int.natCast_one, Int.one_mul]
    omega

theorem partOf_one (n : Int) : partOf n 1000000 = n := by
  rcases Int.le_total 0 n with h | h
  · rw [partOf_pos h (by omega)]; omega
  · rw [partOf_neg h (by omega)]; omega
/-- How far a rounded part is from the part. -/
theorem partOf_err (n r : Int) (hr : 0 ≤ r) : -1000000 ≤ 2000000 * partOf n r - 2 * (n * r) ∧ 2000000 * partOf n r - 2 * (n * r) ≤ 1000000 := by
  rcases Int.le_total 0 n with h | h
  · rw [partOf_pos h hr]; omega
  · rw [partOf_neg h hr, Int.neg_mul]; omega
theorem conv_err (r : Int) (hr : 0 ≤ r) : ∀ xs : List SItem, -(xs.length * 1000000) ≤ 2000000 * sumAmt (convItems xs r) - 2 * (sumAmt xs * r) ∧ 2000000 * sumAmt (convItems xs r) - 2 * (sumAmt xs * r) ≤ xs.length * 1000000
  | [] => by simp [sumAmt, convItems]
  | x :: xs => by
    have h1 := conv_err r hr xs
    have h2 := partOf_err x.amt r hr
    have e1 : sumAmt (x :: xs) = x.amt + sumAmt xs := by simp [sumAmt]
    have e2 : sumAmt (convItems (x :: xs) r) = partOf x.amt r + sumAmt (convItems xs r) := by simp [sumAmt, convItems]
    rw [e1, e2, Int.add_mul]
    simp only [List.length_cons, Int.natCast_add, Int.natCast_one]
    omega
/-- The difference that rounding leaves is at most half a unit for each, and one. -/
theorem conv_diff (xs : List SItem) (r : Int) (hr : 0 ≤ r) : 2 * (partOf (sumAmt xs) r - sumAmt (convItems xs r)) ≤ xs.length + 1 ∧ -(xs.length : Int) - 1 ≤ 2 * (partOf (sumAmt xs) r - sumAmt (convItems xs r)) := by
  have h1 := conv_err r hr xs
  have h2 := partOf_err (sumAmt xs) r hr
  omega
theorem convItems_one (xs : List SItem) : convItems xs 1000000 = xs := by
  unfold convItems
  conv => rhs; rw [← List.map_id xs]
  refine List.map_congr_left fun x _ => ?_
  rw [partOf_one]; rfl

theorem tl_loop (a : ByteArray) : ∀ (n i : Nat) (r : List UInt8), a.size - i = n → ByteArray.toList.loop a i r = r.reverse ++ a.data.toList.drop i
  | 0, i, r, h => by
    unfold ByteArray.toList.loop
    rw [if_neg (by omega), List.drop_of_length_le (by show a.data.size ≤ i; have : a.size = a.data.size := rfl; omega)]; simp
  | n + 1, i, r, h => by
    unfold ByteArray.toList.loop
    rw [if_pos (by omega), tl_loop a n (i + 1) _ (by omega)]
    have hs : a.size = a.data.size := rfl
    rw [List.drop_eq_getElem_cons (show i < a.data.toList.length by simp; omega)]
    simp only [ByteArray.get!, List.reverse_cons, List.append_assoc, List.singleton_append, Array.getElem_toList]
    rw [getElem!_pos a.data i (by omega)]
theorem tl_data (a : ByteArray) : a.toList = a.data.toList := by unfold ByteArray.toList; rw [tl_loop a _ 0 [] rfl]; simp
theorem tl_inj {a b : ByteArray} (h : a.toList = b.toList) : a = b := by
  rw [tl_data, tl_data] at h; exact ByteArray.ext (Array.ext' h)
theorem tl_iff {a b : ByteArray} : a.toList = b.toList ↔ a = b := ⟨tl_inj, fun h => by rw [h]⟩
end Go.Sl
