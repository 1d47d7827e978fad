/- Walks and plain facts that the laws of this seat share, part 1: contracts of functions, each said at its theorem. -/
import Derived.Test.YtbaklmlnfdlmmaaPk0
import Derived.Test.YtbaklmlnfdlmmaaRows
import Derived.WalkKit
import Derived.ProofKit
import Derived.OpenShut
import Derived.ShutString
import Derived.ChangeOld
import Derived.Below
import Derived.SizedLaws
import Derived.Deep.Slices
import Derived.ChangeShapes
import Derived.ChangeArms
import Derived.ChangeSlices
import Derived.Test.YtbaklmlnfdlmmaaChecked
import Derived.Lib.Hide
set_option linter.all false
section
/- The program's structs as plain Lean, and how each lies in memory. No program is named here. -/
namespace Go.Sl
open Go Go.RowKit

def kInt : Kd Int := Kd.flat 1 (fun x => [.int .i64 x]) (by decide) (fun _ => rfl) (fun x u h => by simp at h; subst h; rfl)
theorem kInt_flat : kInt.Flat := Kd.flat_flat

/-- An item; a line is of the same make. -/
structure SItem where
  kind : Int
  amt : Int
instance : DecidableEq SItem := fun a b => decidable_of_iff (a.kind = b.kind ∧ a.amt = b.amt) (by cases a; cases b; simp)
instance : Inhabited SItem := ⟨⟨0, 0⟩⟩
def SItem.cells (x : SItem) : List Value := [.int .i64 x.kind, .int .i64 x.amt]
def kItem : Kd SItem := Kd.flat 2 SItem.cells (by decide) (fun _ => rfl) (fun x u h => by simp [SItem.cells] at h; rcases h with rfl | rfl <;> rfl)
theorem kItem_flat : kItem.Flat := Kd.flat_flat

/-- A bucket; a vintage is of the same make. -/
structure STri where
  a : Int
  b : Int
  c : Int
instance : DecidableEq STri := fun x y => decidable_of_iff (x.a = y.a ∧ x.b = y.b ∧ x.c = y.c) (by cases x; cases y; simp)
instance : Inhabited STri := ⟨⟨0, 0, 0⟩⟩
def STri.cells (x : STri) : List Value := [.int .i64 x.a, .int .i64 x.b, .int .i64 x.c]
def kTri : Kd STri := Kd.flat 3 STri.cells (by decide) (fun _ => rfl) (fun x u h => by simp [STri.cells] at h; rcases h with rfl | rfl | rfl <;> rfl)
theorem kTri_flat : kTri.Flat := Kd.flat_flat

theorem get_of_lt {α : Type} {xs : List α} {i : Nat} (h : i < xs.length) : xs[i]? = some xs[i] := by simp [h]

theorem some_of_lt {α : Type} {xs : List α} {i : Nat} (h : i < xs.length) : ∃ x, Hid (xs[i]? = some x) := ⟨_, get_of_lt h⟩
theorem take_next {α : Type} {xs : List α} {i : Nat} {x : α} (h : Hid (xs[i]? = some x)) : xs.take (i + 1) = xs.take i ++ [x] := by
  have h2 := (List.getElem?_eq_some_iff.1 h.out)
  rw [List.take_succ_eq_append_getElem h2.1, h2.2]

/-- The cell of a whole number in a slice of whole numbers. -/
theorem Sl.int {h : Hp} {A : Option Addr} {cap : Nat} {xs : List Int} {w : World} (s : Sl kInt h A cap xs) (hs : h.sub w) {i : Nat} {x : Int} (hx : Hid (xs[i]? = some x)) :
    ∃ b off, A = some ⟨b, off, .none⟩ ∧ w.cell? ⟨b, off + i, .none⟩ = some (.int .i64 x) := by
  obtain ⟨b, off, cs, e, hK, _, hc⟩ := s.at hs hx.out
  have hK' : cs = [.int .i64 x] := hK
  subst hK'
  exact ⟨b, off, e, by simpa [kInt, Kd.flat] using hc 0 _ rfl⟩
theorem Sl.item {h : Hp} {A : Option Addr} {cap : Nat} {xs : List SItem} {w : World} (s : Sl kItem h A cap xs) (hs : h.sub w) {i : Nat} {x : SItem} (hx : Hid (xs[i]? = some x)) :
    ∃ b off, A = some ⟨b, off, .none⟩ ∧ w.cell? ⟨b, off + i * 2, .none⟩ = some (.int .i64 x.kind) ∧ w.cell? ⟨b, off + i * 2 + 1, .none⟩ = some (.int .i64 x.amt) := by
  obtain ⟨b, off, cs, e, hK, _, hc⟩ := s.at hs hx.out
  have hK' : cs = SItem.cells x := hK
  subst hK'
  exact ⟨b, off, e, by simpa [kItem, Kd.flat] using hc 0 _ rfl, hc 1 _ rfl⟩
theorem Sl.tri {h : Hp} {A : Option Addr} {cap : Nat} {xs : List STri} {w : World} (s : Sl kTri h A cap xs) (hs : h.sub w) {i : Nat} {x : STri} (hx : Hid (xs[i]? = some x)) :
    ∃ b off, A = some ⟨b, off, .none⟩ ∧ w.cell? ⟨b, off + i * 3, .none⟩ = some (.int .i64 x.a) ∧ w.cell? ⟨b, off + i * 3 + 1, .none⟩ = some (.int .i64 x.b) ∧ w.cell? ⟨b, off + i * 3 + 2, .none⟩ = some (.int .i64 x.c) := by
  obtain ⟨b, off, cs, e, hK, _, hc⟩ := s.at hs hx.out
  have hK' : cs = STri.cells x := hK
  subst hK'
  exact ⟨b, off, e, by simpa [kTri, Kd.flat] using hc 0 _ rfl, hc 1 _ rfl, hc 2 _ rfl⟩

theorem map_set_step {α : Type} (f : α → α) : ∀ (xs : List α) (j : Nat) (x : α), xs[j]? = some x → ((xs.take j).map f ++ xs.drop j).set j (f x) = (xs.take (j + 1)).map f ++ xs.drop (j + 1)
  | [], j, x, h => by simp at h
  | y :: ys, 0, x, h => by simp at h; subst h; simp
  | y :: ys, j + 1, x, h => by
    have := map_set_step f ys j x (by simpa using h)
    simp only [List.take_succ_cons, List.map_cons, List.drop_succ_cons, List.cons_append, List.set_cons_succ, this]
theorem map_get_step {α : Type} (f : α → α) : ∀ (xs : List α) (j : Nat), ((xs.take j).map f ++ xs.drop j)[j]? = xs[j]?
  | [], j => by simp
  | y :: ys, 0 => by simp
  | y :: ys, j + 1 => by simpa using map_get_step f ys j

/-- '!=' as a Bool that no tactic looks into. -/
def neB {α : Type} [DecidableEq α] (x y : α) : Bool := !decide (x = y)
theorem neB_t {α : Type} [DecidableEq α] {x y : α} (h : x ≠ y) : neB x y = true := by simp [neB, h]
theorem neB_f {α : Type} [DecidableEq α] {x y : α} (h : x = y) : neB x y = false := by simp [neB, h]
/-- '==' as a Bool that no tactic looks into. -/
def eqB {α : Type} [DecidableEq α] (x y : α) : Bool := decide (x = y)
theorem eqB_t {α : Type} [DecidableEq α] {x y : α} (h : x = y) : eqB x y = true := by simp [eqB, h]
theorem eqB_f {α : Type} [DecidableEq α] {x y : α} (h : x ≠ y) : eqB x y = false := by simp [eqB, h]
theorem take_both {α : Type} {xs ys : List α} {j : Nat} {x y : α} (h1 : Hid (xs[j]? = some x)) (h2 : Hid (ys[j]? = some y)) :
    Hid (xs.take (j + 1) = ys.take (j + 1)) ↔ (Hid (xs.take j = ys.take j) ∧ x = y) := by
  have l1 := (List.getElem?_eq_some_iff.1 h1.out).1
  have l2 := (List.getElem?_eq_some_iff.1 h2.out).1
  unfold Hid
  rw [take_next h1, take_next h2]
  constructor
  · intro e
    have := List.append_inj e (by simp; omega)
    exact ⟨this.1, by simpa using this.2⟩
  · rintro ⟨e1, e2⟩; rw [e1, e2]

theorem Sl.litItem {h : Hp} {b n : Nat} {t : TypeId} {fr : Nat × Nat} {xs : List SItem} (hb : h b = some (.cells (xs.flatMap SItem.cells).toArray t fr)) (hn : xs.length = n) (hm : n ≤ maxLen) : Sl kItem h (some ⟨b, 0, .none⟩) n xs := by
  subst hn; exact Sl.lit hb hm
theorem Sl.litTri {h : Hp} {b n : Nat} {t : TypeId} {fr : Nat × Nat} {xs : List STri} (hb : h b = some (.cells (xs.flatMap STri.cells).toArray t fr)) (hn : xs.length = n) (hm : n ≤ maxLen) : Sl kTri h (some ⟨b, 0, .none⟩) n xs := by
  subst hn; exact Sl.lit hb hm
theorem Sl.litInt {h : Hp} {b n : Nat} {t : TypeId} {fr : Nat × Nat} {xs : List Int} (hb : h b = some (.cells (xs.flatMap fun x => [Value.int .i64 x]).toArray t fr)) (hn : xs.length = n) (hm : n ≤ maxLen) : Sl kInt h (some ⟨b, 0, .none⟩) n xs := by
  subst hn; exact Sl.lit hb hm

/-- Is an amount not too great to be converted? -/
def nearB (n : Int) : Bool := decide (-400000000000 ≤ n ∧ n ≤ 400000000000)
def sumAmt (xs : List SItem) : Int := (xs.map (·.amt)).sum
def convItems (xs : List SItem) (fx : Int) : List SItem := xs.map fun x => ⟨x.kind, partOf x.amt fx⟩
theorem sumAmt_snoc (xs : List SItem) (x : SItem) : sumAmt (xs ++ [x]) = sumAmt xs + x.amt := by simp [sumAmt]
theorem convItems_snoc (xs : List SItem) (x : SItem) (fx : Int) : convItems (xs ++ [x]) fx = convItems xs fx ++ [⟨x.kind, partOf x.amt fx⟩] := by simp [convItems]
theorem convItems_length (xs : List SItem) (fx : Int) : (convItems xs fx).length = xs.length := by simp [convItems]
theorem sumAmt_bd {b : Int} (hb : 0 ≤ b) : ∀ (xs : List SItem), (∀ x ∈ xs, -b ≤ x.amt ∧ x.amt ≤ b) → -(xs.length * b) ≤ sumAmt xs ∧ sumAmt xs ≤ xs.length * b
  | [], _ => by simp [sumAmt]
  | x :: xs, h => by
    have h1 := sumAmt_bd hb xs (fun y hy => h y (by simp [hy]))
    have h2 := h x (by simp)
    have e : sumAmt (x :: xs) = x.amt + sumAmt xs := by simp [sumAmt]
    rw [e]
    simp only [List.length_cons, Int.natCast_add, Int.add_mul, Int.natCast_one, Int.one_mul]
    omega

theorem partOf_one (n : Int) : partOf n 1000000 = n := by
  rcases Int.le_total 0 n with h | h
  · rw [partOf_pos h (by omega)]; omega
  · rw [partOf_neg h (by omega)]; omega
/-- How far a rounded part is from the part. -/
theorem partOf_err (n r : Int) (hr : 0 ≤ r) : -1000000 ≤ 2000000 * partOf n r - 2 * (n * r) ∧ 2000000 * partOf n r - 2 * (n * r) ≤ 1000000 := by
  rcases Int.le_total 0 n with h | h
  · rw [partOf_pos h hr]; omega
  · rw [partOf_neg h hr, Int.neg_mul]; omega
theorem conv_err (r : Int) (hr : 0 ≤ r) : ∀ xs : List SItem, -(xs.length * 1000000) ≤ 2000000 * sumAmt (convItems xs r) - 2 * (sumAmt xs * r) ∧ 2000000 * sumAmt (convItems xs r) - 2 * (sumAmt xs * r) ≤ xs.length * 1000000
  | [] => by simp [sumAmt, convItems]
  | x :: xs => by
    have h1 := conv_err r hr xs
    have h2 := partOf_err x.amt r hr
    have e1 : sumAmt (x :: xs) = x.amt + sumAmt xs := by simp [sumAmt]
    have e2 : sumAmt (convItems (x :: xs) r) = partOf x.amt r + sumAmt (convItems xs r) := by simp [sumAmt, convItems]
    rw [e1, e2, Int.add_mul]
    simp only [List.length_cons, Int.natCast_add, Int.natCast_one]
    omega
/-- The difference that rounding leaves is at most half a unit for each, and one. -/
theorem conv_diff (xs : List SItem) (r : Int) (hr : 0 ≤ r) : 2 * (partOf (sumAmt xs) r - sumAmt (convItems xs r)) ≤ xs.length + 1 ∧ -(xs.length : Int) - 1 ≤ 2 * (partOf (sumAmt xs) r - sumAmt (convItems xs r)) := by
  have h1 := conv_err r hr xs
  have h2 := partOf_err (sumAmt xs) r hr
  omega
theorem convItems_one (xs : List SItem) : convItems xs 1000000 = xs := by
  unfold convItems
  conv => rhs; rw [← List.map_id xs]
  refine List.map_congr_left fun x _ => ?_
  rw [partOf_one]; rfl

theorem tl_loop (a : ByteArray) : ∀ (n i : Nat) (r : List UInt8), a.size - i = n → ByteArray.toList.loop a i r = r.reverse ++ a.data.toList.drop i
  | 0, i, r, h => by
    unfold ByteArray.toList.loop
    rw [if_neg (by omega), List.drop_of_length_le (by show a.data.size ≤ i; have : a.size = a.data.size := rfl; omega)]; simp
  | n + 1, i, r, h => by
    unfold ByteArray.toList.loop
    rw [if_pos (by omega), tl_loop a n (i + 1) _ (by omega)]
    have hs : a.size = a.data.size := rfl
    rw [List.drop_eq_getElem_cons (show i < a.data.toList.length by simp; omega)]
    simp only [ByteArray.get!, List.reverse_cons, List.append_assoc, List.singleton_append, Array.getElem_toList]
    rw [getElem!_pos a.data i (by omega)]
theorem tl_data (a : ByteArray) : a.toList = a.data.toList := by unfold ByteArray.toList; rw [tl_loop a _ 0 [] rfl]; simp
theorem tl_inj {a b : ByteArray} (h : a.toList = b.toList) : a = b := by
  rw [tl_data, tl_data] at h; exact ByteArray.ext (Array.ext' h)
theorem tl_iff {a b : ByteArray} : a.toList = b.toList ↔ a = b := ⟨tl_inj, fun h => by rw [h]⟩
end Go.Sl
end
section
/- What an argument's reading as data gives a walk: slices of whole numbers. No program is named here. -/
namespace Go.Sl
open Go Go.RowKit

def I64 (n : Int) : Prop := -9223372036854775808 ≤ n ∧ n ≤ 9223372036854775807
theorem I64.of_wf {n : Int} (h : (Lit.int .i64 n).wf = true) : I64 n := by
  simp [Lit.wf, IntKind.min, IntKind.max, IntKind.signed, IntKind.bits] at h
  unfold I64
  omega

/-- Cells that read as whole numbers, as a slice. -/
theorem Sl.of_ints {w : World} {x : Addr} {n cap : Nat} {zs : List Int} (hn : n ≤ cap) (hm : cap ≤ maxLen) (hz : zs.length = cap)
    (hc : ∀ i, i < zs.length → w.cell? (x.add i) = some (.int .i64 (zs.getD i 0))) : Sl kInt (Hp.all w) (some x) cap (zs.take n) :=
  ⟨by rw [List.length_take]; omega, hm, (fun e => (nomatch e)), fun i y hy => by
    have hi : i < n ∧ i < zs.length := by
      rw [List.getElem?_take] at hy
      split at hy
      · exact ⟨by assumption, (List.getElem?_eq_some_iff.1 hy).1⟩
      · cases hy
    have hyi : zs[i]? = some y := by rw [List.getElem?_take, if_pos hi.1] at hy; exact hy
    have h0 := hc 0 (by omega)
    have hx0 : x.add 0 = x := by simp [Addr.add]
    rw [hx0] at h0
    obtain ⟨b, off, sp⟩ := x
    have hsp : sp = .none := by
      unfold World.cell? at h0
      split at h0
      · cases sp with
        | none => rfl
        | some s => simp at h0
      · cases h0
    subst hsp
    have hci := hc i hi.2
    rw [add_mk] at hci
    unfold World.cell? at hci
    split at hci
    · rename_i cur E fr hb
      refine ⟨b, off, cur, E, fr, [.int .i64 y], rfl, hb, rfl, fun j u hu => ?_⟩
      cases j with
      | zero =>
        simp at hu; subst hu
        have hg : zs.getD i 0 = y := by simp [List.getD, hyi]
        rw [hg] at hci
        simpa [kInt, Kd.flat] using hci
      | succ j => simp at hu
    · cases hci⟩
theorem I64.of_take {zs : List Int} {n : Nat} (h : ∀ z ∈ zs, (Lit.int .i64 z).wf = true) : ∀ z ∈ zs.take n, I64 z := fun z hz => I64.of_wf (h z (List.mem_of_mem_take hz))
end Go.Sl
end
section
/- What the rows' proofs share: the program's own facts, and a slice of whole numbers as the form hands it over. -/
namespace Go.Proofs.Ytbaklmlnfdlmmaa.Lift
open Go.ChangeShapes Go.WideShapes Go.ChangeAt Go.RowKit Go.Sl
set_option linter.unusedVariables false
set_option maxRecDepth 100000
theorem own : ownKnob Try.prog.godebug = none := by kernel_rfl
theorem laidOut : laidOutB Try.prog = true := by kernel_rfl
theorem ints_of {H : Type} {enc : TypeId × Value → H} {W : World} {base : Nat} {v : Value} {d : DataW H} {p : List MemPlace} (hv : Value.okWide Try.prog W .any base 29 v) (h0 : DataW.Trod enc Try.prog W 0 (fun _ => true) true 29 v d p) :
    ∃ A cap zs, v = .slice A (List.length zs) cap ∧ Sl kInt (Hp.all W) A cap zs ∧ ∀ z ∈ zs, I64 z := by
  obtain ⟨a0, len0, cap0, rfl⟩ := okWide_slice Try.underlying29 hv
  obtain ⟨fuel, hf⟩ := h0
  rcases open_ints Try.underlying29 Try.underlying3 (by kernel_rfl) hf with ⟨hcs, _⟩ | ⟨x, l, c, zs, hcs, _, hl, hm, hz, _, hcell, hwz⟩
  · simp [Value.cells] at hcs
    obtain ⟨rfl, rfl, rfl⟩ := hcs
    exact ⟨none, 0, [], rfl, Sl.none _ _, by simp⟩
  · simp [Value.cells] at hcs
    obtain ⟨rfl, rfl, rfl⟩ := hcs
    have hz' : zs.length = cap0 := by simpa using hz
    refine ⟨some x, cap0, zs.take len0, ?_, Sl.of_ints hl hm hz' hcell, I64.of_take hwz⟩
    rw [List.length_take, hz', Nat.min_eq_left hl]
end Go.Proofs.Ytbaklmlnfdlmmaa.Lift
end
section
/- A slice of structs of whole numbers, as an argument's reading gives it. No program is named here. -/
namespace Go.Sl
open Go Go.RowKit Go.Deep Go.ChangeShapes
/-- n whole numbers, by their places. -/
def kFun (n : Nat) (pos : 0 < n) : Kd (Nat → Int) := Kd.flat n (fun x => (List.range n).map fun i => .int .i64 (x i)) pos (by simp) (fun x u h => by
  obtain ⟨i, _, rfl⟩ := List.mem_map.1 h; rfl)
theorem Sl.fn {n : Nat} {pos : 0 < n} {h : Hp} {A : Option Addr} {cap : Nat} {xs : List (Nat → Int)} {w : World} (s : Sl (kFun n pos) h A cap xs) (hs : h.sub w) {i : Nat} {x : Nat → Int} (hx : Hid (xs[i]? = some x)) :
    ∃ b off, A = some ⟨b, off, .none⟩ ∧ ∀ j, j < n → w.cell? ⟨b, off + i * n + j, .none⟩ = some (.int .i64 (x j)) := by
  obtain ⟨b, off, cs, e, hK, _, hc⟩ := s.at hs hx.out
  have hK' : cs = (List.range n).map fun i => .int .i64 (x i) := hK
  subst hK'
  exact ⟨b, off, e, fun j hj => hc j _ (by simp [hj])⟩
theorem Sl.fn3 {pos : 0 < 3} {h : Hp} {A : Option Addr} {cap : Nat} {xs : List (Nat → Int)} {w : World} (s : Sl (kFun 3 pos) h A cap xs) (hs : h.sub w) {i : Nat} {x : Nat → Int} (hx : Hid (xs[i]? = some x)) :
    ∃ b off, A = some ⟨b, off, .none⟩ ∧ w.cell? ⟨b, off + i * 3, .none⟩ = some (.int .i64 (x 0)) ∧ w.cell? ⟨b, off + i * 3 + 1, .none⟩ = some (.int .i64 (x 1)) ∧ w.cell? ⟨b, off + i * 3 + 2, .none⟩ = some (.int .i64 (x 2)) := by
  obtain ⟨b, off, e, hc⟩ := s.fn hs hx
  exact ⟨b, off, e, hc 0 (by omega), hc 1 (by omega), hc 2 (by omega)⟩
theorem Sl.fn4 {pos : 0 < 4} {h : Hp} {A : Option Addr} {cap : Nat} {xs : List (Nat → Int)} {w : World} (s : Sl (kFun 4 pos) h A cap xs) (hs : h.sub w) {i : Nat} {x : Nat → Int} (hx : Hid (xs[i]? = some x)) :
    ∃ b off, A = some ⟨b, off, .none⟩ ∧ w.cell? ⟨b, off + i * 4, .none⟩ = some (.int .i64 (x 0)) ∧ w.cell? ⟨b, off + i * 4 + 1, .none⟩ = some (.int .i64 (x 1)) ∧ w.cell? ⟨b, off + i * 4 + 2, .none⟩ = some (.int .i64 (x 2)) ∧ w.cell? ⟨b, off + i * 4 + 3, .none⟩ = some (.int .i64 (x 3)) := by
  obtain ⟨b, off, e, hc⟩ := s.fn hs hx
  exact ⟨b, off, e, hc 0 (by omega), hc 1 (by omega), hc 2 (by omega), hc 3 (by omega)⟩
theorem Sl.fn6 {pos : 0 < 6} {h : Hp} {A : Option Addr} {cap : Nat} {xs : List (Nat → Int)} {w : World} (s : Sl (kFun 6 pos) h A cap xs) (hs : h.sub w) {i : Nat} {x : Nat → Int} (hx : Hid (xs[i]? = some x)) :
    ∃ b off, A = some ⟨b, off, .none⟩ ∧ w.cell? ⟨b, off + i * 6, .none⟩ = some (.int .i64 (x 0)) ∧ w.cell? ⟨b, off + i * 6 + 1, .none⟩ = some (.int .i64 (x 1)) ∧ w.cell? ⟨b, off + i * 6 + 2, .none⟩ = some (.int .i64 (x 2)) ∧ w.cell? ⟨b, off + i * 6 + 3, .none⟩ = some (.int .i64 (x 3)) ∧ w.cell? ⟨b, off + i * 6 + 4, .none⟩ = some (.int .i64 (x 4)) ∧ w.cell? ⟨b, off + i * 6 + 5, .none⟩ = some (.int .i64 (x 5)) := by
  obtain ⟨b, off, e, hc⟩ := s.fn hs hx
  exact ⟨b, off, e, hc 0 (by omega), hc 1 (by omega), hc 2 (by omega), hc 3 (by omega), hc 4 (by omega), hc 5 (by omega)⟩
theorem open_acts {H : Type} {enc : TypeId × Value → H} {P : Program} {w : World} {held : Bool} {t e : TypeId} {fs : Array Field} {fuel : Nat} {cs : List Value} {x : DataW H × List MemPlace} (n : Nat) (pos : 0 < n)
    (ht : P.underlying t = some (.slice e)) (he : P.underlying e = some (.struct fs)) (hce : P.cellsOf e = n)
    (hf : ∀ i, i < n → ∃ f, fs[i]? = some f ∧ f.offset = i ∧ P.underlying f.type = some (.int .i64) ∧ P.cellsOf f.type = 1)
    (h : DataW.trod enc P w 0 (fun _ => true) held fuel t cs = some x) :
    ∃ A cap zs, cs = [.slice A (List.length zs) cap] ∧ Sl (kFun n pos) (Hp.all w) A cap zs ∧ ∀ z ∈ zs, ∀ j, j < n → I64 (z j) := by
  rcases open_slice ht h with ⟨rfl, _⟩ | ⟨a, len, cap, m, k, D, Pl, rfl, _, hl, hmx, hm, _, hel⟩
  · exact ⟨none, 0, [], rfl, Sl.none _ _, by simp⟩
  · simp at hm
    subst hm
    have each : ∀ i, i < len → ∃ z : Nat → Int, ∀ j, j < n → w.cell? (a.add (i * n + j)) = some (.int .i64 (z j)) ∧ I64 (z j) := by
      intro i hi
      obtain ⟨cs', h1, h2⟩ := hel i (by omega)
      rw [hce] at h1
      obtain ⟨xs, k', _, _, hcl, hxl, hfl⟩ := DataW.trod_struct he h2
      obtain ⟨_, hlen, hcell⟩ := World.cells?_some h1
      refine choose_lt (α := Int) (n := n) (p := fun j q => w.cell? (a.add (i * n + j)) = some (.int .i64 q) ∧ I64 q) fun j hj => ?_
      obtain ⟨f, f1, f2, f3, f4⟩ := hf j hj
      have ht := hfl j f f1
      rw [f2, f4] at ht
      have hjl : j < cs'.length := by omega
      have hd : (cs'.drop j).take 1 = [cs'[j]] := by rw [List.drop_eq_getElem_cons hjl]; rfl
      rw [hd] at ht
      cases hx : xs[j]? with
      | none => rw [hx] at ht; rename_i hxs; have h3 := (Array.getElem?_eq_some_iff.1 f1).1; rw [List.getElem?_eq_none_iff] at hx; omega
      | some y =>
        rw [hx] at ht
        obtain ⟨q, e1, _, e3⟩ := DataW.trod_int f3 ht
        refine ⟨q, ?_, I64.of_wf e3⟩
        have e4 : cs'[j] = .int .i64 q := by simpa using e1
        have e5 := hcell j (by omega)
        rw [List.getElem?_eq_getElem hjl, e4, add_add] at e5
        exact e5
    obtain ⟨F, hF⟩ := choose_lt (α := Nat → Int) each
    refine ⟨some a, m, (List.range len).map F, by simp, ⟨by simpa using hl, hmx, (fun e => (nomatch e)), fun i z hz => ?_⟩, fun z hz j hj => ?_⟩
    · rw [List.getElem?_map] at hz
      by_cases hi : i < len
      · rw [List.getElem?_range hi] at hz
        simp at hz; subst hz
        have hc := fun j hj => (hF i hi j hj).1
        obtain ⟨b, off, sp⟩ := a
        have h0 := (hF 0 (by omega) 0 pos).1
        rw [show 0 * n + 0 = 0 by omega, show ∀ a : Addr, a.add 0 = a from fun a => if_pos rfl] at h0
        have hsp : sp = .none := by
          unfold World.cell? at h0
          split at h0
          · cases sp with
            | none => rfl
            | some s => simp at h0
          · cases h0
        subst hsp
        have hb : ∃ cur E fr, w.heap[b]? = some (.cells cur E fr) ∧ ∀ j, j < n → cur[off + i * n + j]? = some (.int .i64 (F i j)) := by
          have h1 := h0
          unfold World.cell? at h1
          split at h1
          · rename_i cur E fr hb
            refine ⟨cur, E, fr, hb, fun j hj => ?_⟩
            have h2 := hc j hj
            rw [add_mk, cell_of_row w b _ cur E fr hb] at h2
            rw [Nat.add_assoc]; exact h2
          · cases h1
        obtain ⟨cur, E, fr, hb, hcur⟩ := hb
        refine ⟨b, off, cur, E, fr, _, rfl, hb, rfl, fun j u hu => ?_⟩
        rw [List.getElem?_map] at hu
        by_cases hj : j < n
        · rw [List.getElem?_range hj] at hu
          simp at hu; subst hu
          exact hcur j hj
        · rw [List.getElem?_eq_none (by simp; omega)] at hu; cases hu
      · rw [List.getElem?_eq_none (by simp; omega)] at hz; cases hz
    · obtain ⟨i, hi, rfl⟩ := List.mem_map.1 hz
      exact (hF i (List.mem_range.1 hi) j hj).2
end Go.Sl
end
section
/- A slice of structs of six whole numbers and two slices of whole numbers, as an argument's reading gives it. No program is named here. -/
namespace Go.Sl
open Go Go.RowKit Go.Deep Go.ChangeShapes
/-- Six whole numbers, by their places, and two lists. -/
structure SPA where
  f : Nat → Int
  us : List Int
  vs : List Int
def kPA : Kd SPA where
  size := 8
  K h x cs := ∃ U cu V cv, cs = [.int .i64 (x.f 0), .int .i64 (x.f 1), .int .i64 (x.f 2), .int .i64 (x.f 3), .slice U x.us.length cu, .slice V x.vs.length cv, .int .i64 (x.f 6), .int .i64 (x.f 7)] ∧ Sl kInt h U cu x.us ∧ Sl kInt h V cv x.vs
  pos := by decide
  len := by rintro h x cs ⟨U, cu, V, cv, rfl, _⟩; rfl
  one := by
    rintro h x cs ⟨U, cu, V, cv, rfl, _⟩ u hu
    simp at hu; rcases hu with rfl | rfl | rfl | rfl | rfl | rfl | rfl | rfl <;> rfl
  mono := by rintro h h' x cs ⟨U, cu, V, cv, e, s, s2⟩ l; exact ⟨U, cu, V, cv, e, s.mono l, s2.mono l⟩
theorem Sl.pa {h : Hp} {A : Option Addr} {cap : Nat} {xs : List SPA} {w : World} (s : Sl kPA h A cap xs) (hs : h.sub w) {i : Nat} {x : SPA} (hx : Hid (xs[i]? = some x)) :
    ∃ b off U cu V cv, A = some ⟨b, off, .none⟩ ∧ Sl kInt h U cu x.us ∧ Sl kInt h V cv x.vs ∧ w.cell? ⟨b, off + i * 8, .none⟩ = some (.int .i64 (x.f 0)) ∧ w.cell? ⟨b, off + i * 8 + 1, .none⟩ = some (.int .i64 (x.f 1)) ∧ w.cell? ⟨b, off + i * 8 + 2, .none⟩ = some (.int .i64 (x.f 2)) ∧ w.cell? ⟨b, off + i * 8 + 3, .none⟩ = some (.int .i64 (x.f 3)) ∧
      w.cell? ⟨b, off + i * 8 + 4, .none⟩ = some (.slice U x.us.length cu) ∧ w.cell? ⟨b, off + i * 8 + 5, .none⟩ = some (.slice V x.vs.length cv) ∧ w.cell? ⟨b, off + i * 8 + 6, .none⟩ = some (.int .i64 (x.f 6)) ∧ w.cell? ⟨b, off + i * 8 + 7, .none⟩ = some (.int .i64 (x.f 7)) := by
  obtain ⟨b, off, cs, e, ⟨U, cu, V, cv, rfl, su, sv⟩, _, hc⟩ := s.at hs hx.out
  exact ⟨b, off, U, cu, V, cv, e, su, sv, by simpa [kPA] using hc 0 _ rfl, hc 1 _ rfl, hc 2 _ rfl, hc 3 _ rfl, hc 4 _ rfl, hc 5 _ rfl, hc 6 _ rfl, hc 7 _ rfl⟩
theorem open_pacts {H : Type} {enc : TypeId × Value → H} {P : Program} {w : World} {held : Bool} {t e ti te : TypeId} {fs : Array Field} {fuel : Nat} {cs : List Value} {x : DataW H × List MemPlace}
    (ht : P.underlying t = some (.slice e)) (he : P.underlying e = some (.struct fs)) (hce : P.cellsOf e = 8)
    (hf : ∀ i, i < 8 → i ≠ 4 → i ≠ 5 → ∃ f, fs[i]? = some f ∧ f.offset = i ∧ P.underlying f.type = some (.int .i64) ∧ P.cellsOf f.type = 1)
    (h4 : ∀ i, i = 4 ∨ i = 5 → ∃ f, fs[i]? = some f ∧ f.offset = i ∧ f.type = ti ∧ P.cellsOf ti = 1) (hti : P.underlying ti = some (.slice te)) (hte : P.underlying te = some (.int .i64)) (hcte : P.cellsOf te = 1)
    (h : DataW.trod enc P w 0 (fun _ => true) held fuel t cs = some x) :
    ∃ A cap zs, cs = [.slice A (List.length zs) cap] ∧ Sl kPA (Hp.all w) A cap zs ∧ ∀ z ∈ zs, (∀ j, I64 (z.f j)) ∧ (∀ u ∈ z.us, I64 u) ∧ ∀ u ∈ z.vs, I64 u := by
  rcases open_slice ht h with ⟨rfl, _⟩ | ⟨a, len, cap, m, k, D, Pl, rfl, _, hl, hmx, hm, _, hel⟩
  · exact ⟨none, 0, [], rfl, Sl.none _ _, by simp⟩
  · have hm' : m = cap := by simpa using hm
    subst hm'
    have each : ∀ i, i < len → ∃ z : SPA, ∃ cs', (∀ j u, cs'[j]? = some u → w.cell? (a.add (i * 8 + j)) = some u) ∧ kPA.K (Hp.all w) z cs' ∧ (∀ j, I64 (z.f j)) ∧ (∀ u ∈ z.us, I64 u) ∧ ∀ u ∈ z.vs, I64 u := by
      intro i hi
      obtain ⟨cs', h1, h2⟩ := hel i (by omega)
      rw [hce] at h1
      obtain ⟨xs, k', _, _, hcl, hxl, hfl⟩ := DataW.trod_struct he h2
      obtain ⟨_, hlen, hcell⟩ := World.cells?_some h1
      have hd : ∀ j (hj : j < cs'.length), (cs'.drop j).take 1 = [cs'[j]] := fun j hj => by rw [List.drop_eq_getElem_cons hj]; rfl
      have hnum : ∀ j, j < 8 → j ≠ 4 → j ≠ 5 → ∃ q : Int, cs'[j]? = some (.int .i64 q) ∧ I64 q := by
        intro j hj hj4 hj5
        obtain ⟨f, f1, f2, f3, f4⟩ := hf j hj hj4 hj5
        have ht := hfl j f f1
        rw [f2, f4] at ht
        have hjl : j < cs'.length := by omega
        rw [hd j hjl] at ht
        cases hx : xs[j]? with
        | none => rw [hx] at ht; have h3 := (Array.getElem?_eq_some_iff.1 f1).1; rw [List.getElem?_eq_none_iff] at hx; omega
        | some y =>
          rw [hx] at ht
          obtain ⟨q, e1, _, e3⟩ := DataW.trod_int f3 ht
          exact ⟨q, by rw [List.getElem?_eq_getElem hjl]; simpa using e1, I64.of_wf e3⟩
      obtain ⟨q0, n0, w0⟩ := hnum 0 (by omega) (by omega) (by omega)
      obtain ⟨q1, n1, w1⟩ := hnum 1 (by omega) (by omega) (by omega)
      obtain ⟨q2, n2, w2⟩ := hnum 2 (by omega) (by omega) (by omega)
      obtain ⟨q3, n3, w3⟩ := hnum 3 (by omega) (by omega) (by omega)
      obtain ⟨q6, n6, w6⟩ := hnum 6 (by omega) (by omega) (by omega)
      obtain ⟨q7, n7, w7⟩ := hnum 7 (by omega) (by omega) (by omega)
      have hin : ∀ j, j = 4 ∨ j = 5 → ∃ U cu us, cs'[j]? = some (.slice U (List.length us) cu) ∧ Sl kInt (Hp.all w) U cu us ∧ ∀ u ∈ us, I64 u := by
        intro j hj
        obtain ⟨f, f1, f2, f3, f4⟩ := h4 j hj
        have ht4 := hfl j f f1
        have hjl : j < cs'.length := by omega
        rw [f2, f3, f4, hd j hjl] at ht4
        cases hx : xs[j]? with
        | none => rw [hx] at ht4; have h3 := (Array.getElem?_eq_some_iff.1 f1).1; rw [List.getElem?_eq_none_iff] at hx; omega
        | some y =>
          rw [hx] at ht4
          rcases open_ints hti hte hcte ht4 with ⟨hcs, _⟩ | ⟨x', l', c', zs, hcs, _, hl', hm2, hz, _, hcell', hwz⟩
          · refine ⟨none, 0, [], ?_, Sl.none _ _, by simp⟩
            rw [List.getElem?_eq_getElem hjl]; simpa using hcs
          · have hz' : zs.length = c' := by simpa using hz
            refine ⟨some x', c', zs.take l', ?_, Sl.of_ints hl' hm2 hz' hcell', I64.of_take hwz⟩
            rw [List.getElem?_eq_getElem hjl, List.length_take, hz', Nat.min_eq_left hl']; simpa using hcs
      obtain ⟨U, cu, us, n4, su, wu⟩ := hin 4 (.inl rfl)
      obtain ⟨V, cv, vs, n5, sv, wv⟩ := hin 5 (.inr rfl)
      refine ⟨⟨fun j => if j = 0 then q0 else if j = 1 then q1 else if j = 2 then q2 else if j = 3 then q3 else if j = 6 then q6 else q7, us, vs⟩, cs', fun j u hu => ?_, ⟨U, cu, V, cv, ?_, su, sv⟩, fun j => ?_, wu, wv⟩
      · have hjl : j < cs'.length := (List.getElem?_eq_some_iff.1 hu).1
        have e5 := hcell j (by omega)
        rw [add_add, hu] at e5
        exact e5
      · have hl5 : cs'.length = 8 := by omega
        refine List.ext_getElem? fun j => ?_
        match j with
        | 0 => exact n0
        | 1 => exact n1
        | 2 => exact n2
        | 3 => exact n3
        | 4 => exact n4
        | 5 => exact n5
        | 6 => exact n6
        | 7 => exact n7
        | j + 8 => rw [List.getElem?_eq_none (by omega)]; rfl
      · show I64 (if j = 0 then q0 else if j = 1 then q1 else if j = 2 then q2 else if j = 3 then q3 else if j = 6 then q6 else q7)
        split
        · exact w0
        split
        · exact w1
        split
        · exact w2
        split
        · exact w3
        split
        · exact w6
        · exact w7
    have : Inhabited SPA := ⟨⟨fun _ => 0, [], []⟩⟩
    obtain ⟨F, hF⟩ := choose_lt (α := SPA) each
    refine ⟨some a, m, (List.range len).map F, by simp, ⟨by simpa using hl, hmx, (fun e => (nomatch e)), fun i z hz => ?_⟩, fun z hz => ?_⟩
    · rw [List.getElem?_map] at hz
      by_cases hi : i < len
      · rw [List.getElem?_range hi] at hz
        simp at hz; subst hz
        obtain ⟨cs', hc, hK, _, _, _⟩ := hF i hi
        obtain ⟨cs0, hc0, hK0, _, _, _⟩ := hF 0 (by omega)
        obtain ⟨b, off, sp⟩ := a
        obtain ⟨_, _, _, _, e0, _, _⟩ := hK0
        have h0 := hc0 0 _ (by rw [e0]; rfl)
        rw [show 0 * 8 + 0 = 0 by omega, show ∀ a : Addr, a.add 0 = a from fun a => if_pos rfl] at h0
        have hsp : sp = .none := by
          unfold World.cell? at h0
          split at h0
          · cases sp with
            | none => rfl
            | some s => simp at h0
          · cases h0
        subst hsp
        have hb : ∃ cur E fr, w.heap[b]? = some (.cells cur E fr) := by
          have h1 := h0
          unfold World.cell? at h1
          split at h1
          · rename_i cur E fr hb; exact ⟨cur, E, fr, hb⟩
          · cases h1
        obtain ⟨cur, E, fr, hb⟩ := hb
        refine ⟨b, off, cur, E, fr, cs', rfl, hb, hK, fun j u hu => ?_⟩
        have h2 := hc j u hu
        rw [add_mk, cell_of_row w b _ cur E fr hb] at h2
        show cur[off + i * 8 + j]? = some u
        rw [Nat.add_assoc]; exact h2
      · rw [List.getElem?_eq_none (by simp; omega)] at hz; cases hz
    · obtain ⟨i, hi, rfl⟩ := List.mem_map.1 hz
      obtain ⟨_, _, _, h1, h2, h3⟩ := hF i (List.mem_range.1 hi)
      exact ⟨h1, h2, h3⟩
end Go.Sl
end
section
/- The walks of the small functions: keep.Within, play.Amount, rate.Money, rate.Of, and the document's Of. -/
namespace Go.Proofs.Ytbaklmlnfdlmmaa
open Go.RowKit Go.Sl
set_option maxHeartbeats 400000

theorem within_calls (v n : Int) (w : World) (h : 0 < n) (hn : n ≤ 9223372036854775807) :
    Calls Try.prog 5 #[.int .i64 v, .int .i64 n] w fun e w' => e = .returned (.int .i64 (within v n)) ∧ w = w' := by
  have h0 : (n == 0) = false := by simp; omega
  have h1 : decide (n < 1) = false := by simp; omega
  by_cases hk : v.tmod n < 0
  · have e := Lib.hid (tmod_emod_neg h hk)
    have hlo : -n < v.tmod n := Int.lt_tmod_of_pos _ h
    go_enter Try.func5, Try.ntmps5
    go_wp2
    go_ret
    exact ⟨by rw [e.out]; rfl, rfl⟩
  · have e := Lib.hid (tmod_emod_pos h hk)
    go_enter Try.func5, Try.ntmps5
    go_wp2
    go_ret
    exact ⟨by rw [e.out]; rfl, rfl⟩

theorem money_calls (n : Int) (w : World) : Calls Try.prog 23 #[.int .i64 n] w fun e w' => e = .returned (.bool (money n)) ∧ w = w' := by
  go_enter Try.func23, Try.ntmps23
  go_wp2
  all_goals
    go_ret
    exact ⟨by simp [money]; omega, rfl⟩

theorem amount_calls (n : Int) (hw : -9223372036854775808 ≤ n ∧ n ≤ 9223372036854775807) (w : World) :
    Calls Try.prog 19 #[.int .i64 n] w fun e w' => e = .returned (.int .i64 (amount n)) ∧ w = w' := by
  obtain ⟨w1, w2⟩ := hw
  have a5 := within_lo (n.tdiv 23) (n := 5) (by omega)
  have b5 := within_hi (n.tdiv 23) (n := 5) (by omega)
  have a2 := within_lo (n.tdiv 23) (n := 200000000001) (by omega)
  have b2 := within_hi (n.tdiv 23) (n := 200000000001) (by omega)
  have a4 := within_lo n (n := 4001) (by omega)
  have b4 := within_hi n (n := 4001) (by omega)
  by_cases c1 : n.tmod 23 = 20
  · have b1 : (n.tmod 23 == 20) = true := by simpa using c1
    have e := Lib.hid (show amount n = 100000000000 - within (n.tdiv 23) 5 + 2 by simp [amount, c1])
    clear c1
    go_enter Try.func19, Try.ntmps19
    go_wp2_with (go_at_call 5; refine (within_calls _ _ _ (by omega) (by omega)).mono ?_; rintro e w' ⟨rfl, rfl⟩)
    go_ret
    exact ⟨by rw [e.out]; rfl, rfl⟩
  have b1 : (n.tmod 23 == 20) = false := by simpa using c1
  by_cases c2 : n.tmod 23 = 21
  · have b1 : (n.tmod 23 == 21) = true := by simpa using c2
    have e := Lib.hid (show amount n = -100000000000 + within (n.tdiv 23) 5 - 2 by simp [amount, c2])
    clear c1 c2
    go_enter Try.func19, Try.ntmps19
    go_wp2_with (go_at_call 5; refine (within_calls _ _ _ (by omega) (by omega)).mono ?_; rintro e w' ⟨rfl, rfl⟩)
    go_ret
    exact ⟨by rw [e.out]; rfl, rfl⟩
  have d1 : (n.tmod 23 == 21) = false := by simpa using c2
  by_cases c3 : n.tmod 23 = 22
  · have b1 : (n.tmod 23 == 22) = true := by simpa using c3
    have e := Lib.hid (show amount n = n by simp [amount, c3])
    clear c1 c2 c3
    go_enter Try.func19, Try.ntmps19
    go_wp2
    go_ret
    exact ⟨by rw [e.out]; rfl, rfl⟩
  have d2 : (n.tmod 23 == 22) = false := by simpa using c3
  by_cases c4 : n.tmod 23 = 19
  · have b1 : (n.tmod 23 == 19) = true := by simpa using c4
    have e := Lib.hid (show amount n = within (n.tdiv 23) 200000000001 - 100000000000 by simp [amount, c4])
    clear c1 c2 c3 c4
    go_enter Try.func19, Try.ntmps19
    go_wp2_with (go_at_call 5; refine (within_calls _ _ _ (by omega) (by omega)).mono ?_; rintro e w' ⟨rfl, rfl⟩)
    go_ret
    exact ⟨by rw [e.out]; rfl, rfl⟩
  · have d3 : (n.tmod 23 == 19) = false := by simpa using c4
    have e := Lib.hid (show amount n = within n 4001 - 2000 by simp [amount, c1, c2, c3, c4])
    clear c1 c2 c3 c4
    go_enter Try.func19, Try.ntmps19
    go_wp2_with (go_at_call 5; refine (within_calls _ _ _ (by omega) (by omega)).mono ?_; rintro e w' ⟨rfl, rfl⟩)
    go_ret
    exact ⟨by rw [e.out]; rfl, rfl⟩

end Go.Proofs.Ytbaklmlnfdlmmaa
end
section
/- append onto a slice that has no room: what it held stands. No program is named here. -/
namespace Go.Sl
open Go Go.RowKit
section
variable {P : Program} {α : Type} {k : Kd α} {h : Hp} {B : Option Addr} {g off : Nat} {xs ys : List α}
theorem run_append_full {w : World} {t ty e : TypeId} {i : TypeInfo} {z : Value} (ht : P.underlying t = some (.slice e)) (hi : P.info? e = some i) (hz : i.zero = some z)
    (hsize : i.size = k.size) (f : k.Flat) (o : Sl k h (some ⟨g, off, none⟩) xs.length xs) (s : h.sub w) (src : Src k Hp.none w B ys) (c : Nat)
    (hm : xs.length + ys.length ≤ maxLen) (hby : (xs.length + ys.length) * i.bytes ≤ 140737488355328) :
    ∃ A' cap' w', (Builtin.append_ #[t, t] ty #[.slice (some ⟨g, off, none⟩) xs.length xs.length, .slice B ys.length c]).run P w = .ok (.slice A' (xs.length + ys.length) cap') w' ∧
      Sl k (Hp.all w') A' cap' (xs ++ ys) ∧ Below w.heap.size w w' := by
  have hsmall : xs.length + ys.length ≤ 9223372036854775807 := by unfold maxLen at hm; omega
  by_cases hy0 : ys = []
  · subst hy0
    refine ⟨some ⟨g, off, none⟩, xs.length, w, ?_, by simpa using o.mono s.le_all, Below.refl _ _⟩
    cases B with
    | none => simp [Builtin.append_, run_underlying ht, sizeOf, typeInfo, hi, Builtin.lenOf, Builtin.firstCells, storeCells]
    | some ad => simp [Builtin.append_, run_underlying ht, sizeOf, typeInfo, hi, Builtin.lenOf, Builtin.firstCells, storeCells, loadCells, loadCellsFrom]
  · have hpos : 0 < ys.length := List.length_pos_iff.2 hy0
    obtain ⟨bb, boff, rfl⟩ : ∃ bb boff, B = some ⟨bb, boff, none⟩ := by
      obtain ⟨b, off, _, e, _⟩ := src.row 0 ys[0] (by simp [hpos])
      exact ⟨_, _, e⟩
    obtain ⟨news, hnl, hnews, hn1, hnK⟩ := src.all
    obtain ⟨olds, hol, holds, _, hoK⟩ := ((o.src s).flat f Hp.none).all
    have hge := grownCap_ge w (xs.length + ys.length) xs.length e
    have hcm : grownCap w (xs.length + ys.length) xs.length e ≤ maxLen := grownCap_le_maxLen w _ _ e hm
    have hr := run_append_grow (P := P) w t ty e i z ht hi hz ⟨g, off, none⟩ xs.length xs.length olds (by rw [hol, hsize]) holds ⟨bb, boff, none⟩ ys.length c news (by rw [hnl, hsize]) hnews (by omega) (by omega) (growslice_fits (by omega) hby)
    refine ⟨_, _, _, hr, ⟨by simp; omega, hcm, (fun e => (nomatch e)), ?_⟩, ?_⟩
    · intro n x hx
      have hnew := heap_alloc_new w.drew (.cells (olds.toArray ++ news.toArray ++ Builtin.zeroCells z.cells (grownCap w (xs.length + ys.length) xs.length e - (xs.length + ys.length))) e)
      by_cases hlt : n < xs.length
      · rw [List.getElem?_append_left hlt] at hx
        obtain ⟨cs, hK, hc⟩ := hoK n x hx
        refine ⟨w.heap.size, 0, _, e, (0, 0), cs, rfl, hnew, f hK, fun j u hu => ?_⟩
        have h2 := hc j u hu
        have h3 := (List.getElem?_eq_some_iff.1 h2).1
        simp only [Nat.zero_add, Array.getElem?_append, Array.size_append, List.size_toArray, List.getElem?_toArray]
        rw [if_pos (by omega), if_pos h3]; exact h2
      · rw [List.getElem?_append_right (by omega)] at hx
        obtain ⟨cs, hK, hc⟩ := hnK _ x hx
        refine ⟨w.heap.size, 0, _, e, (0, 0), cs, rfl, hnew, f hK, fun j u hu => ?_⟩
        have h2 := hc j u hu
        have h3 := (List.getElem?_eq_some_iff.1 h2).1
        have h4 : (n - xs.length) * k.size = n * k.size - xs.length * k.size := Nat.sub_mul _ _ _
        have h5 : xs.length * k.size ≤ n * k.size := Nat.mul_le_mul_right _ (by omega)
        simp only [Nat.zero_add, Array.getElem?_append, Array.size_append, List.size_toArray, List.getElem?_toArray]
        rw [if_pos (by omega), if_neg (by omega), ← h2]; congr 1; omega
    · exact ((Below.refl _ _).drew).alloc (Nat.le_refl _) _
theorem wp_append_full {w : World} {op : Oper} {a : Act} {K : Act → World → Prop} {Q : Exit → Act → World → Prop} (sx xx : Operand) (t : TypeId)
    (ho : op.op = .call { callee := .builtin .append, args := #[sx, xx], argTypes := #[t, t] })
    (e : TypeId) (i : TypeInfo) (z : Value) (ht : P.underlying t = some (.slice e)) (hi : P.info? e = some i) (hz : i.zero = some z)
    (hsize : i.size = k.size) (bytes : Nat) (hbt : i.bytes = bytes) (n m c : Nat) (hn : xs.length = n) (hm' : ys.length = m)
    (hsv : a.eval sx = .slice (some ⟨g, off, none⟩) n n) (hxv : a.eval xx = .slice B m c)
    (f : k.Flat) (o : Sl k h (some ⟨g, off, none⟩) n xs) (s : h.sub w) (src : Src k Hp.none w B ys)
    (hm : n + m ≤ maxLen) (hby : (n + m) * bytes ≤ 140737488355328)
    (H : ∀ A' cap' w', Sl k (Hp.all w') A' cap' (xs ++ ys) → Below w.heap.size w w' → K (a.put op.dst (.slice A' (n + m) cap')) w') : op.wp P a w K Q := by
  subst hn
  subst hm'
  subst hbt
  obtain ⟨A', cap', w', hr, h1, h2⟩ := run_append_full (P := P) (ty := op.type) ht hi hz hsize f o s src c hm hby
  unfold Oper.wp execOp
  simp only [ho, resolve, invoke, builtin, Sem.run_bind, Sem.run_pure, Result.andThen_ok, List.map_toArray, List.map_cons, List.map_nil, hsv, hxv, hr]
  exact H A' cap' w' h1 h2
theorem step_append_full {w : World} {ops : Array Oper} {op : Oper} {a : Act} {K : Act → World → Prop} {Q : Exit → Act → World → Prop} {E : Prop} (hgd : op.guard = none) (sx xx : Operand) (t : TypeId)
    (ho : op.op = .call { callee := .builtin .append, args := #[sx, xx], argTypes := #[t, t] })
    (e : TypeId) (i : TypeInfo) (z : Value) (ht : P.underlying t = some (.slice e)) (hi : P.info? e = some i) (hz : i.zero = some z)
    (hsize : i.size = k.size) (bytes : Nat) (hbt : i.bytes = bytes) (n m c : Nat) (hn : xs.length = n) (hm' : ys.length = m)
    (hsv : a.eval sx = .slice (some ⟨g, off, none⟩) n n) (hxv : a.eval xx = .slice B m c)
    (f : k.Flat) (o : Sl k h (some ⟨g, off, none⟩) n xs) (s : h.sub w) (src : Src k Hp.none w B ys)
    (hm : n + m ≤ maxLen) (hby : (n + m) * bytes ≤ 140737488355328)
    (H : ∀ A' cap' w', Sl k (Hp.all w') A' cap' (xs ++ ys) → Below w.heap.size w w' → K (a.put op.dst (.slice A' (n + m) cap')) w') :
    if Region.wanted op (yielded ops a.tmps) = true then Oper.wp P op a w K Q else E := by
  rw [if_pos (by simp [Region.wanted, hgd])]
  exact wp_append_full sx xx t ho e i z ht hi hz hsize bytes hbt n m c hn hm' hsv hxv f o s src hm hby H
/-- A slice, cut short, may hold no more. -/
theorem Sl.cut {A : Option Addr} {cap : Nat} (o : Sl k h A cap xs) {n : Nat} (hn : n ≤ xs.length) : Sl k h A n (xs.take n) := by
  have hle := o.le
  have hmx := o.max
  refine ⟨by rw [List.length_take]; omega, by omega, fun e => by have := o.nil e; omega, fun i x hx => ?_⟩
  rw [List.getElem?_take] at hx
  split at hx
  · exact o.row i x hx
  · cases hx
/-- What lies behind the first n, as a slice expression has it. -/
theorem Sl.behind {cap : Nat} (s : Sl k h (some ⟨g, off, .none⟩) cap xs) (n : Nat) : Sl k h (if cap = n then some ⟨g, off, .none⟩ else some ⟨g, off + n * k.size, .none⟩) (cap - n) (xs.drop n) := by
  split
  · have := s.le
    rw [List.drop_eq_nil_of_le (by omega)]
    exact ⟨by simp, by have := s.max; omega, (fun e => nomatch e), fun i x hx => by simp at hx⟩
  · exact s.drop rfl n
end
end Go.Sl
end
section
/- More of the library for walks: append of one new element, clones, pointers to structs. No program is named here. -/
namespace Go.Sl
open Go Go.RowKit
section
variable {P : Program} {α : Type} {k : Kd α} {h hx : Hp} {A B : Option Addr} {cap : Nat} {xs ys : List α} {w : World}
/-- What the table says of an element's type. -/
def Info (P : Program) (e : TypeId) (z : Value) (size bytes : Nat) : Prop := (P.info? e).map (fun i => (i.zero, i.size, i.bytes)) = some (some z, size, bytes)
theorem wp_app1 {op : Oper} {a : Act} {K : Act → World → Prop} {Q : Exit → Act → World → Prop} {sx xx : Operand} {t e : TypeId} {z : Value} {bytes : Nat} {y : α} {cs : List Value} {T : TypeId} {fr : Nat × Nat} {b : Nat}
    (ht : P.underlying t = some (.slice e)) (hinfo : Info P e z k.size bytes) (hzs : z.cells.size = k.size)
    (ho : op.op = .call { callee := .builtin .append, args := #[sx, xx], argTypes := #[t, t] }) (n c : Nat) (hsv : a.eval sx = .slice A n cap) (hxv : a.eval xx = .slice (some ⟨b, 0, none⟩) 1 c)
    (hn : xs.length = n) (o : Ow k h A cap xs) (s : h.sub w) (hb : w.heap[b]? = some (.cells cs.toArray T fr)) (hK : k.K hx y cs) (sx' : hx.sub w) (ap : h.apart hx)
    (hm : n + 1 ≤ 1000000000) (hby : bytes ≤ 1000)
    (H : ∀ A' cap' w' h', Ow k h' A' cap' (xs ++ [y]) → Upd (h.or hx) h' w w' → K (a.put op.dst (.slice A' (n + 1) cap')) w') : op.wp P a w K Q := by
  unfold Info at hinfo
  obtain ⟨i, hi, hz0, hz1, hz2⟩ := info_parts hinfo
  refine wp_append sx xx t ho e i z ht hi hz0 hz1 hzs bytes hz2 n 1 c hn rfl hsv hxv o s (Src.new hb hK) sx' ap (by unfold maxLen; omega) ?_ H
  have : (n + 1) * bytes ≤ 1000000000 * 1000 := Nat.mul_le_mul hm hby
  omega
theorem wpList_app1 {ops : Array Oper} {rest : List Oper} {op : Oper} {a : Act} {Q : Exit → Act → World → Prop} {sx xx : Operand} {t e : TypeId} {z : Value} {bytes : Nat} {y : α} {cs : List Value} {T : TypeId} {fr : Nat × Nat} {b : Nat}
    (ht : P.underlying t = some (.slice e)) (hinfo : Info P e z k.size bytes) (hzs : z.cells.size = k.size) (hgd : Region.wanted op (yielded ops a.tmps) = true)
    (ho : op.op = .call { callee := .builtin .append, args := #[sx, xx], argTypes := #[t, t] }) (n c : Nat) (hsv : a.eval sx = .slice A n cap) (hxv : a.eval xx = .slice (some ⟨b, 0, none⟩) 1 c)
    (hn : xs.length = n) (o : Ow k h A cap xs) (s : h.sub w) (hb : w.heap[b]? = some (.cells cs.toArray T fr)) (hK : k.K hx y cs) (sx' : hx.sub w) (ap : h.apart hx)
    (hm : n + 1 ≤ 1000000000) (hby : bytes ≤ 1000)
    (H : ∀ A' cap' w' h', Ow k h' A' cap' (xs ++ [y]) → Upd (h.or hx) h' w w' → wpList P ops Q rest (a.put op.dst (.slice A' (n + 1) cap')) w') : wpList P ops Q (op :: rest) a w := by
  simp only [wpList, hgd, if_true]
  exact .inl (wp_app1 ht hinfo hzs ho n c hsv hxv hn o s hb hK sx' ap hm hby H)
theorem step_app1 {ops : Array Oper} {op : Oper} {a : Act} {K : Act → World → Prop} {Q : Exit → Act → World → Prop} {E : Prop} {sx xx : Operand} {t e : TypeId} {z : Value} {bytes : Nat} {y : α} {cs : List Value} {T : TypeId} {fr : Nat × Nat} {b : Nat}
    (ht : P.underlying t = some (.slice e)) (hinfo : Info P e z k.size bytes) (hzs : z.cells.size = k.size) (hgd : op.guard = none)
    (ho : op.op = .call { callee := .builtin .append, args := #[sx, xx], argTypes := #[t, t] }) (n c : Nat) (hsv : a.eval sx = .slice A n cap) (hxv : a.eval xx = .slice (some ⟨b, 0, none⟩) 1 c)
    (hn : xs.length = n) (o : Ow k h A cap xs) (s : h.sub w) (hb : w.heap[b]? = some (.cells cs.toArray T fr)) (hK : k.K hx y cs) (sx' : hx.sub w) (ap : h.apart hx)
    (hm : n + 1 ≤ 1000000000) (hby : bytes ≤ 1000)
    (H : ∀ A' cap' w' h', Ow k h' A' cap' (xs ++ [y]) → Upd (h.or hx) h' w w' → K (a.put op.dst (.slice A' (n + 1) cap')) w') :
    if Region.wanted op (yielded ops a.tmps) = true then Oper.wp P op a w K Q else E := by
  rw [if_pos (by simp [Region.wanted, hgd])]
  exact wp_app1 ht hinfo hzs ho n c hsv hxv hn o s hb hK sx' ap hm hby H
/-- The same for elements whose cells say all. -/
theorem wpList_app1f {ops : Array Oper} {rest : List Oper} {op : Oper} {a : Act} {Q : Exit → Act → World → Prop} {sx xx : Operand} {t e : TypeId} {z : Value} {bytes : Nat} {y : α} {cs : List Value} {T : TypeId} {fr : Nat × Nat} {b : Nat}
    (ht : P.underlying t = some (.slice e)) (hinfo : Info P e z k.size bytes) (hzs : z.cells.size = k.size) (hgd : Region.wanted op (yielded ops a.tmps) = true)
    (ho : op.op = .call { callee := .builtin .append, args := #[sx, xx], argTypes := #[t, t] }) (n c : Nat) (hsv : a.eval sx = .slice A n cap) (hxv : a.eval xx = .slice (some ⟨b, 0, none⟩) 1 c)
    (hn : xs.length = n) (o : Ow k h A cap xs) (s : h.sub w) (hb : w.heap[b]? = some (.cells cs.toArray T fr)) (hK : k.K Hp.none y cs)
    (hm : n + 1 ≤ 1000000000) (hby : bytes ≤ 1000)
    (H : ∀ A' cap' w' h', Ow k h' A' cap' (xs ++ [y]) → Upd h h' w w' → wpList P ops Q rest (a.put op.dst (.slice A' (n + 1) cap')) w') : wpList P ops Q (op :: rest) a w :=
  wpList_app1 ht hinfo hzs hgd ho n c hsv hxv hn o s hb hK (Hp.none_sub _) (Hp.apart_none _) hm hby fun A' cap' w' h' h1 h2 => H A' cap' w' h' h1 h2.flat
theorem step_app1f {ops : Array Oper} {op : Oper} {a : Act} {K : Act → World → Prop} {Q : Exit → Act → World → Prop} {E : Prop} {sx xx : Operand} {t e : TypeId} {z : Value} {bytes : Nat} {y : α} {cs : List Value} {T : TypeId} {fr : Nat × Nat} {b : Nat}
    (ht : P.underlying t = some (.slice e)) (hinfo : Info P e z k.size bytes) (hzs : z.cells.size = k.size) (hgd : op.guard = none)
    (ho : op.op = .call { callee := .builtin .append, args := #[sx, xx], argTypes := #[t, t] }) (n c : Nat) (hsv : a.eval sx = .slice A n cap) (hxv : a.eval xx = .slice (some ⟨b, 0, none⟩) 1 c)
    (hn : xs.length = n) (o : Ow k h A cap xs) (s : h.sub w) (hb : w.heap[b]? = some (.cells cs.toArray T fr)) (hK : k.K Hp.none y cs)
    (hm : n + 1 ≤ 1000000000) (hby : bytes ≤ 1000)
    (H : ∀ A' cap' w' h', Ow k h' A' cap' (xs ++ [y]) → Upd h h' w w' → K (a.put op.dst (.slice A' (n + 1) cap')) w') :
    if Region.wanted op (yielded ops a.tmps) = true then Oper.wp P op a w K Q else E :=
  step_app1 ht hinfo hzs hgd ho n c hsv hxv hn o s hb hK (Hp.none_sub _) (Hp.apart_none _) hm hby fun A' cap' w' h' h1 h2 => H A' cap' w' h' h1 h2.flat
/-- append of a whole slice of flat elements. -/
theorem wpList_appF {ops : Array Oper} {rest : List Oper} {op : Oper} {a : Act} {Q : Exit → Act → World → Prop} {sx xx : Operand} {t e : TypeId} {z : Value} {bytes cb : Nat}
    (ht : P.underlying t = some (.slice e)) (hinfo : Info P e z k.size bytes) (hzs : z.cells.size = k.size) (hgd : Region.wanted op (yielded ops a.tmps) = true)
    (ho : op.op = .call { callee := .builtin .append, args := #[sx, xx], argTypes := #[t, t] }) (n m c : Nat) (hsv : a.eval sx = .slice A n cap) (hxv : a.eval xx = .slice B m c)
    (hn : xs.length = n) (hm' : ys.length = m) (f : k.Flat) (o : Ow k h A cap xs) (s : h.sub w) (sy : Sl k hx B cb ys) (sx' : hx.sub w)
    (hm : n + m ≤ 1000000000) (hby : bytes ≤ 1000)
    (H : ∀ A' cap' w' h', Ow k h' A' cap' (xs ++ ys) → Upd h h' w w' → wpList P ops Q rest (a.put op.dst (.slice A' (n + m) cap')) w') : wpList P ops Q (op :: rest) a w := by
  unfold Info at hinfo
  obtain ⟨i, hi, hz0, hz1, hz2⟩ := info_parts hinfo
  refine wpList_append_g hgd sx xx t ho e i z ht hi hz0 hz1 hzs bytes hz2 n m c hn hm' hsv hxv o s ((sy.src sx').flat f Hp.none) (Hp.none_sub _) (Hp.apart_none _) (by unfold maxLen; omega) ?_ (fun A' cap' w' h' h1 h2 => H A' cap' w' h' h1 h2.flat)
  have : (n + m) * bytes ≤ 1000000000 * 1000 := Nat.mul_le_mul hm hby
  omega
/-- append(s[:0:0], s...): a copy in new memory. -/
theorem wpList_clone {ops : Array Oper} {rest : List Oper} {op : Oper} {a : Act} {Q : Exit → Act → World → Prop} {sx xx : Operand} {t e : TypeId} {z : Value} {bytes : Nat}
    (ht : P.underlying t = some (.slice e)) (hinfo : Info P e z k.size bytes) (hzs : z.cells.size = k.size) (hgd : Region.wanted op (yielded ops a.tmps) = true)
    (ho : op.op = .call { callee := .builtin .append, args := #[sx, xx], argTypes := #[t, t] }) (n c : Nat) (hsv : a.eval sx = .slice B 0 0) (hxv : a.eval xx = .slice A n c)
    (hn : xs.length = n) (f : k.Flat) (o : Sl k h A cap xs) (s : h.sub w) (hm : n ≤ 1000000000) (hby : bytes ≤ 1000)
    (H : ∀ A' cap' w' h', Ow k h' A' cap' xs → Upd Hp.none h' w w' → wpList P ops Q rest (a.put op.dst (.slice A' n cap')) w') : wpList P ops Q (op :: rest) a w := by
  unfold Info at hinfo
  obtain ⟨i, hi, hz0, hz1, hz2⟩ := info_parts hinfo
  refine wpList_append_g hgd sx xx t ho e i z ht hi hz0 hz1 hzs bytes hz2 0 n c rfl hn hsv hxv (Ow.zero k Hp.none B) (Hp.none_sub _) ((o.src s).flat f Hp.none) (Hp.none_sub _) (Hp.apart_none _) (by unfold maxLen; omega) ?_ ?_
  · have : (0 + n) * bytes ≤ 1000000000 * 1000 := Nat.mul_le_mul (by omega) hby
    omega
  · intro A' cap' w' h' h1 h2
    rw [Nat.zero_add]
    exact H A' cap' w' h' h1 h2.flat
end
/-- A pointer's block, wholly h's: a struct of the kind k. -/
def Pt {α : Type} (k : Kd α) (T : TypeId) (h : Hp) (b : Nat) (x : α) : Prop := ∃ cs : List Value, h b = some (.cells cs.toArray T (0, 0)) ∧ k.K (h.del b) x cs
section
variable {α : Type} {k : Kd α} {h : Hp} {T : TypeId} {b : Nat} {x : α} {w : World}
theorem Pt.block (p : Pt k T h b x) (s : h.sub w) : ∃ cs : List Value, w.heap[b]? = some (.cells cs.toArray T (0, 0)) ∧ k.K (h.del b) x cs := by
  obtain ⟨cs, h1, h2⟩ := p; exact ⟨cs, s b _ h1, h2⟩
theorem Hp.sub.del {h : Hp} {w : World} (s : h.sub w) (b : Nat) : (h.del b).sub w := s.le (Hp.del_le h b)
theorem Hp.put_sub {h : Hp} {b : Nat} {o : Obj} {w : World} (s : h.sub w) (e : w.heap[b]? = some o) : (h.put b o).sub w := fun q o' e' => by
  simp only [Hp.put] at e'
  split at e'
  · rename_i hq; cases e'; rw [hq]; exact e
  · exact s q o' e'
theorem Hp.put_del {h : Hp} {b : Nat} {o : Obj} (e : h b = Option.none) : (h.put b o).del b = h := by
  funext q; simp only [Hp.del, Hp.put]; split
  · rename_i hq; rw [hq, e]
  · rfl
theorem Hp.put_self {h : Hp} {b : Nat} {o : Obj} : (h.put b o) b = some o := if_pos rfl
theorem Hp.del_self {h : Hp} {b : Nat} : (h.del b) b = Option.none := if_pos rfl
/-- A new block beside what is there. -/
theorem Pt.new {cs : List Value} {x : α} (n : h b = Option.none) (hK : k.K h x cs) : Pt k T (h.put b (.cells cs.toArray T)) b x :=
  ⟨cs, Hp.put_self, by rw [Hp.put_del n]; exact hK⟩
/-- What was made before, eaten by a change. -/
theorem Upd.eat {hx hl hl' : Hp} {w0 w1 : World} (u : Upd Hp.none hx w w0) (v : Upd (hl.or hx) hl' w0 w1) : Upd hl hl' w w1 :=
  ⟨v.os.trans u.os, v.tape.trans u.tape, v.output.trans u.output, Nat.le_trans u.size v.size,
    fun q hq hn => (v.keep q (Nat.lt_of_lt_of_le hq u.size) (by simp [Hp.or, hn, u.new_none hq])).trans (u.keep q hq rfl), v.sub, fun q hq => by
      rcases v.dom q hq with h1 | h1
      · by_cases hn : hl q = .none
        · simp only [Hp.or, hn, Option.none_or] at h1
          rcases u.dom q h1 with h2 | h2
          · exact absurd rfl h2
          · exact .inr h2
        · exact .inl hn
      · exact .inr (Nat.le_trans u.size h1)⟩
/-- A block of the part is stored into, behind a change of the rest. -/
theorem Upd.field {hr r' : Hp} {w1 : World} {cs : List Value} {v : Value} (j : Nat) (hb : h b = some (.cells cs.toArray T (0, 0))) (s : h.sub w) (hr' : hr.le (h.del b)) (u : Upd hr r' w w1) :
    Upd h (r'.put b (.cells (cs.set j v).toArray T (0, 0))) w (w1.setCell ⟨b, j, .none⟩ v) ∧ r' b = .none := by
  have hbw := s b _ hb
  have hlt := s.lt (b := b) (by simp [hb])
  have hrn : hr b = .none := by
    cases hh : hr b with
    | none => rfl
    | some o => have := hr' b o hh; simp [Hp.del] at this
  have hb1 : w1.heap[b]? = some (.cells cs.toArray T (0, 0)) := (u.keep b hlt hrn).trans hbw
  have e1 : w1.setCell ⟨b, j, .none⟩ v = w1.setRow b (cs.toArray.setIfInBounds j v) := setCell_eq_setRow w1 b _ _ T (0, 0) v hb1
  have e2 : cs.toArray.setIfInBounds j v = (cs.set j v).toArray := by simp
  have hr0 : r' b = .none := by
    cases hh : r' b with
    | none => rfl
    | some o =>
      rcases u.dom b (by simp [hh]) with h1 | h1
      · exact absurd hrn h1
      · omega
  rw [e1, e2]
  refine ⟨⟨u.os, u.tape, u.output, by simpa using u.size, fun q hq hn => ?_, ?_, fun q hq => ?_⟩, hr0⟩
  · have hqb : q ≠ b := fun e => by rw [e, hb] at hn; cases hn
    rw [setRow_other w1 b q _ hqb]
    refine u.keep q hq ?_
    cases hh : hr q with
    | none => rfl
    | some o => have := Hp.del_le h b q o (hr' q o hh); rw [hn] at this; cases this
  · intro q o2 e2
    simp only [Hp.put] at e2
    split at e2
    · rename_i hq; cases e2; rw [hq]; exact setRow_heap w1 b _ _ T _ hb1
    · rename_i hq; rw [setRow_other w1 b q _ hq]; exact u.sub q o2 e2
  · simp only [Hp.put] at hq
    split at hq
    · rename_i hq2; left; rw [hq2, hb]; simp
    · rcases u.dom q hq with h1 | h1
      · left
        cases hh : hr q with
        | none => exact absurd hh h1
        | some o => rw [Hp.del_le h b q o (hr' q o hh)]; simp
      · exact .inr h1
end
/-- All that stood below reads as it did. -/
theorem bcell {W w1 : World} (hb : Below W.heap.size W w1) : (∀ b o, b < W.heap.size → w1.cell? ⟨b, o, .none⟩ = W.cell? ⟨b, o, .none⟩) ∧ (∀ b o, b < W.heap.size → w1.frozen? ⟨b, o, .none⟩ = W.frozen? ⟨b, o, .none⟩) :=
  ⟨fun b o h => hb.cell (p := ⟨b, o, .none⟩) h, fun b o h => hb.frozen (p := ⟨b, o, .none⟩) h⟩
/-- A store into a block of the call's own that is not told. -/
theorem Upd.setNew {h h' : Hp} {w w1 : World} {b j : Nat} {v : Value} (u : Upd h h' w w1) (hb : w.heap.size ≤ b) (hn : h' b = .none) : Upd h h' w (w1.setCell ⟨b, j, .none⟩ v) := by
  have B : ∀ q, q ≠ b → (w1.setCell ⟨b, j, .none⟩ v).heap[q]? = w1.heap[q]? := fun q hq => Below.heap_setCell w1 ⟨b, j, .none⟩ v q hq
  have S : (w1.setCell ⟨b, j, .none⟩ v).heap.size = w1.heap.size := by simp
  have G : Below b w1 (w1.setCell ⟨b, j, .none⟩ v) := (Below.refl b w1).setCell (Nat.le_refl _) v
  refine ⟨G.os.trans u.os, G.tape.trans u.tape, G.output.trans u.output, by rw [S]; exact u.size, fun q hq hn => ?_, fun q o e => ?_, u.dom⟩
  · rw [B q (by omega)]; exact u.keep q hq hn
  · rw [B q (fun e2 => by rw [e2, hn] at e; cases e)]; exact u.sub q o e
theorem Upd.frozen {h h' : Hp} {w w' : World} (u : Upd h h' w w') {p : Addr} (hp : p.block < w.heap.size) (hn : h p.block = .none) : w'.frozen? p = w.frozen? p :=
  World.frozen?_of_block (w := w) (u.keep p.block hp hn)
theorem frozen_alloc {w : World} {o : Obj} {b n : Nat} (h : b < w.heap.size) : (w.alloc o).frozen? ⟨b, n, .none⟩ = w.frozen? ⟨b, n, .none⟩ := ((Below.refl _ _).alloc (Nat.le_refl _) o).frozen h
theorem cell_alloc {w : World} {o : Obj} {b n : Nat} (h : b < w.heap.size) : (w.alloc o).cell? ⟨b, n, .none⟩ = w.cell? ⟨b, n, .none⟩ := ((Below.refl _ _).alloc (Nat.le_refl _) o).cell h
theorem cell_new {w : World} {cs : Array Value} {T : TypeId} {b i : Nat} (hb : b = w.heap.size) : (w.alloc (.cells cs T)).cell? ⟨b, i, .none⟩ = cs[i]? := cell_of_row _ b i cs T (0, 0) (heap_new_at hb)
end Go.Sl
end
