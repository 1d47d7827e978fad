/- Walks and plain facts that the laws of this seat share, part 1: contracts of functions, each said at its theorem. -/
import Derived.Test.YtdcfojohgcmpcaaPk0
import Derived.Test.YtdcfojohgcmpcaaRows
import Derived.WalkKit
import Derived.ProofKit
import Derived.OpenShut
import Derived.ShutString
import Derived.ChangeOld
import Derived.Below
import Derived.SizedLaws
import Derived.Deep.Slices
import Derived.ChangeShapes
import Derived.ChangeArms
import Derived.Lib.Bytealg
set_option linter.all false
section
/- The program's structs as plain Lean, and how each lies in memory. No program is named here. -/
namespace Go.Sl
open Go Go.RowKit

def kInt : Kd Int := Kd.flat 1 (fun x => [.int .i64 x]) (by decide) (fun _ => rfl) (fun x u h => by simp at h; subst h; rfl)
theorem kInt_flat : kInt.Flat := Kd.flat_flat

/-- An item; a line is of the same make. -/
structure SItem where
  kind : Int
  amt : Int
instance : DecidableEq SItem := fun a b => decidable_of_iff (a.kind = b.kind ∧ a.amt = b.amt) (by cases a; cases b; simp)
instance : Inhabited SItem := ⟨⟨0, 0⟩⟩
def SItem.cells (x : SItem) : List Value := [.int .i64 x.kind, .int .i64 x.amt]
def kItem : Kd SItem := Kd.flat 2 SItem.cells (by decide) (fun _ => rfl) (fun x u h => by simp [SItem.cells] at h; rcases h with rfl | rfl <;> rfl)
theorem kItem_flat : kItem.Flat := Kd.flat_flat

/-- A bucket; a vintage is of the same make. -/
structure STri where
  a : Int
  b : Int
  c : Int
instance : DecidableEq STri := fun x y => decidable_of_iff (x.a = y.a ∧ x.b = y.b ∧ x.c = y.c) (by cases x; cases y; simp)
instance : Inhabited STri := ⟨⟨0, 0, 0⟩⟩
def STri.cells (x : STri) : List Value := [.int .i64 x.a, .int .i64 x.b, .int .i64 x.c]
def kTri : Kd STri := Kd.flat 3 STri.cells (by decide) (fun _ => rfl) (fun x u h => by simp [STri.cells] at h; rcases h with rfl | rfl | rfl <;> rfl)
theorem kTri_flat : kTri.Flat := Kd.flat_flat

theorem get_of_lt {α : Type} {xs : List α} {i : Nat} (h : i < xs.length) : xs[i]? = some xs[i] := by simp [h]

theorem some_of_lt {α : Type} {xs : List α} {i : Nat} (h : i < xs.length) : ∃ x, Hid (xs[i]? = some x) := ⟨_, get_of_lt h⟩
theorem take_next {α : Type} {xs : List α} {i : Nat} {x : α} (h : Hid (xs[i]? = some x)) : xs.take (i + 1) = xs.take i ++ [x] := by
  have h2 := (List.getElem?_eq_some_iff.1 h.out)
  rw [List.take_succ_eq_append_getElem h2.1, h2.2]

/-- The cell of a whole number in a slice of whole numbers. -/
theorem Sl.int {h : Hp} {A : Option Addr} {cap : Nat} {xs : List Int} {w : World} (s : Sl kInt h A cap xs) (hs : h.sub w) {i : Nat} {x : Int} (hx : Hid (xs[i]? = some x)) :
    ∃ b off, A = some ⟨b, off, .none⟩ ∧ w.cell? ⟨b, off + i, .none⟩ = some (.int .i64 x) := by
  obtain ⟨b, off, cs, e, hK, _, hc⟩ := s.at hs hx.out
  have hK' : cs = [.int .i64 x] := hK
  subst hK'
  exact ⟨b, off, e, by simpa [kInt, Kd.flat] using hc 0 _ rfl⟩
theorem Sl.item {h : Hp} {A : Option Addr} {cap : Nat} {xs : List SItem} {w : World} (s : Sl kItem h A cap xs) (hs : h.sub w) {i : Nat} {x : SItem} (hx : Hid (xs[i]? = some x)) :
    ∃ b off, A = some ⟨b, off, .none⟩ ∧ w.cell? ⟨b, off + i * 2, .none⟩ = some (.int .i64 x.kind) ∧ w.cell? ⟨b, off + i * 2 + 1, .none⟩ = some (.int .i64 x.amt) := by
  obtain ⟨b, off, cs, e, hK, _, hc⟩ := s.at hs hx.out
  have hK' : cs = SItem.cells x := hK
  subst hK'
  exact ⟨b, off, e, by simpa [kItem, Kd.flat] using hc 0 _ rfl, hc 1 _ rfl⟩
theorem Sl.tri {h : Hp} {A : Option Addr} {cap : Nat} {xs : List STri} {w : World} (s : Sl kTri h A cap xs) (hs : h.sub w) {i : Nat} {x : STri} (hx : Hid (xs[i]? = some x)) :
    ∃ b off, A = some ⟨b, off, .none⟩ ∧ w.cell? ⟨b, off + i * 3, .none⟩ = some (.int .i64 x.a) ∧ w.cell? ⟨b, off + i * 3 + 1, .none⟩ = some (.int .i64 x.b) ∧ w.cell? ⟨b, off + i * 3 + 2, .none⟩ = some (.int .i64 x.c) := by
  obtain ⟨b, off, cs, e, hK, _, hc⟩ := s.at hs hx.out
  have hK' : cs = STri.cells x := hK
  subst hK'
  exact ⟨b, off, e, by simpa [kTri, Kd.flat] using hc 0 _ rfl, hc 1 _ rfl, hc 2 _ rfl⟩

theorem map_set_step {α : Type} (f : α → α) : ∀ (xs : List α) (j : Nat) (x : α), xs[j]? = some x → ((xs.take j).map f ++ xs.drop j).set j (f x) = (xs.take (j + 1)).map f ++ xs.drop (j + 1)
  | [], j, x, h => by simp at h
  | y :: ys, 0, x, h => by simp at h; subst h; simp
  | y :: ys, j + 1, x, h => by
    have := map_set_step f ys j x (by simpa using h)
    simp only [List.take_succ_cons, List.map_cons, List.drop_succ_cons, List.cons_append, List.set_cons_succ, this]
theorem map_get_step {α : Type} (f : α → α) : ∀ (xs : List α) (j : Nat), ((xs.take j).map f ++ xs.drop j)[j]? = xs[j]?
  | [], j => by simp
  | y :: ys, 0 => by simp
  | y :: ys, j + 1 => by simpa using map_get_step f ys j

/-- '!=' as a Bool that no tactic looks into. -/
def neB {α : Type} [DecidableEq α] (x y : α) : Bool := !decide (x = y)
theorem neB_t {α : Type} [DecidableEq α] {x y : α} (h : x ≠ y) : neB x y = true := by simp [neB, h]
theorem neB_f {α : Type} [DecidableEq α] {x y : α} (h : x = y) : neB x y = false := by simp [neB, h]
/-- '==' as a Bool that no tactic looks into. -/
def eqB {α : Type} [DecidableEq α] (x y : α) : Bool := decide (x = y)
theorem eqB_t {α : Type} [DecidableEq α] {x y : α} (h : x = y) : eqB x y = true := by simp [eqB, h]
theorem eqB_f {α : Type} [DecidableEq α] {x y : α} (h : x ≠ y) : eqB x y = false := by simp [eqB, h]
theorem take_both {α : Type} {xs ys : List α} {j : Nat} {x y : α} (h1 : Hid (xs[j]? = some x)) (h2 : Hid (ys[j]? = some y)) :
    Hid (xs.take (j + 1) = ys.take (j + 1)) ↔ (Hid (xs.take j = ys.take j) ∧ x = y) := by
  have l1 := (List.getElem?_eq_some_iff.1 h1.out).1
  have l2 := (List.getElem?_eq_some_iff.1 h2.out).1
  unfold Hid
  rw [take_next h1, take_next h2]
  constructor
  · intro e
    have := List.append_inj e (by simp; omega)
    exact ⟨this.1, by simpa using this.2⟩
  · rintro ⟨e1, e2⟩; rw [e1, e2]

theorem Sl.litItem {h : Hp} {b n : Nat} {t : TypeId} {fr : Nat × Nat} {xs : List SItem} (hb : h b = some (.cells (xs.flatMap SItem.cells).toArray t fr)) (hn : xs.length = n) (hm : n ≤ maxLen) : Sl kItem h (some ⟨b, 0, .none⟩) n xs := by
  subst hn; exact Sl.lit hb hm
theorem Sl.litTri {h : Hp} {b n : Nat} {t : TypeId} {fr : Nat × Nat} {xs : List STri} (hb : h b = some (.cells (xs.flatMap STri.cells).toArray t fr)) (hn : xs.length = n) (hm : n ≤ maxLen) : Sl kTri h (some ⟨b, 0, .none⟩) n xs := by
  subst hn; exact Sl.lit hb hm
theorem Sl.litInt {h : Hp} {b n : Nat} {t : TypeId} {fr : Nat × Nat} {xs : List Int} (hb : h b = some (.cells (xs.flatMap fun x => [Value.int .i64 x]).toArray t fr)) (hn : xs.length = n) (hm : n ≤ maxLen) : Sl kInt h (some ⟨b, 0, .none⟩) n xs := by
  subst hn; exact Sl.lit hb hm

/-- Is an amount not too great to be converted? -/
def nearB (n : Int) : Bool := decide (-400000000000 ≤ n ∧ n ≤ 400000000000)
def sumAmt (xs : List SItem) : Int := (xs.map (·.amt)).sum
def convItems (xs : List SItem) (fx : Int) : List SItem := xs.map fun x => ⟨x.kind, partOf x.amt fx⟩
theorem sumAmt_snoc (xs : List SItem) (x : SItem) : sumAmt (xs ++ [x]) = sumAmt xs + x.amt := by simp [sumAmt]
theorem convItems_snoc (xs : List SItem) (x : SItem) (fx : Int) : convItems (xs ++ [x]) fx = convItems xs fx ++ [⟨x.kind, partOf x.amt fx⟩] := by simp [convItems]
theorem convItems_length (xs : List SItem) (fx : Int) : (convItems xs fx).length = xs.length := by simp [convItems]
theorem sumAmt_bd {b : Int} (hb : 0 ≤ b) : ∀ (xs : List SItem), (∀ x ∈ xs, -b ≤ x.amt ∧ x.amt ≤ b) → -(xs.length * b) ≤ sumAmt xs ∧ sumAmt xs ≤ xs.length * b
  | [], _ => by simp [sumAmt]
  | x :: xs, h => by
    have h1 := sumAmt_bd hb xs (fun y hy => h y (by simp [hy]))
    have h2 := h x (by simp)
    have e : sumAmt (x :: xs) = x.amt + sumAmt xs := by simp [sumAmt]
    rw [e]
    simp only [List.length_cons, Int.natCast_add, Int.add_mul, Int.natCast_one, Int.one_mul]
    omega

theorem partOf_one (n : Int) : partOf n 1000000 = n := by
  rcases Int.le_total 0 n with h | h
  · rw [partOf_pos h (by omega)]; omega
  · rw [partOf_neg h (by omega)]; omega
/-- How far a rounded part is from the part. -/
theorem partOf_err (n r : Int) (hr : 0 ≤ r) : -1000000 ≤ 2000000 * partOf n r - 2 * (n * r) ∧ 2000000 * partOf n r - 2 * (n * r) ≤ 1000000 := by
  rcases Int.le_total 0 n with h | h
  · rw [partOf_pos h hr]; omega
  · rw [partOf_neg h hr, Int.neg_mul]; omega
theorem conv_err (r : Int) (hr : 0 ≤ r) : ∀ xs : List SItem, -(xs.length * 1000000) ≤ 2000000 * sumAmt (convItems xs r) - 2 * (sumAmt xs * r) ∧ 2000000 * sumAmt (convItems xs r) - 2 * (sumAmt xs * r) ≤ xs.length * 1000000
  | [] => by simp [sumAmt, convItems]
  | x :: xs => by
    have h1 := conv_err r hr xs
    have h2 := partOf_err x.amt r hr
    have e1 : sumAmt (x :: xs) = x.amt + sumAmt xs := by simp [sumAmt]
    have e2 : sumAmt (convItems (x :: xs) r) = partOf x.amt r + sumAmt (convItems xs r) := by simp [sumAmt, convItems]
    rw [e1, e2, Int.add_mul]
    simp only [List.length_cons, Int.natCast_add, Int.natCast_one]
    omega
/-- The difference that rounding leaves is at most half a unit for each, and one. -/
theorem conv_diff (xs : List SItem) (r : Int) (hr : 0 ≤ r) : 2 * (partOf (sumAmt xs) r - sumAmt (convItems xs r)) ≤ xs.length + 1 ∧ -(xs.length : Int) - 1 ≤ 2 * (partOf (sumAmt xs) r - sumAmt (convItems xs r)) := by
  have h1 := conv_err r hr xs
  have h2 := partOf_err (sumAmt xs) r hr
  omega
theorem convItems_one (xs : List SItem) : convItems xs 1000000 = xs := by
  unfold convItems
  conv => rhs; rw [← List.map_id xs]
  refine List.map_congr_left fun x _ => ?_
  rw [partOf_one]; rfl

theorem tl_loop (a : ByteArray) : ∀ (n i : Nat) (r : List UInt8), a.size - i = n → ByteArray.toList.loop a i r = r.reverse ++ a.data.toList.drop i
  | 0, i, r, h => by
    unfold ByteArray.toList.loop
    rw [if_neg (by omega), List.drop_of_length_le (by show a.data.size ≤ i; have : a.size = a.data.size := rfl; omega)]; simp
  | n + 1, i, r, h => by
    unfold ByteArray.toList.loop
    rw [if_pos (by omega), tl_loop a n (i + 1) _ (by omega)]
    have hs : a.size = a.data.size := rfl
    rw [List.drop_eq_getElem_cons (show i < a.data.toList.length by simp; omega)]
    simp only [ByteArray.get!, List.reverse_cons, List.append_assoc, List.singleton_append, Array.getElem_toList]
    rw [getElem!_pos a.data i (by omega)]
theorem tl_data (a : ByteArray) : a.toList = a.data.toList := by unfold ByteArray.toList; rw [tl_loop a _ 0 [] rfl]; simp
theorem tl_inj {a b : ByteArray} (h : a.toList = b.toList) : a = b := by
  rw [tl_data, tl_data] at h; exact ByteArray.ext (Array.ext' h)
theorem tl_iff {a b : ByteArray} : a.toList = b.toList ↔ a = b := ⟨tl_inj, fun h => by rw [h]⟩
end Go.Sl
end
section
/- What an argument's reading as data gives a walk: slices of whole numbers. No program is named here. -/
namespace Go.Sl
open Go Go.RowKit

def I64 (n : Int) : Prop := -9223372036854775808 ≤ n ∧ n ≤ 9223372036854775807
theorem I64.of_wf {n : Int} (h : (Lit.int .i64 n).wf = true) : I64 n := by
  simp [Lit.wf, IntKind.min, IntKind.max, IntKind.signed, IntKind.bits] at h
  unfold I64
  omega

/-- Cells that read as whole numbers, as a slice. -/
theorem Sl.of_ints {w : World} {x : Addr} {n cap : Nat} {zs : List Int} (hn : n ≤ cap) (hm : cap ≤ maxLen) (hz : zs.length = cap)
    (hc : ∀ i, i < zs.length → w.cell? (x.add i) = some (.int .i64 (zs.getD i 0))) : Sl kInt (Hp.all w) (some x) cap (zs.take n) :=
  ⟨by rw [List.length_take]; omega, hm, (fun e => (nomatch e)), fun i y hy => by
    have hi : i < n ∧ i < zs.length := by
      rw [List.getElem?_take] at hy
      split at hy
      · exact ⟨by assumption, (List.getElem?_eq_some_iff.1 hy).1⟩
      · cases hy
    have hyi : zs[i]? = some y := by rw [List.getElem?_take, if_pos hi.1] at hy; exact hy
    have h0 := hc 0 (by omega)
    have hx0 : x.add 0 = x := by simp [Addr.add]
    rw [hx0] at h0
    obtain ⟨b, off, sp⟩ := x
    have hsp : sp = .none := by
      unfold World.cell? at h0
      split at h0
      · cases sp with
        | none => rfl
        | some s => simp at h0
      · cases h0
    subst hsp
    have hci := hc i hi.2
    rw [add_mk] at hci
    unfold World.cell? at hci
    split at hci
    · rename_i cur E fr hb
      refine ⟨b, off, cur, E, fr, [.int .i64 y], rfl, hb, rfl, fun j u hu => ?_⟩
      cases j with
      | zero =>
        simp at hu; subst hu
        have hg : zs.getD i 0 = y := by simp [List.getD, hyi]
        rw [hg] at hci
        simpa [kInt, Kd.flat] using hci
      | succ j => simp at hu
    · cases hci⟩
theorem I64.of_take {zs : List Int} {n : Nat} (h : ∀ z ∈ zs, (Lit.int .i64 z).wf = true) : ∀ z ∈ zs.take n, I64 z := fun z hz => I64.of_wf (h z (List.mem_of_mem_take hz))
end Go.Sl
end
section
/- What the rows' proofs share: the program's own facts, and a slice of whole numbers as the form hands it over. -/
namespace Go.Proofs.Ytdcfojohgcmpcaa.Lift
open Go.ChangeShapes Go.WideShapes Go.ChangeAt Go.RowKit Go.Sl
set_option linter.unusedVariables false
set_option maxRecDepth 100000
theorem own : ownKnob Try.prog.godebug = none := by kernel_rfl
theorem laidOut : laidOutB Try.prog = true := by kernel_rfl
theorem ints_of {H : Type} {enc : TypeId × Value → H} {W : World} {base : Nat} {v : Value} {d : DataW H} {p : List MemPlace} (hv : Value.okWide Try.prog W .any base 22 v) (h0 : DataW.Trod enc Try.prog W 0 (fun _ => true) true 22 v d p) :
    ∃ A cap zs, v = .slice A (List.length zs) cap ∧ Sl kInt (Hp.all W) A cap zs ∧ ∀ z ∈ zs, I64 z := by
  obtain ⟨a0, len0, cap0, rfl⟩ := okWide_slice Try.underlying22 hv
  obtain ⟨fuel, hf⟩ := h0
  rcases open_ints Try.underlying22 Try.underlying3 (by kernel_rfl) hf with ⟨hcs, _⟩ | ⟨x, l, c, zs, hcs, _, hl, hm, hz, _, hcell, hwz⟩
  · simp [Value.cells] at hcs
    obtain ⟨rfl, rfl, rfl⟩ := hcs
    exact ⟨none, 0, [], rfl, Sl.none _ _, by simp⟩
  · simp [Value.cells] at hcs
    obtain ⟨rfl, rfl, rfl⟩ := hcs
    have hz' : zs.length = cap0 := by simpa using hz
    refine ⟨some x, cap0, zs.take len0, ?_, Sl.of_ints hl hm hz' hcell, I64.of_take hwz⟩
    rw [List.length_take, hz', Nat.min_eq_left hl]
end Go.Proofs.Ytdcfojohgcmpcaa.Lift
end
section
/- A slice of structs of whole numbers, as an argument's reading gives it. No program is named here. -/
namespace Go.Sl
open Go Go.RowKit Go.Deep Go.ChangeShapes
/-- n whole numbers, by their places. -/
def kFun (n : Nat) (pos : 0 < n) : Kd (Nat → Int) := Kd.flat n (fun x => (List.range n).map fun i => .int .i64 (x i)) pos (by simp) (fun x u h => by
  obtain ⟨i, _, rfl⟩ := List.mem_map.1 h; rfl)
theorem Sl.fn {n : Nat} {pos : 0 < n} {h : Hp} {A : Option Addr} {cap : Nat} {xs : List (Nat → Int)} {w : World} (s : Sl (kFun n pos) h A cap xs) (hs : h.sub w) {i : Nat} {x : Nat → Int} (hx : Hid (xs[i]? = some x)) :
    ∃ b off, A = some ⟨b, off, .none⟩ ∧ ∀ j, j < n → w.cell? ⟨b, off + i * n + j, .none⟩ = some (.int .i64 (x j)) := by
  obtain ⟨b, off, cs, e, hK, _, hc⟩ := s.at hs hx.out
  have hK' : cs = (List.range n).map fun i => .int .i64 (x i) := hK
  subst hK'
  exact ⟨b, off, e, fun j hj => hc j _ (by simp [hj])⟩
theorem Sl.fn3 {pos : 0 < 3} {h : Hp} {A : Option Addr} {cap : Nat} {xs : List (Nat → Int)} {w : World} (s : Sl (kFun 3 pos) h A cap xs) (hs : h.sub w) {i : Nat} {x : Nat → Int} (hx : Hid (xs[i]? = some x)) :
    ∃ b off, A = some ⟨b, off, .none⟩ ∧ w.cell? ⟨b, off + i * 3, .none⟩ = some (.int .i64 (x 0)) ∧ w.cell? ⟨b, off + i * 3 + 1, .none⟩ = some (.int .i64 (x 1)) ∧ w.cell? ⟨b, off + i * 3 + 2, .none⟩ = some (.int .i64 (x 2)) := by
  obtain ⟨b, off, e, hc⟩ := s.fn hs hx
  exact ⟨b, off, e, hc 0 (by omega), hc 1 (by omega), hc 2 (by omega)⟩
theorem Sl.fn4 {pos : 0 < 4} {h : Hp} {A : Option Addr} {cap : Nat} {xs : List (Nat → Int)} {w : World} (s : Sl (kFun 4 pos) h A cap xs) (hs : h.sub w) {i : Nat} {x : Nat → Int} (hx : Hid (xs[i]? = some x)) :
    ∃ b off, A = some ⟨b, off, .none⟩ ∧ w.cell? ⟨b, off + i * 4, .none⟩ = some (.int .i64 (x 0)) ∧ w.cell? ⟨b, off + i * 4 + 1, .none⟩ = some (.int .i64 (x 1)) ∧ w.cell? ⟨b, off + i * 4 + 2, .none⟩ = some (.int .i64 (x 2)) ∧ w.cell? ⟨b, off + i * 4 + 3, .none⟩ = some (.int .i64 (x 3)) := by
  obtain ⟨b, off, e, hc⟩ := s.fn hs hx
  exact ⟨b, off, e, hc 0 (by omega), hc 1 (by omega), hc 2 (by omega), hc 3 (by omega)⟩
theorem Sl.fn6 {pos : 0 < 6} {h : Hp} {A : Option Addr} {cap : Nat} {xs : List (Nat → Int)} {w : World} (s : Sl (kFun 6 pos) h A cap xs) (hs : h.sub w) {i : Nat} {x : Nat → Int} (hx : Hid (xs[i]? = some x)) :
    ∃ b off, A = some ⟨b, off, .none⟩ ∧ w.cell? ⟨b, off + i * 6, .none⟩ = some (.int .i64 (x 0)) ∧ w.cell? ⟨b, off + i * 6 + 1, .none⟩ = some (.int .i64 (x 1)) ∧ w.cell? ⟨b, off + i * 6 + 2, .none⟩ = some (.int .i64 (x 2)) ∧ w.cell? ⟨b, off + i * 6 + 3, .none⟩ = some (.int .i64 (x 3)) ∧ w.cell? ⟨b, off + i * 6 + 4, .none⟩ = some (.int .i64 (x 4)) ∧ w.cell? ⟨b, off + i * 6 + 5, .none⟩ = some (.int .i64 (x 5)) := by
  obtain ⟨b, off, e, hc⟩ := s.fn hs hx
  exact ⟨b, off, e, hc 0 (by omega), hc 1 (by omega), hc 2 (by omega), hc 3 (by omega), hc 4 (by omega), hc 5 (by omega)⟩
theorem open_acts {H : Type} {enc : TypeId × Value → H} {P : Program} {w : World} {held : Bool} {t e : TypeId} {fs : Array Field} {fuel : Nat} {cs : List Value} {x : DataW H × List MemPlace} (n : Nat) (pos : 0 < n)
    (ht : P.underlying t = some (.slice e)) (he : P.underlying e = some (.struct fs)) (hce : P.cellsOf e = n)
    (hf : ∀ i, i < n → ∃ f, fs[i]? = some f ∧ f.offset = i ∧ P.underlying f.type = some (.int .i64) ∧ P.cellsOf f.type = 1)
    (h : DataW.trod enc P w 0 (fun _ => true) held fuel t cs = some x) :
    ∃ A cap zs, cs = [.slice A (List.length zs) cap] ∧ Sl (kFun n pos) (Hp.all w) A cap zs ∧ ∀ z ∈ zs, ∀ j, j < n → I64 (z j) := by
  rcases open_slice ht h with ⟨rfl, _⟩ | ⟨a, len, cap, m, k, D, Pl, rfl, _, hl, hmx, hm, _, hel⟩
  · exact ⟨none, 0, [], rfl, Sl.none _ _, by simp⟩
  · simp at hm
    subst hm
    have each : ∀ i, i < len → ∃ z : Nat → Int, ∀ j, j < n → w.cell? (a.add (i * n + j)) = some (.int .i64 (z j)) ∧ I64 (z j) := by
      intro i hi
      obtain ⟨cs', h1, h2⟩ := hel i (by omega)
      rw [hce] at h1
      obtain ⟨xs, k', _, _, hcl, hxl, hfl⟩ := DataW.trod_struct he h2
      obtain ⟨_, hlen, hcell⟩ := World.cells?_some h1
      refine choose_lt (α := Int) (n := n) (p := fun j q => w.cell? (a.add (i * n + j)) = some (.int .i64 q) ∧ I64 q) fun j hj => ?_
      obtain ⟨f, f1, f2, f3, f4⟩ := hf j hj
      have ht := hfl j f f1
      rw [f2, f4] at ht
      have hjl : j < cs'.length := by omega
      have hd : (cs'.drop j).take 1 = [cs'[j]] := by rw [List.drop_eq_getElem_cons hjl]; rfl
      rw [hd] at ht
      cases hx : xs[j]? with
      | none => rw [hx] at ht; rename_i hxs; have h3 := (Array.getElem?_eq_some_iff.1 f1).1; rw [List.getElem?_eq_none_iff] at hx; omega
      | some y =>
        rw [hx] at ht
        obtain ⟨q, e1, _, e3⟩ := DataW.trod_int f3 ht
        refine ⟨q, ?_, I64.of_wf e3⟩
        have e4 : cs'[j] = .int .i64 q := by simpa using e1
        have e5 := hcell j (by omega)
        rw [List.getElem?_eq_getElem hjl, e4, add_add] at e5
        exact e5
    obtain ⟨F, hF⟩ := choose_lt (α := Nat → Int) each
    refine ⟨some a, m, (List.range len).map F, by simp, ⟨by simpa using hl, hmx, (fun e => (nomatch e)), fun i z hz => ?_⟩, fun z hz j hj => ?_⟩
    · rw [List.getElem?_map] at hz
      by_cases hi : i < len
      · rw [List.getElem?_range hi] at hz
        simp at hz; subst hz
        have hc := fun j hj => (hF i hi j hj).1
        obtain ⟨b, off, sp⟩ := a
        have h0 := (hF 0 (by omega) 0 pos).1
        rw [show 0 * n + 0 = 0 by omega, show ∀ a : Addr, a.add 0 = a from fun a => if_pos rfl] at h0
        have hsp : sp = .none := by
          unfold World.cell? at h0
          split at h0
          · cases sp with
            | none => rfl
            | some s => simp at h0
          · cases h0
        subst hsp
        have hb : ∃ cur E fr, w.heap[b]? = some (.cells cur E fr) ∧ ∀ j, j < n → cur[off + i * n + j]? = some (.int .i64 (F i j)) := by
          have h1 := h0
          unfold World.cell? at h1
          split at h1
          · rename_i cur E fr hb
            refine ⟨cur, E, fr, hb, fun j hj => ?_⟩
            have h2 := hc j hj
            rw [add_mk, cell_of_row w b _ cur E fr hb] at h2
            rw [Nat.add_assoc]; exact h2
          · cases h1
        obtain ⟨cur, E, fr, hb, hcur⟩ := hb
        refine ⟨b, off, cur, E, fr, _, rfl, hb, rfl, fun j u hu => ?_⟩
        rw [List.getElem?_map] at hu
        by_cases hj : j < n
        · rw [List.getElem?_range hj] at hu
          simp at hu; subst hu
          exact hcur j hj
        · rw [List.getElem?_eq_none (by simp; omega)] at hu; cases hu
      · rw [List.getElem?_eq_none (by simp; omega)] at hz; cases hz
    · obtain ⟨i, hi, rfl⟩ := List.mem_map.1 hz
      exact (hF i (List.mem_range.1 hi) j hj).2
end Go.Sl
end
section
/- Lists that rise by a key, plain: what is put, taken away, summed; when two are one. No program is named here. -/
namespace Go.Sl
/-- A strict order of keys. -/
structure Ord (κ : Type) where
  lt : κ → κ → Bool
  irrefl : ∀ x, lt x x = false
  trans : ∀ x y z, lt x y = true → lt y z = true → lt x z = true
  tri : ∀ x y, lt x y = true ∨ x = y ∨ lt y x = true
theorem Ord.asymm {κ : Type} (o : Ord κ) {x y : κ} (h : o.lt x y = true) : o.lt y x = false := by
  cases e : o.lt y x with
  | false => rfl
  | true => have := o.trans _ _ _ h e; rw [o.irrefl] at this; cases this
theorem Ord.ne {κ : Type} (o : Ord κ) {x y : κ} (h : o.lt x y = true) : x ≠ y := fun e => by rw [e, o.irrefl] at h; cases h
def ordInt : Ord Int := ⟨fun x y => decide (x < y), by simp, by simp; omega, by simp; omega⟩
/-- By the first, then the second. -/
def ordPair : Ord (Int × Int) := ⟨fun x y => decide (x.1 < y.1 ∨ x.1 = y.1 ∧ x.2 < y.2), by simp, by simp; omega, by
  intro x y; simp [Prod.ext_iff]; omega⟩
section
variable {κ α : Type} (o : Ord κ) (key : α → κ)
def Rising (l : List α) : Prop := l.Pairwise fun x y => o.lt (key x) (key y) = true
theorem Rising.nil : Rising o key [] := List.Pairwise.nil
theorem Rising.filter {l : List α} (h : Rising o key l) (p : α → Bool) : Rising o key (l.filter p) := List.Pairwise.filter p h
theorem Rising.tail {x : α} {l : List α} (h : Rising o key (x :: l)) : Rising o key l := (List.pairwise_cons.1 h).2
theorem Rising.head {x : α} {l : List α} (h : Rising o key (x :: l)) : ∀ y ∈ l, o.lt (key x) (key y) = true := (List.pairwise_cons.1 h).1
theorem Rising.inj {l : List α} (h : Rising o key l) : ∀ {x y : α}, x ∈ l → y ∈ l → key x = key y → x = y := by
  induction l with
  | nil => intro x y hx; cases hx
  | cons z l ih =>
    intro x y hx hy e
    rcases List.mem_cons.1 hx with hx | hx <;> rcases List.mem_cons.1 hy with hy | hy
    · rw [hx, hy]
    · have := h.head o key y hy; rw [← hx, e, o.irrefl] at this; cases this
    · have := h.head o key x hx; rw [← hy, e, o.irrefl] at this; cases this
    · exact ih h.tail hx hy e
/-- Two rising lists of the same elements are one. -/
theorem Rising.ext {l : List α} : ∀ {m : List α}, Rising o key l → Rising o key m → (∀ x, x ∈ l ↔ x ∈ m) → l = m := by
  induction l with
  | nil =>
    intro m _ _ h
    cases m with
    | nil => rfl
    | cons y m => have := (h y).2 (by simp); cases this
  | cons x l ih =>
    intro m hl hm h
    cases m with
    | nil => have := (h x).1 (by simp); cases this
    | cons y m =>
      have hxy : x = y := by
        rcases List.mem_cons.1 ((h x).1 (by simp)) with e | e
        · exact e
        rcases List.mem_cons.1 ((h y).2 (by simp)) with e2 | e2
        · exact e2.symm
        have h1 := hm.head o key x e
        have h2 := hl.head o key y e2
        rw [o.asymm h1] at h2; cases h2
      subst hxy
      congr 1
      refine ih hl.tail hm.tail fun z => ⟨fun hz => ?_, fun hz => ?_⟩
      · rcases List.mem_cons.1 ((h z).1 (by simp [hz])) with e | e
        · have := hl.head o key z hz; rw [e, o.irrefl] at this; cases this
        · exact e
      · rcases List.mem_cons.1 ((h z).2 (by simp [hz])) with e | e
        · have := hm.head o key z hz; rw [e, o.irrefl] at this; cases this
        · exact e
/-- All but a key. -/
def del [DecidableEq κ] (k : κ) (l : List α) : List α := l.filter fun y => !decide (key y = k)
/-- A new element in its place; one of its key goes. -/
def put [DecidableEq κ] (x : α) (l : List α) : List α := (l.filter fun y => o.lt (key y) (key x)) ++ x :: l.filter fun y => o.lt (key x) (key y)
variable [DecidableEq κ]
theorem mem_del {k : κ} {l : List α} {y : α} : y ∈ del key k l ↔ y ∈ l ∧ key y ≠ k := by simp [del]
theorem mem_put {x y : α} {l : List α} : y ∈ put o key x l ↔ y = x ∨ y ∈ l ∧ key y ≠ key x := by
  simp only [put, List.mem_append, List.mem_filter, List.mem_cons]
  constructor
  · rintro (⟨h1, h2⟩ | rfl | ⟨h1, h2⟩)
    · exact .inr ⟨h1, o.ne h2⟩
    · exact .inl rfl
    · exact .inr ⟨h1, (o.ne h2).symm⟩
  · rintro (rfl | ⟨h1, h2⟩)
    · exact .inr (.inl rfl)
    · rcases o.tri (key y) (key x) with h | h | h
      · exact .inl ⟨h1, h⟩
      · exact absurd h h2
      · exact .inr (.inr ⟨h1, h⟩)
theorem Rising.del {l : List α} (h : Rising o key l) (k : κ) : Rising o key (del key k l) := h.filter o key _
theorem Rising.put {l : List α} (h : Rising o key l) (x : α) : Rising o key (put o key x l) := by
  unfold Rising Go.Sl.put
  refine List.pairwise_append.2 ⟨h.filter o key _, List.pairwise_cons.2 ⟨fun y hy => (List.mem_filter.1 hy).2, h.filter o key _⟩, fun y hy z hz => ?_⟩
  have h1 := (List.mem_filter.1 hy).2
  rcases List.mem_cons.1 hz with rfl | hz
  · exact h1
  · exact o.trans _ _ _ h1 (List.mem_filter.1 hz).2
/-- What the reference's loops make of a rising list: a new element is laid ahead of the first greater one. -/
def setGo (x : α) : Bool → List α → List α
  | done, [] => if done then [] else [x]
  | done, y :: l => if key y = key x then setGo x done l else if done = false ∧ o.lt (key x) (key y) = true then x :: y :: setGo x true l else y :: setGo x done l
theorem setGo_true (x : α) : ∀ l : List α, setGo o key x true l = Go.Sl.del key (key x) l
  | [] => rfl
  | y :: l => by
    unfold setGo
    by_cases h : key y = key x
    · rw [if_pos h, setGo_true x l]; simp [Go.Sl.del, h]
    · rw [if_neg h, if_neg (by simp), setGo_true x l]; simp [Go.Sl.del, h]
theorem setGo_false (x : α) : ∀ l : List α, Rising o key l → setGo o key x false l = Go.Sl.put o key x l
  | [], _ => rfl
  | y :: l, h => by
    unfold setGo
    have ht := setGo_false x l h.tail
    rcases o.tri (key y) (key x) with h1 | h1 | h1
    · rw [if_neg (o.ne h1), if_neg (by simp [o.asymm h1]), ht]
      simp [Go.Sl.put, h1, o.asymm h1]
    · rw [if_pos h1, ht]
      simp [Go.Sl.put, h1, o.irrefl]
    · rw [if_neg (o.ne h1).symm, if_pos ⟨rfl, h1⟩, setGo_true]
      have h2 : ∀ z ∈ l, o.lt (key x) (key z) = true := fun z hz => o.trans _ _ _ h1 (h.head o key z hz)
      have e1 : l.filter (fun z => o.lt (key z) (key x)) = [] := by
        rw [List.filter_eq_nil_iff]; intro z hz; rw [o.asymm (h2 z hz)]; decide
      have e2 : l.filter (fun z => o.lt (key x) (key z)) = l := List.filter_eq_self.2 h2
      have e3 : Go.Sl.del key (key x) l = l := List.filter_eq_self.2 fun z hz => by simpa using (o.ne (h2 z hz)).symm
      simp [Go.Sl.put, h1, o.asymm h1, e1, e2, e3]
end
end Go.Sl
end
section
/- Rising lists: sums, lengths, what is found. No program is named here. -/
namespace Go.Sl
section
variable {κ α : Type} (o : Ord κ) (key : α → κ) [DecidableEq κ]
/-- The element of a key. -/
def find (k : κ) (l : List α) : Option α := l.find? fun y => decide (key y = k)
variable {o key}
theorem find_some {k : κ} {l : List α} {y : α} (h : find key k l = some y) : y ∈ l ∧ key y = k := ⟨List.mem_of_find?_eq_some h, by simpa using List.find?_some h⟩
theorem find_none {k : κ} {l : List α} (h : find key k l = none) : ∀ y ∈ l, key y ≠ k := fun y hy e => by
  have := List.find?_eq_none.1 h y hy; simp [e] at this
theorem find_mem {l : List α} (h : Rising o key l) {y : α} (hy : y ∈ l) : find key (key y) l = some y := by
  cases hf : find key (key y) l with
  | none => exact absurd rfl (find_none hf y hy)
  | some z => obtain ⟨h1, h2⟩ := find_some hf; rw [h.inj o key h1 hy h2]
theorem del_none {k : κ} {l : List α} (h : find key k l = none) : del key k l = l := List.filter_eq_self.2 fun y hy => by simpa using find_none h y hy
theorem put_del (x : α) : ∀ l : List α, Rising o key l → put o key x l = (del key (key x) l).filter (fun y => o.lt (key y) (key x)) ++ x :: (del key (key x) l).filter fun y => o.lt (key x) (key y) := fun l _ => by
  unfold put del
  rw [List.filter_filter, List.filter_filter]
  congr 1
  · refine List.filter_congr fun y _ => ?_
    cases h : o.lt (key y) (key x) with
    | false => rfl
    | true => simp [o.ne h]
  · congr 1
    refine List.filter_congr fun y _ => ?_
    cases h : o.lt (key x) (key y) with
    | false => rfl
    | true => simp [(o.ne h).symm]
theorem split_del (k : κ) : ∀ l : List α, Rising o key l → l.filter (fun y => o.lt (key y) k) ++ l.filter (fun y => o.lt k (key y)) = del key k l
  | [], _ => rfl
  | y :: l, h => by
    have ih := split_del k l h.tail
    rcases o.tri (key y) k with h1 | h1 | h1
    · simp [h1, o.asymm h1, del, o.ne h1] at ih ⊢; exact ih
    · simp [h1, o.irrefl, del] at ih ⊢; exact ih
    · have h2 : ∀ z ∈ l, o.lt k (key z) = true := fun z hz => o.trans _ _ _ h1 (h.head o key z hz)
      have e1 : l.filter (fun z => o.lt (key z) k) = [] := by
        rw [List.filter_eq_nil_iff]; intro z hz; rw [o.asymm (h2 z hz)]; decide
      rw [e1, List.nil_append] at ih
      simp [h1, o.asymm h1, e1, del, (o.ne h1).symm] at ih ⊢; exact ih
theorem put_perm (x : α) {l : List α} (h : Rising o key l) : (put o key x l).Perm (x :: del key (key x) l) := by
  unfold put
  rw [← split_del (key x) l h]
  exact List.perm_middle
theorem sum_perm {l m : List Int} (h : l.Perm m) : l.sum = m.sum := by
  induction h with
  | nil => rfl
  | cons x _ ih => simp [ih]
  | swap x y l => simp; omega
  | trans _ _ a b => exact a.trans b
theorem sum_put (f : α → Int) (x : α) {l : List α} (h : Rising o key l) : ((put o key x l).map f).sum = ((del key (key x) l).map f).sum + f x := by
  rw [sum_perm ((put_perm x h).map f)]; simp; omega
theorem len_put (x : α) {l : List α} (h : Rising o key l) : (put o key x l).length = (del key (key x) l).length + 1 := by
  rw [(put_perm x h).length_eq]; rfl
theorem del_some {k : κ} {l : List α} {y : α} (h : Rising o key l) (hf : find key k l = some y) : l.Perm (y :: del key k l) := by
  obtain ⟨h1, h2⟩ := find_some hf
  subst h2
  have e : put o key y l = l := Rising.ext o key (h.put o key y) h fun z => by
    rw [mem_put]
    constructor
    · rintro (rfl | ⟨hz, _⟩)
      · exact h1
      · exact hz
    · intro hz
      by_cases e : key z = key y
      · exact .inl (h.inj o key hz h1 e)
      · exact .inr ⟨hz, e⟩
  have := put_perm y h
  rwa [e] at this
theorem sum_del (f : α → Int) (k : κ) {l : List α} (h : Rising o key l) : (l.map f).sum = ((del key k l).map f).sum + (match find key k l with | some y => f y | none => 0) := by
  cases hf : find key k l with
  | none => rw [del_none hf]; simp
  | some y => rw [sum_perm ((del_some h hf).map f)]; simp; omega
theorem len_del (k : κ) {l : List α} (h : Rising o key l) : l.length = (del key k l).length + (match find key k l with | some _ => 1 | none => 0) := by
  cases hf : find key k l with
  | none => rw [del_none hf]; rfl
  | some y => rw [(del_some h hf).length_eq]; rfl
theorem del_le (k : κ) (l : List α) : (del key k l).length ≤ l.length := List.length_filter_le _ _
theorem find_put (x : α) {l : List α} (h : Rising o key l) (k : κ) : find key k (put o key x l) = if k = key x then some x else find key k l := by
  have hr := h.put o key x
  by_cases hk : k = key x
  · rw [if_pos hk, hk]; exact find_mem hr ((mem_put o key).2 (.inl rfl))
  · rw [if_neg hk]
    cases hf : find key k l with
    | some y =>
      obtain ⟨h1, h2⟩ := find_some hf
      subst h2
      exact find_mem hr ((mem_put o key).2 (.inr ⟨h1, hk⟩))
    | none =>
      unfold find
      rw [List.find?_eq_none]
      intro y hy
      rcases (mem_put o key).1 hy with rfl | ⟨h1, _⟩
      · simpa using fun e => hk e.symm
      · simpa using find_none hf y h1
theorem find_del (k' : κ) {l : List α} (h : Rising o key l) (k : κ) : find key k (del key k' l) = if k = k' then none else find key k l := by
  have hr := h.del o key k'
  by_cases hk : k = k'
  · rw [if_pos hk]
    unfold find
    rw [List.find?_eq_none]
    intro y hy
    have := (mem_del key).1 hy
    simpa [hk] using this.2
  · rw [if_neg hk]
    cases hf : find key k l with
    | some y =>
      obtain ⟨h1, h2⟩ := find_some hf
      subst h2
      exact find_mem hr ((mem_del key).2 ⟨h1, hk⟩)
    | none =>
      unfold find
      rw [List.find?_eq_none]
      intro y hy
      have := find_none hf y ((mem_del key).1 hy).1
      simpa using this
end
/-- A sorted list of keys that are each once is rising. -/
theorem Rising.of_sorted {κ α : Type} {o : Ord κ} {key : α → κ} {l : List α} (hs : l.Pairwise fun x y => o.lt (key y) (key x) = false) (hn : l.Pairwise fun x y => key x ≠ key y) : Rising o key l := by
  unfold Rising
  induction l with
  | nil => exact List.Pairwise.nil
  | cons x l ih =>
    obtain ⟨a, b⟩ := List.pairwise_cons.1 hs
    obtain ⟨c, d⟩ := List.pairwise_cons.1 hn
    refine List.pairwise_cons.2 ⟨fun y hy => ?_, ih b d⟩
    rcases o.tri (key x) (key y) with h | h | h
    · exact h
    · exact absurd h (c y hy)
    · rw [a y hy] at h; cases h
end Go.Sl
end
section
/- More structs of the program as plain Lean, and how each lies in memory. No program is named here. -/
namespace Go.Sl
open Go Go.RowKit
/-- SWay, as its cells. -/
structure SWay where
  cls : Int
  yr : Int
  opn : Int
  mov : Int
  clo : Int
instance : DecidableEq SWay := fun x y => decidable_of_iff (x.cls = y.cls ∧ x.yr = y.yr ∧ x.opn = y.opn ∧ x.mov = y.mov ∧ x.clo = y.clo) (by cases x; cases y; simp)
def SWay.cells (x : SWay) : List Value := [.int .i64 x.cls, .int .i64 x.yr, .int .i64 x.opn, .int .i64 x.mov, .int .i64 x.clo]
def kWay : Kd SWay := Kd.flat 5 SWay.cells (by decide) (fun _ => rfl) (fun x u h => by simp [SWay.cells] at h; rcases h with rfl | rfl | rfl | rfl | rfl <;> rfl)
theorem kWay_flat : kWay.Flat := Kd.flat_flat
theorem Sl.way {h : Hp} {A : Option Addr} {cap : Nat} {xs : List SWay} {w : World} (s : Sl kWay h A cap xs) (hs : h.sub w) {i : Nat} {x : SWay} (hx : Hid (xs[i]? = some x)) :
    ∃ b off, A = some ⟨b, off, .none⟩ ∧ w.cell? ⟨b, off + i * 5, .none⟩ = some (.int .i64 x.cls) ∧ w.cell? ⟨b, off + i * 5 + 1, .none⟩ = some (.int .i64 x.yr) ∧ w.cell? ⟨b, off + i * 5 + 2, .none⟩ = some (.int .i64 x.opn) ∧ w.cell? ⟨b, off + i * 5 + 3, .none⟩ = some (.int .i64 x.mov) ∧ w.cell? ⟨b, off + i * 5 + 4, .none⟩ = some (.int .i64 x.clo) := by
  obtain ⟨b, off, cs, e, hK, _, hc⟩ := s.at hs hx.out
  have hK' : cs = SWay.cells x := hK
  subst hK'
  exact ⟨b, off, e, by simpa [kWay, Kd.flat] using hc 0 _ rfl, hc 1 _ rfl, hc 2 _ rfl, hc 3 _ rfl, hc 4 _ rfl⟩
/-- SRate, as its cells. -/
structure SRate where
  j : ByteArray
  yr : Int
  rt : Int
  per : Int
instance : DecidableEq SRate := fun x y => decidable_of_iff (x.j = y.j ∧ x.yr = y.yr ∧ x.rt = y.rt ∧ x.per = y.per) (by cases x; cases y; simp)
def SRate.cells (x : SRate) : List Value := [.string x.j, .int .i64 x.yr, .int .i64 x.rt, .int .i64 x.per]
def kRate : Kd SRate := Kd.flat 4 SRate.cells (by decide) (fun _ => rfl) (fun x u h => by simp [SRate.cells] at h; rcases h with rfl | rfl | rfl | rfl <;> rfl)
theorem kRate_flat : kRate.Flat := Kd.flat_flat
theorem Sl.rate {h : Hp} {A : Option Addr} {cap : Nat} {xs : List SRate} {w : World} (s : Sl kRate h A cap xs) (hs : h.sub w) {i : Nat} {x : SRate} (hx : Hid (xs[i]? = some x)) :
    ∃ b off, A = some ⟨b, off, .none⟩ ∧ w.cell? ⟨b, off + i * 4, .none⟩ = some (.string x.j) ∧ w.cell? ⟨b, off + i * 4 + 1, .none⟩ = some (.int .i64 x.yr) ∧ w.cell? ⟨b, off + i * 4 + 2, .none⟩ = some (.int .i64 x.rt) ∧ w.cell? ⟨b, off + i * 4 + 3, .none⟩ = some (.int .i64 x.per) := by
  obtain ⟨b, off, cs, e, hK, _, hc⟩ := s.at hs hx.out
  have hK' : cs = SRate.cells x := hK
  subst hK'
  exact ⟨b, off, e, by simpa [kRate, Kd.flat] using hc 0 _ rfl, hc 1 _ rfl, hc 2 _ rfl, hc 3 _ rfl⟩
/-- SPair, as its cells. -/
structure SPair where
  s : ByteArray
  b : ByteArray
  amt : Int
instance : DecidableEq SPair := fun x y => decidable_of_iff (x.s = y.s ∧ x.b = y.b ∧ x.amt = y.amt) (by cases x; cases y; simp)
def SPair.cells (x : SPair) : List Value := [.string x.s, .string x.b, .int .i64 x.amt]
def kPair : Kd SPair := Kd.flat 3 SPair.cells (by decide) (fun _ => rfl) (fun x u h => by simp [SPair.cells] at h; rcases h with rfl | rfl | rfl <;> rfl)
theorem kPair_flat : kPair.Flat := Kd.flat_flat
theorem Sl.pair {h : Hp} {A : Option Addr} {cap : Nat} {xs : List SPair} {w : World} (s : Sl kPair h A cap xs) (hs : h.sub w) {i : Nat} {x : SPair} (hx : Hid (xs[i]? = some x)) :
    ∃ b off, A = some ⟨b, off, .none⟩ ∧ w.cell? ⟨b, off + i * 3, .none⟩ = some (.string x.s) ∧ w.cell? ⟨b, off + i * 3 + 1, .none⟩ = some (.string x.b) ∧ w.cell? ⟨b, off + i * 3 + 2, .none⟩ = some (.int .i64 x.amt) := by
  obtain ⟨b, off, cs, e, hK, _, hc⟩ := s.at hs hx.out
  have hK' : cs = SPair.cells x := hK
  subst hK'
  exact ⟨b, off, e, by simpa [kPair, Kd.flat] using hc 0 _ rfl, hc 1 _ rfl, hc 2 _ rfl⟩
end Go.Sl
end
section
/- The order of strings, plain; pairs of them. No program is named here. -/
namespace Go.Sl
open Go Go.RowKit
def cmpS (a b : ByteArray) : Int := Lib.compareBytes a.data.toList b.data.toList
theorem cmpB_self : ∀ l : List UInt8, Lib.compareBytes l l = 0
  | [] => rfl
  | x :: l => by simp [Lib.compareBytes, UInt8.lt_irrefl, cmpB_self l]
theorem cmpB_rng : ∀ a b : List UInt8, Lib.compareBytes a b = -1 ∨ Lib.compareBytes a b = 0 ∨ Lib.compareBytes a b = 1
  | [], [] => by simp [Lib.compareBytes]
  | [], _ :: _ => by simp [Lib.compareBytes]
  | _ :: _, [] => by simp [Lib.compareBytes]
  | a :: az, b :: bs => by
    unfold Lib.compareBytes
    split
    · simp
    · split
      · simp
      · exact cmpB_rng az bs
theorem u8_tri (a b : UInt8) : a < b ∨ a = b ∨ b < a := by
  simp only [UInt8.lt_iff_toNat_lt, ← UInt8.toNat_inj]; omega
theorem cmpB_eq : ∀ {a b : List UInt8}, Lib.compareBytes a b = 0 → a = b
  | [], [], _ => rfl
  | [], _ :: _, h => by simp [Lib.compareBytes] at h
  | _ :: _, [], h => by simp [Lib.compareBytes] at h
  | a :: az, b :: bs, h => by
    unfold Lib.compareBytes at h
    split at h
    · simp at h
    · split at h
      · simp at h
      · rename_i h1 h2
        rcases u8_tri a b with h3 | h3 | h3
        · exact absurd h3 h1
        · rw [h3, cmpB_eq h]
        · exact absurd h3 h2
theorem u8_asymm {a b : UInt8} (h : a < b) : ¬ b < a := by simp only [UInt8.lt_iff_toNat_lt] at *; omega
theorem cmpB_swap : ∀ a b : List UInt8, Lib.compareBytes b a = -Lib.compareBytes a b
  | [], [] => rfl
  | [], _ :: _ => rfl
  | _ :: _, [] => rfl
  | a :: az, b :: bs => by
    unfold Lib.compareBytes
    by_cases h1 : a < b
    · rw [if_pos h1, if_neg (u8_asymm h1), if_pos h1]; rfl
    · by_cases h2 : b < a
      · rw [if_pos h2, if_neg h1, if_pos h2]
      · rw [if_neg h2, if_neg h1, if_neg h1, if_neg h2]; exact cmpB_swap az bs
theorem cmpB_trans : ∀ {a b c : List UInt8}, Lib.compareBytes a b = -1 → Lib.compareBytes b c = -1 → Lib.compareBytes a c = -1
  | [], [], _, h, _ => by simp [Lib.compareBytes] at h
  | [], _ :: _, [], _, h => by simp [Lib.compareBytes] at h
  | [], _ :: _, _ :: _, _, _ => rfl
  | _ :: _, [], _, h, _ => by simp [Lib.compareBytes] at h
  | _ :: _, _ :: _, [], _, h => by simp [Lib.compareBytes] at h
  | a :: az, b :: bs, c :: cs, h1, h2 => by
    unfold Lib.compareBytes at h1 h2 ⊢
    by_cases x1 : a < b
    · by_cases x2 : b < c
      · rw [if_pos (UInt8.lt_trans x1 x2)]
      · rw [if_neg x2] at h2
        by_cases x3 : c < b
        · rw [if_pos x3] at h2; simp at h2
        · have : b = c := by rcases u8_tri b c with h | h | h
                             · exact absurd h x2
                             · exact h
                             · exact absurd h x3
          subst this; rw [if_pos x1]
    · rw [if_neg x1] at h1
      by_cases x3 : b < a
      · rw [if_pos x3] at h1; simp at h1
      · have e : a = b := by rcases u8_tri a b with h | h | h
                             · exact absurd h x1
                             · exact h
                             · exact absurd h x3
        subst e
        rw [if_neg x1] at h1
        by_cases x2 : a < c
        · rw [if_pos x2]
        · rw [if_neg x2] at h2 ⊢
          by_cases x4 : c < a
          · rw [if_pos x4] at h2; simp at h2
          · rw [if_neg x4] at h2 ⊢
            exact cmpB_trans h1 h2
theorem ba_ext {a b : ByteArray} (h : a.data.toList = b.data.toList) : a = b := by
  cases a; cases b; congr 1; exact Array.toList_inj.1 h
theorem cmpS_eq {a b : ByteArray} : cmpS a b = 0 ↔ a = b := ⟨fun h => ba_ext (cmpB_eq h), fun h => by rw [h]; exact cmpB_self _⟩
/-- By the first, then the second. -/
def ordStr2 : Ord (ByteArray × ByteArray) := ⟨fun x y => decide (cmpS x.1 y.1 = -1 ∨ x.1 = y.1 ∧ cmpS x.2 y.2 = -1), by
    intro x; simp [cmpS, cmpB_self], by
    intro x y z h1 h2
    simp only [decide_eq_true_eq] at *
    rcases h1 with h1 | ⟨e1, h1⟩ <;> rcases h2 with h2 | ⟨e2, h2⟩
    · exact .inl (cmpB_trans h1 h2)
    · rw [← e2]; exact .inl h1
    · rw [e1]; exact .inl h2
    · exact .inr ⟨e1.trans e2, cmpB_trans h1 h2⟩, by
    intro x y
    simp only [decide_eq_true_eq]
    have s1 : cmpS y.1 x.1 = -cmpS x.1 y.1 := cmpB_swap _ _
    have s2 : cmpS y.2 x.2 = -cmpS x.2 y.2 := cmpB_swap _ _
    rcases cmpB_rng x.1.data.toList y.1.data.toList with h | h | h
    · exact .inl (.inl h)
    · have e := cmpS_eq.1 h
      rcases cmpB_rng x.2.data.toList y.2.data.toList with h' | h' | h'
      · exact .inl (.inr ⟨e, h'⟩)
      · exact .inr (.inl (Prod.ext e (cmpS_eq.1 h')))
      · exact .inr (.inr (.inr ⟨e.symm, by rw [s2, show cmpS x.2 y.2 = 1 from h']⟩))
    · exact .inr (.inr (.inl (by rw [s1, show cmpS x.1 y.1 = 1 from h])))⟩
def pkey (x : SPair) : ByteArray × ByteArray := (x.s, x.b)
end Go.Sl
end
section
/- append onto a slice that has no room: what it held stands. No program is named here. -/
namespace Go.Sl
open Go Go.RowKit
section
variable {P : Program} {α : Type} {k : Kd α} {h : Hp} {B : Option Addr} {g off : Nat} {xs ys : List α}
theorem run_append_full {w : World} {t ty e : TypeId} {i : TypeInfo} {z : Value} (ht : P.underlying t = some (.slice e)) (hi : P.info? e = some i) (hz : i.zero = some z)
    (hsize : i.size = k.size) (f : k.Flat) (o : Sl k h (some ⟨g, off, none⟩) xs.length xs) (s : h.sub w) (src : Src k Hp.none w B ys) (c : Nat)
    (hm : xs.length + ys.length ≤ maxLen) (hby : (xs.length + ys.length) * i.bytes ≤ 140737488355328) :
    ∃ A' cap' w', (Builtin.append_ #[t, t] ty #[.slice (some ⟨g, off, none⟩) xs.length xs.length, .slice B ys.length c]).run P w = .ok (.slice A' (xs.length + ys.length) cap') w' ∧
      Sl k (Hp.all w') A' cap' (xs ++ ys) ∧ Below w.heap.size w w' := by
  have hsmall : xs.length + ys.length ≤ 9223372036854775807 := by unfold maxLen at hm; omega
  by_cases hy0 : ys = []
  · subst hy0
    refine ⟨some ⟨g, off, none⟩, xs.length, w, ?_, by simpa using o.mono s.le_all, Below.refl _ _⟩
    cases B with
    | none => simp [Builtin.append_, run_underlying ht, sizeOf, typeInfo, hi, Builtin.lenOf, Builtin.firstCells, storeCells]
    | some ad => simp [Builtin.append_, run_underlying ht, sizeOf, typeInfo, hi, Builtin.lenOf, Builtin.firstCells, storeCells, loadCells, loadCellsFrom]
  · have hpos : 0 < ys.length := List.length_pos_iff.2 hy0
    obtain ⟨bb, boff, rfl⟩ : ∃ bb boff, B = some ⟨bb, boff, none⟩ := by
      obtain ⟨b, off, _, e, _⟩ := src.row 0 ys[0] (by simp [hpos])
      exact ⟨_, _, e⟩
    obtain ⟨news, hnl, hnews, hn1, hnK⟩ := src.all
    obtain ⟨olds, hol, holds, _, hoK⟩ := ((o.src s).flat f Hp.none).all
    have hge := grownCap_ge w (xs.length + ys.length) xs.length e
    have hcm : grownCap w (xs.length + ys.length) xs.length e ≤ maxLen := grownCap_le_maxLen w _ _ e hm
    have hr := run_append_grow (P := P) w t ty e i z ht hi hz ⟨g, off, none⟩ xs.length xs.length olds (by rw [hol, hsize]) holds ⟨bb, boff, none⟩ ys.length c news (by rw [hnl, hsize]) hnews (by omega) (by omega) (growslice_fits (by omega) hby)
    refine ⟨_, _, _, hr, ⟨by simp; omega, hcm, (fun e => (nomatch e)), ?_⟩, ?_⟩
    · intro n x hx
      have hnew := heap_alloc_new w.drew (.cells (olds.toArray ++ news.toArray ++ Builtin.zeroCells z.cells (grownCap w (xs.length + ys.length) xs.length e - (xs.length + ys.length))) e)
      by_cases hlt : n < xs.length
      · rw [List.getElem?_append_left hlt] at hx
        obtain ⟨cs, hK, hc⟩ := hoK n x hx
        refine ⟨w.heap.size, 0, _, e, (0, 0), cs, rfl, hnew, f hK, fun j u hu => ?_⟩
        have h2 := hc j u hu
        have h3 := (List.getElem?_eq_some_iff.1 h2).1
        simp only [Nat.zero_add, Array.getElem?_append, Array.size_append, List.size_toArray, List.getElem?_toArray]
        rw [if_pos (by omega), if_pos h3]; exact h2
      · rw [List.getElem?_append_right (by omega)] at hx
        obtain ⟨cs, hK, hc⟩ := hnK _ x hx
        refine ⟨w.heap.size, 0, _, e, (0, 0), cs, rfl, hnew, f hK, fun j u hu => ?_⟩
        have h2 := hc j u hu
        have h3 := (List.getElem?_eq_some_iff.1 h2).1
        have h4 : (n - xs.length) * k.size = n * k.size - xs.length * k.size := Nat.sub_mul _ _ _
        have h5 : xs.length * k.size ≤ n * k.size := Nat.mul_le_mul_right _ (by omega)
        simp only [Nat.zero_add, Array.getElem?_append, Array.size_append, List.size_toArray, List.getElem?_toArray]
        rw [if_pos (by omega), if_neg (by omega), ← h2]; congr 1; omega
    · exact ((Below.refl _ _).drew).alloc (Nat.le_refl _) _
theorem wp_append_full {w : World} {op : Oper} {a : Act} {K : Act → World → Prop} {Q : Exit → Act → World → Prop} (sx xx : Operand) (t : TypeId)
    (ho : op.op = .call { callee := .builtin .append, args := #[sx, xx], argTypes := #[t, t] })
    (e : TypeId) (i : TypeInfo) (z : Value) (ht : P.underlying t = some (.slice e)) (hi : P.info? e = some i) (hz : i.zero = some z)
    (hsize : i.size = k.size) (bytes : Nat) (hbt : i.bytes = bytes) (n m c : Nat) (hn : xs.length = n) (hm' : ys.length = m)
    (hsv : a.eval sx = .slice (some ⟨g, off, none⟩) n n) (hxv : a.eval xx = .slice B m c)
    (f : k.Flat) (o : Sl k h (some ⟨g, off, none⟩) n xs) (s : h.sub w) (src : Src k Hp.none w B ys)
    (hm : n + m ≤ maxLen) (hby : (n + m) * bytes ≤ 140737488355328)
    (H : ∀ A' cap' w', Sl k (Hp.all w') A' cap' (xs ++ ys) → Below w.heap.size w w' → K (a.put op.dst (.slice A' (n + m) cap')) w') : op.wp P a w K Q := by
  subst hn
  subst hm'
  subst hbt
  obtain ⟨A', cap', w', hr, h1, h2⟩ := run_append_full (P := P) (ty := op.type) ht hi hz hsize f o s src c hm hby
  unfold Oper.wp execOp
  simp only [ho, resolve, invoke, builtin, Sem.run_bind, Sem.run_pure, Result.andThen_ok, List.map_toArray, List.map_cons, List.map_nil, hsv, hxv, hr]
  exact H A' cap' w' h1 h2
theorem step_append_full {w : World} {ops : Array Oper} {op : Oper} {a : Act} {K : Act → World → Prop} {Q : Exit → Act → World → Prop} {E : Prop} (hgd : op.guard = none) (sx xx : Operand) (t : TypeId)
    (ho : op.op = .call { callee := .builtin .append, args := #[sx, xx], argTypes := #[t, t] })
    (e : TypeId) (i : TypeInfo) (z : Value) (ht : P.underlying t = some (.slice e)) (hi : P.info? e = some i) (hz : i.zero = some z)
    (hsize : i.size = k.size) (bytes : Nat) (hbt : i.bytes = bytes) (n m c : Nat) (hn : xs.length = n) (hm' : ys.length = m)
    (hsv : a.eval sx = .slice (some ⟨g, off, none⟩) n n) (hxv : a.eval xx = .slice B m c)
    (f : k.Flat) (o : Sl k h (some ⟨g, off, none⟩) n xs) (s : h.sub w) (src : Src k Hp.none w B ys)
    (hm : n + m ≤ maxLen) (hby : (n + m) * bytes ≤ 140737488355328)
    (H : ∀ A' cap' w', Sl k (Hp.all w') A' cap' (xs ++ ys) → Below w.heap.size w w' → K (a.put op.dst (.slice A' (n + m) cap')) w') :
    if Region.wanted op (yielded ops a.tmps) = true then Oper.wp P op a w K Q else E := by
  rw [if_pos (by simp [Region.wanted, hgd])]
  exact wp_append_full sx xx t ho e i z ht hi hz hsize bytes hbt n m c hn hm' hsv hxv f o s src hm hby H
/-- A slice, cut short, may hold no more. -/
theorem Sl.cut {A : Option Addr} {cap : Nat} (o : Sl k h A cap xs) {n : Nat} (hn : n ≤ xs.length) : Sl k h A n (xs.take n) := by
  have hle := o.le
  have hmx := o.max
  refine ⟨by rw [List.length_take]; omega, by omega, fun e => by have := o.nil e; omega, fun i x hx => ?_⟩
  rw [List.getElem?_take] at hx
  split at hx
  · exact o.row i x hx
  · cases hx
/-- What lies behind the first n, as a slice expression has it. -/
theorem Sl.behind {cap : Nat} (s : Sl k h (some ⟨g, off, .none⟩) cap xs) (n : Nat) : Sl k h (if cap = n then some ⟨g, off, .none⟩ else some ⟨g, off + n * k.size, .none⟩) (cap - n) (xs.drop n) := by
  split
  · have := s.le
    rw [List.drop_eq_nil_of_le (by omega)]
    exact ⟨by simp, by have := s.max; omega, (fun e => nomatch e), fun i x hx => by simp at hx⟩
  · exact s.drop rfl n
end
end Go.Sl
end
