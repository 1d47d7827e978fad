/- Walks and plain facts that the laws of this seat share, part 1: contracts of functions, each said at its theorem. -/
import Derived.Test.YtnfedcaehkcffaaGreatPk0
import Derived.Test.YtnfedcaehkcffaaGreatRows
import Derived.WalkKit
import Derived.ProofKit
import Derived.OpenShut
import Derived.ShutString
import Derived.ChangeOld
import Derived.Below
import Derived.SizedLaws
import Derived.Test.YtnfedcaehkcffaaGreatChecked
import Derived.Lib.Hide
import Derived.Shelf.Abstract
set_option linter.all false
section
/- The program's structs as plain Lean, and how each lies in memory. No program is named here. -/
namespace Go.Sl
open Go Go.RowKit

def kInt : Kd Int := Kd.flat 1 (fun x => [.int .i64 x]) (by decide) (fun _ => rfl) (fun x u h => by simp at h; subst h; rfl)
theorem kInt_flat : kInt.Flat := Kd.flat_flat

/-- An item; a line is of the same make. -/
structure SItem where
  kind : Int
  amt : Int
instance : DecidableEq SItem := fun a b => decidable_of_iff (a.kind = b.kind ∧ a.amt = b.amt) (by cases a; cases b; simp)
instance : Inhabited SItem := ⟨⟨0, 0⟩⟩
def SItem.cells (x : SItem) : List Value := [.int .i64 x.kind, .int .i64 x.amt]
def kItem : Kd SItem := Kd.flat 2 SItem.cells (by decide) (fun _ => rfl) (fun x u h => by simp [SItem.cells] at h; rcases h with rfl | rfl <;> rfl)
theorem kItem_flat : kItem.Flat := Kd.flat_flat

/-- A bucket; a vintage is of the same make. -/
structure STri where
  a : Int
  b : Int
  c : Int
instance : DecidableEq STri := fun x y => decidable_of_iff (x.a = y.a ∧ x.b = y.b ∧ x.c = y.c) (by cases x; cases y; simp)
instance : Inhabited STri := ⟨⟨0, 0, 0⟩⟩
def STri.cells (x : STri) : List Value := [.int .i64 x.a, .int .i64 x.b, .int .i64 x.c]
def kTri : Kd STri := Kd.flat 3 STri.cells (by decide) (fun _ => rfl) (fun x u h => by simp [STri.cells] at h; rcases h with rfl | rfl | rfl <;> rfl)
theorem kTri_flat : kTri.Flat := Kd.flat_flat

theorem get_of_lt {α : Type} {xs : List α} {i : Nat} (h : i < xs.length) : xs[i]? = some xs[i] := by simp [h]

theorem some_of_lt {α : Type} {xs : List α} {i : Nat} (h : i < xs.length) : ∃ x, Hid (xs[i]? = some x) := ⟨_, get_of_lt h⟩
theorem take_next {α : Type} {xs : List α} {i : Nat} {x : α} (h : Hid (xs[i]? = some x)) : xs.take (i + 1) = xs.take i ++ [x] := by
  have h2 := (List.getElem?_eq_some_iff.1 h.out)
  rw [List.take_succ_eq_append_getElem h2.1, h2.2]

/-- The cell of a whole number in a slice of whole numbers. -/
theorem Sl.int {h : Hp} {A : Option Addr} {cap : Nat} {xs : List Int} {w : World} (s : Sl kInt h A cap xs) (hs : h.sub w) {i : Nat} {x : Int} (hx : Hid (xs[i]? = some x)) :
    ∃ b off, A = some ⟨b, off, .none⟩ ∧ w.cell? ⟨b, off + i, .none⟩ = some (.int .i64 x) := by
  obtain ⟨b, off, cs, e, hK, _, hc⟩ := s.at hs hx.out
  have hK' : cs = [.int .i64 x] := hK
  subst hK'
  exact ⟨b, off, e, by simpa [kInt, Kd.flat] using hc 0 _ rfl⟩
theorem Sl.item {h : Hp} {A : Option Addr} {cap : Nat} {xs : List SItem} {w : World} (s : Sl kItem h A cap xs) (hs : h.sub w) {i : Nat} {x : SItem} (hx : Hid (xs[i]? = some x)) :
    ∃ b off, A = some ⟨b, off, .none⟩ ∧ w.cell? ⟨b, off + i * 2, .none⟩ = some (.int .i64 x.kind) ∧ w.cell? ⟨b, off + i * 2 + 1, .none⟩ = some (.int .i64 x.amt) := by
  obtain ⟨b, off, cs, e, hK, _, hc⟩ := s.at hs hx.out
  have hK' : cs = SItem.cells x := hK
  subst hK'
  exact ⟨b, off, e, by simpa [kItem, Kd.flat] using hc 0 _ rfl, hc 1 _ rfl⟩
theorem Sl.tri {h : Hp} {A : Option Addr} {cap : Nat} {xs : List STri} {w : World} (s : Sl kTri h A cap xs) (hs : h.sub w) {i : Nat} {x : STri} (hx : Hid (xs[i]? = some x)) :
    ∃ b off, A = some ⟨b, off, .none⟩ ∧ w.cell? ⟨b, off + i * 3, .none⟩ = some (.int .i64 x.a) ∧ w.cell? ⟨b, off + i * 3 + 1, .none⟩ = some (.int .i64 x.b) ∧ w.cell? ⟨b, off + i * 3 + 2, .none⟩ = some (.int .i64 x.c) := by
  obtain ⟨b, off, cs, e, hK, _, hc⟩ := s.at hs hx.out
  have hK' : cs = STri.cells x := hK
  subst hK'
  exact ⟨b, off, e, by simpa [kTri, Kd.flat] using hc 0 _ rfl, hc 1 _ rfl, hc 2 _ rfl⟩

theorem map_set_step {α : Type} (f : α → α) : ∀ (xs : List α) (j : Nat) (x : α), xs[j]? = some x → ((xs.take j).map f ++ xs.drop j).set j (f x) = (xs.take (j + 1)).map f ++ xs.drop (j + 1)
  | [], j, x, h => by simp at h
  | y :: ys, 0, x, h => by simp at h; subst h; simp
  | y :: ys, j + 1, x, h => by
    have := map_set_step f ys j x (by simpa using h)
    simp only [List.take_succ_cons, List.map_cons, List.drop_succ_cons, List.cons_append, List.set_cons_succ, this]
theorem map_get_step {α : Type} (f : α → α) : ∀ (xs : List α) (j : Nat), ((xs.take j).map f ++ xs.drop j)[j]? = xs[j]?
  | [], j => by simp
  | y :: ys, 0 => by simp
  | y :: ys, j + 1 => by simpa using map_get_step f ys j

/-- '!=' as a Bool that no tactic looks into. -/
def neB {α : Type} [DecidableEq α] (x y : α) : Bool := !decide (x = y)
theorem neB_t {α : Type} [DecidableEq α] {x y : α} (h : x ≠ y) : neB x y = true := by simp [neB, h]
theorem neB_f {α : Type} [DecidableEq α] {x y : α} (h : x = y) : neB x y = false := by simp [neB, h]
/-- '==' as a Bool that no tactic looks into. -/
def eqB {α : Type} [DecidableEq α] (x y : α) : Bool := decide (x = y)
theorem eqB_t {α : Type} [DecidableEq α] {x y : α} (h : x = y) : eqB x y = true := by simp [eqB, h]
theorem eqB_f {α : Type} [DecidableEq α] {x y : α} (h : x ≠ y) : eqB x y = false := by simp [eqB, h]
theorem take_both {α : Type} {xs ys : List α} {j : Nat} {x y : α} (h1 : Hid (xs[j]? = some x)) (h2 : Hid (ys[j]? = some y)) :
    Hid (xs.take (j + 1) = ys.take (j + 1)) ↔ (Hid (xs.take j = ys.take j) ∧ x = y) := by
  have l1 := (List.getElem?_eq_some_iff.1 h1.out).1
  have l2 := (List.getElem?_eq_some_iff.1 h2.out).1
  unfold Hid
  rw [take_next h1, take_next h2]
  constructor
  · intro e
    have := List.append_inj e (by simp; omega)
    exact ⟨this.1, by simpa using this.2⟩
  · rintro ⟨e1, e2⟩; rw [e1, e2]

theorem Sl.litItem {h : Hp} {b n : Nat} {t : TypeId} {fr : Nat × Nat} {xs : List SItem} (hb : h b = some (.cells (xs.flatMap SItem.cells).toArray t fr)) (hn : xs.length = n) (hm : n ≤ maxLen) : Sl kItem h (some ⟨b, 0, .none⟩) n xs := by
  subst hn; exact Sl.lit hb hm
theorem Sl.litTri {h : Hp} {b n : Nat} {t : TypeId} {fr : Nat × Nat} {xs : List STri} (hb : h b = some (.cells (xs.flatMap STri.cells).toArray t fr)) (hn : xs.length = n) (hm : n ≤ maxLen) : Sl kTri h (some ⟨b, 0, .none⟩) n xs := by
  subst hn; exact Sl.lit hb hm
theorem Sl.litInt {h : Hp} {b n : Nat} {t : TypeId} {fr : Nat × Nat} {xs : List Int} (hb : h b = some (.cells (xs.flatMap fun x => [Value.int .i64 x]).toArray t fr)) (hn : xs.length = n) (hm : n ≤ maxLen) : Sl kInt h (some ⟨b, 0, .none⟩) n xs := by
  subst hn; exact Sl.lit hb hm

/-- Is an amount not too great to be converted? -/
def nearB (n : Int) : Bool := decide (-400000000000 ≤ n ∧ n ≤ 400000000000)
def sumAmt (xs : List SItem) : Int := (xs.map (·.amt)).sum
def convItems (xs : List SItem) (fx : Int) : List SItem := xs.map fun x => ⟨x.kind, partOf x.amt fx⟩
theorem sumAmt_snoc (xs : List SItem) (x : SItem) : sumAmt (xs ++ [x]) = sumAmt xs + x.amt := by simp [sumAmt]
theorem convItems_snoc (xs : List SItem) (x : SItem) (fx : Int) : convItems (xs ++ [x]) fx = convItems xs fx ++ [⟨x.kind, partOf x.amt fx⟩] := by simp [convItems]
theorem convItems_length (xs : List SItem) (fx : Int) : (convItems xs fx).length = xs.length := by simp [convItems]
theorem sumAmt_bd {b : Int} (hb : 0 ≤ b) : ∀ (xs : List SItem), (∀ x ∈ xs, -b ≤ x.amt ∧ x.amt ≤ b) → -(xs.length * b) ≤ sumAmt xs ∧ sumAmt xs ≤ xs.length * b
  | [], _ => by simp [sumAmt]
  | x :: xs, h => by
    have h1 := sumAmt_bd hb xs (fun y hy => h y (by simp [hy]))
    have h2 := h x (by simp)
    have e : sumAmt (x :: xs) = x.amt + sumAmt xs := by simp [sumAmt]
    rw [e]
    simp only [List.length_cons, Int.natCast_add, Int.add_mul, Int.natCast_one, Int.one_mul]
    omega

theorem partOf_one (n : Int) : partOf n 1000000 = n := by
  rcases Int.le_total 0 n with h | h
  · rw [partOf_pos h (by omega)]; omega
  · rw [partOf_neg h (by omega)]; omega
/-- How far a rounded part is from the part. -/
theorem partOf_err (n r : Int) (hr : 0 ≤ r) : -1000000 ≤ 2000000 * partOf n r - 2 * (n * r) ∧ 2000000 * partOf n r - 2 * (n * r) ≤ 1000000 := by
  rcases Int.le_total 0 n with h | h
  · rw [partOf_pos h hr]; omega
  · rw [partOf_neg h hr, Int.neg_mul]; omega
theorem conv_err (r : Int) (hr : 0 ≤ r) : ∀ xs : List SItem, -(xs.length * 1000000) ≤ 2000000 * sumAmt (convItems xs r) - 2 * (sumAmt xs * r) ∧ 2000000 * sumAmt (convItems xs r) - 2 * (sumAmt xs * r) ≤ xs.length * 1000000
  | [] => by simp [sumAmt, convItems]
  | x :: xs => by
    have h1 := conv_err r hr xs
    have h2 := partOf_err x.amt r hr
    have e1 : sumAmt (x :: xs) = x.amt + sumAmt xs := by simp [sumAmt]
    have e2 : sumAmt (convItems (x :: xs) r) = partOf x.amt r + sumAmt (convItems xs r) := by simp [sumAmt, convItems]
    rw [e1, e2, Int.add_mul]
    simp only [List.length_cons, Int.natCast_add, Int.natCast_one]
    omega
/-- The difference that rounding leaves is at most half a unit for each, and one. -/
theorem conv_diff (xs : List SItem) (r : Int) (hr : 0 ≤ r) : 2 * (partOf (sumAmt xs) r - sumAmt (convItems xs r)) ≤ xs.length + 1 ∧ -(xs.length : Int) - 1 ≤ 2 * (partOf (sumAmt xs) r - sumAmt (convItems xs r)) := by
  have h1 := conv_err r hr xs
  have h2 := partOf_err (sumAmt xs) r hr
  omega
theorem convItems_one (xs : List SItem) : convItems xs 1000000 = xs := by
  unfold convItems
  conv => rhs; rw [← List.map_id xs]
  refine List.map_congr_left fun x _ => ?_
  rw [partOf_one]; rfl

theorem tl_loop (a : ByteArray) : ∀ (n i : Nat) (r : List UInt8), a.size - i = n → ByteArray.toList.loop a i r = r.reverse ++ a.data.toList.drop i
  | 0, i, r, h => by
    unfold ByteArray.toList.loop
    rw [if_neg (by omega), List.drop_of_length_le (by show a.data.size ≤ i; have : a.size = a.data.size := rfl; omega)]; simp
  | n + 1, i, r, h => by
    unfold ByteArray.toList.loop
    rw [if_pos (by omega), tl_loop a n (i + 1) _ (by omega)]
    have hs : a.size = a.data.size := rfl
    rw [List.drop_eq_getElem_cons (show i < a.data.toList.length by simp; omega)]
    simp only [ByteArray.get!, List.reverse_cons, List.append_assoc, List.singleton_append, Array.getElem_toList]
    rw [getElem!_pos a.data i (by omega)]
theorem tl_data (a : ByteArray) : a.toList = a.data.toList := by unfold ByteArray.toList; rw [tl_loop a _ 0 [] rfl]; simp
theorem tl_inj {a b : ByteArray} (h : a.toList = b.toList) : a = b := by
  rw [tl_data, tl_data] at h; exact ByteArray.ext (Array.ext' h)
theorem tl_iff {a b : ByteArray} : a.toList = b.toList ↔ a = b := ⟨tl_inj, fun h => by rw [h]⟩
end Go.Sl
end
section
/- What an argument's reading as data gives a walk: slices of whole numbers. No program is named here. -/
namespace Go.Sl
open Go Go.RowKit

def I64 (n : Int) : Prop := -9223372036854775808 ≤ n ∧ n ≤ 9223372036854775807
theorem I64.of_wf {n : Int} (h : (Lit.int .i64 n).wf = true) : I64 n := by
  simp [Lit.wf, IntKind.min, IntKind.max, IntKind.signed, IntKind.bits] at h
  unfold I64
  omega

/-- Cells that read as whole numbers, as a slice. -/
theorem Sl.of_ints {w : World} {x : Addr} {n cap : Nat} {zs : List Int} (hn : n ≤ cap) (hm : cap ≤ maxLen) (hz : zs.length = cap)
    (hc : ∀ i, i < zs.length → w.cell? (x.add i) = some (.int .i64 (zs.getD i 0))) : Sl kInt (Hp.all w) (some x) cap (zs.take n) :=
  ⟨by rw [List.length_take]; omega, hm, (fun e => (nomatch e)), fun i y hy => by
    have hi : i < n ∧ i < zs.length := by
      rw [List.getElem?_take] at hy
      split at hy
      · exact ⟨by assumption, (List.getElem?_eq_some_iff.1 hy).1⟩
      · cases hy
    have hyi : zs[i]? = some y := by rw [List.getElem?_take, if_pos hi.1] at hy; exact hy
    have h0 := hc 0 (by omega)
    have hx0 : x.add 0 = x := by simp [Addr.add]
    rw [hx0] at h0
    obtain ⟨b, off, sp⟩ := x
    have hsp : sp = .none := by
      unfold World.cell? at h0
      split at h0
      · cases sp with
        | none => rfl
        | some s => simp at h0
      · cases h0
    subst hsp
    have hci := hc i hi.2
    rw [add_mk] at hci
    unfold World.cell? at hci
    split at hci
    · rename_i cur E fr hb
      refine ⟨b, off, cur, E, fr, [.int .i64 y], rfl, hb, rfl, fun j u hu => ?_⟩
      cases j with
      | zero =>
        simp at hu; subst hu
        have hg : zs.getD i 0 = y := by simp [List.getD, hyi]
        rw [hg] at hci
        simpa [kInt, Kd.flat] using hci
      | succ j => simp at hu
    · cases hci⟩
theorem I64.of_take {zs : List Int} {n : Nat} (h : ∀ z ∈ zs, (Lit.int .i64 z).wf = true) : ∀ z ∈ zs.take n, I64 z := fun z hz => I64.of_wf (h z (List.mem_of_mem_take hz))
end Go.Sl
end
section
/- What the rows' proofs share: the program's own facts, and a slice of whole numbers as the form hands it over. -/
namespace Go.Proofs.YtnfedcaehkcffaaGreat.Lift
open Go.ChangeShapes Go.WideShapes Go.ChangeAt Go.RowKit Go.Sl
set_option linter.unusedVariables false
set_option maxRecDepth 100000
theorem own : ownKnob Tryz.prog.godebug = none := by kernel_rfl
theorem laidOut : laidOutB Tryz.prog = true := by kernel_rfl
theorem ints_of {H : Type} {enc : TypeId × Value → H} {W : World} {base : Nat} {v : Value} {d : DataW H} {p : List MemPlace} (hv : Value.okWide Tryz.prog W .any base 35 v) (h0 : DataW.Trod enc Tryz.prog W 0 (fun _ => true) true 35 v d p) :
    ∃ A cap zs, v = .slice A (List.length zs) cap ∧ Sl kInt (Hp.all W) A cap zs ∧ ∀ z ∈ zs, I64 z := by
  obtain ⟨a0, len0, cap0, rfl⟩ := okWide_slice Tryz.underlying35 hv
  obtain ⟨fuel, hf⟩ := h0
  rcases open_ints Tryz.underlying35 Tryz.underlying3 (by kernel_rfl) hf with ⟨hcs, _⟩ | ⟨x, l, c, zs, hcs, _, hl, hm, hz, _, hcell, hwz⟩
  · simp [Value.cells] at hcs
    obtain ⟨rfl, rfl, rfl⟩ := hcs
    exact ⟨none, 0, [], rfl, Sl.none _ _, by simp⟩
  · simp [Value.cells] at hcs
    obtain ⟨rfl, rfl, rfl⟩ := hcs
    have hz' : zs.length = cap0 := by simpa using hz
    refine ⟨some x, cap0, zs.take len0, ?_, Sl.of_ints hl hm hz' hcell, I64.of_take hwz⟩
    rw [List.length_take, hz', Nat.min_eq_left hl]
end Go.Proofs.YtnfedcaehkcffaaGreat.Lift
end
section
/- The walks of the small functions: keep.Within, play.Amount, rate.Money, rate.Of, and the document's Of. -/
namespace Go.Proofs.YtnfedcaehkcffaaGreat
open Go.RowKit Go.Sl
set_option maxHeartbeats 400000

theorem within_calls (v n : Int) (w : World) (h : 0 < n) (hn : n ≤ 9223372036854775807) :
    Calls Tryz.prog 16 #[.int .i64 v, .int .i64 n] w fun e w' => e = .returned (.int .i64 (within v n)) ∧ w = w' := by
  have h0 : (n == 0) = false := by simp; omega
  have h1 : decide (n < 1) = false := by simp; omega
  by_cases hk : v.tmod n < 0
  · have e := Lib.hid (tmod_emod_neg h hk)
    have hlo : -n < v.tmod n := Int.lt_tmod_of_pos _ h
    go_enter Tryz.func16, Tryz.ntmps16
    go_wp2
    go_ret
    exact ⟨by rw [e.out]; rfl, rfl⟩
  · have e := Lib.hid (tmod_emod_pos h hk)
    go_enter Tryz.func16, Tryz.ntmps16
    go_wp2
    go_ret
    exact ⟨by rw [e.out]; rfl, rfl⟩

theorem money_calls (n : Int) (w : World) : Calls Tryz.prog 51 #[.int .i64 n] w fun e w' => e = .returned (.bool (money n)) ∧ w = w' := by
  go_enter Tryz.func51, Tryz.ntmps51
  go_wp2
  all_goals
    go_ret
    exact ⟨by simp [money]; omega, rfl⟩

theorem of_calls (n r : Int) (w : World) : Calls Tryz.prog 115 #[.int .i64 n, .int .i64 r] w fun e w' => e = .returned (.tuple #[.int .i64 (ofVal n r), .bool (ofOk n r)]) ∧ w = w' := by
  by_cases hok : -400000000000 ≤ n ∧ n ≤ 400000000000 ∧ 0 ≤ r ∧ r ≤ 10000000
  · obtain ⟨h1, h2, h3, h4⟩ := hok
    obtain ⟨p1, p2⟩ := mul_bd h1 h2 h3 h4
    have e1 : ofOk n r = true := by simp [ofOk]; omega
    have e2 : ofVal n r = partOf n r := by simp [ofVal, e1]
    rw [e1, e2]
    clear e1 e2
    go_enter Tryz.func115, Tryz.ntmps115
    go_wp2
    all_goals first | (exfalso; omega) | skip
    all_goals
      go_ret2
      refine ⟨?_, rfl⟩
      unfold partOf
      first | (rw [if_pos (by assumption)]; rfl) | (rw [if_neg (by omega)]; rfl)
  · have e1 : ofOk n r = false := by simp [ofOk]; omega
    have e2 : ofVal n r = 0 := by simp [ofVal, e1]
    rw [e1, e2]
    clear e1 e2
    go_enter Tryz.func115, Tryz.ntmps115
    go_wp2
    all_goals first | (exfalso; omega) | skip
    all_goals
      go_ret2
      exact ⟨rfl, rfl⟩

theorem amount_calls (n : Int) (hw : -9223372036854775808 ≤ n ∧ n ≤ 9223372036854775807) (w : World) :
    Calls Tryz.prog 34 #[.int .i64 n] w fun e w' => e = .returned (.int .i64 (amount n)) ∧ w = w' := by
  obtain ⟨w1, w2⟩ := hw
  have a5 := within_lo (n.tdiv 23) (n := 5) (by omega)
  have b5 := within_hi (n.tdiv 23) (n := 5) (by omega)
  have a2 := within_lo (n.tdiv 23) (n := 200000000001) (by omega)
  have b2 := within_hi (n.tdiv 23) (n := 200000000001) (by omega)
  have a4 := within_lo n (n := 4001) (by omega)
  have b4 := within_hi n (n := 4001) (by omega)
  by_cases c1 : n.tmod 23 = 20
  · have b1 : (n.tmod 23 == 20) = true := by simpa using c1
    have e := Lib.hid (show amount n = 100000000000 - within (n.tdiv 23) 5 + 2 by simp [amount, c1])
    clear c1
    go_enter Tryz.func34, Tryz.ntmps34
    go_wp2_with (go_at_call 16; refine (within_calls _ _ _ (by omega) (by omega)).mono ?_; rintro e w' ⟨rfl, rfl⟩)
    go_ret
    exact ⟨by rw [e.out]; rfl, rfl⟩
  have b1 : (n.tmod 23 == 20) = false := by simpa using c1
  by_cases c2 : n.tmod 23 = 21
  · have b1 : (n.tmod 23 == 21) = true := by simpa using c2
    have e := Lib.hid (show amount n = -100000000000 + within (n.tdiv 23) 5 - 2 by simp [amount, c2])
    clear c1 c2
    go_enter Tryz.func34, Tryz.ntmps34
    go_wp2_with (go_at_call 16; refine (within_calls _ _ _ (by omega) (by omega)).mono ?_; rintro e w' ⟨rfl, rfl⟩)
    go_ret
    exact ⟨by rw [e.out]; rfl, rfl⟩
  have d1 : (n.tmod 23 == 21) = false := by simpa using c2
  by_cases c3 : n.tmod 23 = 22
  · have b1 : (n.tmod 23 == 22) = true := by simpa using c3
    have e := Lib.hid (show amount n = n by simp [amount, c3])
    clear c1 c2 c3
    go_enter Tryz.func34, Tryz.ntmps34
    go_wp2
    go_ret
    exact ⟨by rw [e.out]; rfl, rfl⟩
  have d2 : (n.tmod 23 == 22) = false := by simpa using c3
  by_cases c4 : n.tmod 23 = 19
  · have b1 : (n.tmod 23 == 19) = true := by simpa using c4
    have e := Lib.hid (show amount n = within (n.tdiv 23) 200000000001 - 100000000000 by simp [amount, c4])
    clear c1 c2 c3 c4
    go_enter Tryz.func34, Tryz.ntmps34
    go_wp2_with (go_at_call 16; refine (within_calls _ _ _ (by omega) (by omega)).mono ?_; rintro e w' ⟨rfl, rfl⟩)
    go_ret
    exact ⟨by rw [e.out]; rfl, rfl⟩
  · have d3 : (n.tmod 23 == 19) = false := by simpa using c4
    have e := Lib.hid (show amount n = within n 4001 - 2000 by simp [amount, c1, c2, c3, c4])
    clear c1 c2 c3 c4
    go_enter Tryz.func34, Tryz.ntmps34
    go_wp2_with (go_at_call 16; refine (within_calls _ _ _ (by omega) (by omega)).mono ?_; rintro e w' ⟨rfl, rfl⟩)
    go_ret
    exact ⟨by rw [e.out]; rfl, rfl⟩

theorem refOf_pos (n r : Int) (h : 0 ≤ n) (w : World) : Calls Tryz.prog 145 #[.int .i64 n, .int .i64 r] w fun e w' => e = .returned (.tuple #[.int .i64 (ofVal n r), .bool (ofOk n r)]) ∧ w = w' := by
  have hn : (n == 0) = true ∨ (n == 0) = false := by cases (n == 0) <;> simp
  by_cases hok : n ≤ 400000000000 ∧ 0 ≤ r ∧ r ≤ 10000000
  · obtain ⟨h2, h3, h4⟩ := hok
    obtain ⟨p1, p2⟩ := mul_bd (n := n) (by omega) h2 h3 h4
    have e1 : ofOk n r = true := by simp [ofOk]; omega
    have e2 : ofVal n r = partOf n r := by simp [ofVal, e1]
    have p3 : 0 ≤ n * r := Int.mul_nonneg h h3
    have p4 : n * r ≤ 4000000000000000000 := by rw [Int.mul_assoc] at p2; omega
    have p5 : partOf n r = if 2 * (n * r % 1000000) ≥ 1000000 then n * r / 1000000 + 1 else n * r / 1000000 := by
      unfold partOf
      rw [if_neg (by omega), Int.mul_assoc, Int.tdiv_eq_ediv_of_nonneg (by omega)]
      split <;> omega
    have P5 := Lib.hid p5
    rw [e1, e2]
    clear e1 e2 p1 p2 p5 hn
    go_enter Tryz.func145, Tryz.ntmps145
    go_wp2
    all_goals first | (exfalso; omega) | skip
    all_goals
      go_ret2
      refine ⟨?_, rfl⟩
      rw [P5.out]
      first | (rw [if_pos (by omega)]; rfl) | (rw [if_neg (by omega)]; rfl)
  · have e1 : ofOk n r = false := by simp [ofOk]; omega
    have e2 : ofVal n r = 0 := by simp [ofVal, e1]
    rw [e1, e2]
    clear e1 e2 hn
    go_enter Tryz.func145, Tryz.ntmps145
    go_wp2
    all_goals first | (exfalso; omega) | skip
    all_goals
      go_ret2
      exact ⟨rfl, rfl⟩
theorem refOf_calls (n r : Int) (w : World) : Calls Tryz.prog 145 #[.int .i64 n, .int .i64 r] w fun e w' => e = .returned (.tuple #[.int .i64 (ofVal n r), .bool (ofOk n r)]) ∧ w = w' := by
  by_cases h : 0 ≤ n
  · exact refOf_pos n r h w
  have hb := ofVal_neg n r
  by_cases hok : -400000000000 ≤ n ∧ 0 ≤ r ∧ r ≤ 10000000
  · obtain ⟨h2, h3, h4⟩ := hok
    have e1 : ofOk n r = true := by simp [ofOk]; omega
    have e3 := ofOk_neg n r
    have e2 : -ofVal (-n) r = ofVal n r := by omega
    obtain ⟨b1, b2⟩ := ofVal_bd (-n) r
    have E2 := Lib.hid e2
    have E1 := Lib.hid e1
    have C := refOf_pos (-n) r (by omega)
    rw [e3, e1] at C
    have hlt : n < 0 := by omega
    rw [e1]
    clear e1 e2 e3 hb h
    go_enter Tryz.func145, Tryz.ntmps145
    go_wp2_with (go_at_call 145; refine (C _).mono ?_; rintro e w' ⟨rfl, rfl⟩)
    all_goals first | (exfalso; omega) | skip
    all_goals
      go_ret2
      exact ⟨by rw [← E2.out]; rfl, rfl⟩
  · have e1 : ofOk n r = false := by simp [ofOk]; omega
    have e2 : ofVal n r = 0 := by simp [ofVal, e1]
    rw [e1, e2]
    clear e1 e2 hb
    go_enter Tryz.func145, Tryz.ntmps145
    go_wp2_with fail
    all_goals first | (exfalso; omega) | skip
    all_goals
      go_ret2
      exact ⟨rfl, rfl⟩
end Go.Proofs.YtnfedcaehkcffaaGreat
end
section
/- append onto a slice that has no room: what it held stands. No program is named here. -/
namespace Go.Sl
open Go Go.RowKit
section
variable {P : Program} {α : Type} {k : Kd α} {h : Hp} {B : Option Addr} {g off : Nat} {xs ys : List α}
theorem run_append_full {w : World} {t ty e : TypeId} {i : TypeInfo} {z : Value} (ht : P.underlying t = some (.slice e)) (hi : P.info? e = some i) (hz : i.zero = some z)
    (hsize : i.size = k.size) (f : k.Flat) (o : Sl k h (some ⟨g, off, none⟩) xs.length xs) (s : h.sub w) (src : Src k Hp.none w B ys) (c : Nat)
    (hm : xs.length + ys.length ≤ maxLen) (hby : (xs.length + ys.length) * i.bytes ≤ 140737488355328) :
    ∃ A' cap' w', (Builtin.append_ #[t, t] ty #[.slice (some ⟨g, off, none⟩) xs.length xs.length, .slice B ys.length c]).run P w = .ok (.slice A' (xs.length + ys.length) cap') w' ∧
      Sl k (Hp.all w') A' cap' (xs ++ ys) ∧ Below w.heap.size w w' := by
  have hsmall : xs.length + ys.length ≤ 9223372036854775807 := by unfold maxLen at hm; omega
  by_cases hy0 : ys = []
  · subst hy0
    refine ⟨some ⟨g, off, none⟩, xs.length, w, ?_, by simpa using o.mono s.le_all, Below.refl _ _⟩
    cases B with
    | none => simp [Builtin.append_, run_underlying ht, sizeOf, typeInfo, hi, Builtin.lenOf, Builtin.firstCells, storeCells]
    | some ad => simp [Builtin.append_, run_underlying ht, sizeOf, typeInfo, hi, Builtin.lenOf, Builtin.firstCells, storeCells, loadCells, loadCellsFrom]
  · have hpos : 0 < ys.length := List.length_pos_iff.2 hy0
    obtain ⟨bb, boff, rfl⟩ : ∃ bb boff, B = some ⟨bb, boff, none⟩ := by
      obtain ⟨b, off, _, e, _⟩ := src.row 0 ys[0] (by simp [hpos])
      exact ⟨_, _, e⟩
    obtain ⟨news, hnl, hnews, hn1, hnK⟩ := src.all
    obtain ⟨olds, hol, holds, _, hoK⟩ := ((o.src s).flat f Hp.none).all
    have hge := grownCap_ge w (xs.length + ys.length) xs.length e
    have hcm : grownCap w (xs.length + ys.length) xs.length e ≤ maxLen := grownCap_le_maxLen w _ _ e hm
    have hr := run_append_grow (P := P) w t ty e i z ht hi hz ⟨g, off, none⟩ xs.length xs.length olds (by rw [hol, hsize]) holds ⟨bb, boff, none⟩ ys.length c news (by rw [hnl, hsize]) hnews (by omega) (by omega) (growslice_fits (by omega) hby)
    refine ⟨_, _, _, hr, ⟨by simp; omega, hcm, (fun e => (nomatch e)), ?_⟩, ?_⟩
    · intro n x hx
      have hnew := heap_alloc_new w.drew (.cells (olds.toArray ++ news.toArray ++ Builtin.zeroCells z.cells (grownCap w (xs.length + ys.length) xs.length e - (xs.length + ys.length))) e)
      by_cases hlt : n < xs.length
      · rw [List.getElem?_append_left hlt] at hx
        obtain ⟨cs, hK, hc⟩ := hoK n x hx
        refine ⟨w.heap.size, 0, _, e, (0, 0), cs, rfl, hnew, f hK, fun j u hu => ?_⟩
        have h2 := hc j u hu
        have h3 := (List.getElem?_eq_some_iff.1 h2).1
        simp only [Nat.zero_add, Array.getElem?_append, Array.size_append, List.size_toArray, List.getElem?_toArray]
        rw [if_pos (by omega), if_pos h3]; exact h2
      · rw [List.getElem?_append_right (by omega)] at hx
        obtain ⟨cs, hK, hc⟩ := hnK _ x hx
        refine ⟨w.heap.size, 0, _, e, (0, 0), cs, rfl, hnew, f hK, fun j u hu => ?_⟩
        have h2 := hc j u hu
        have h3 := (List.getElem?_eq_some_iff.1 h2).1
        have h4 : (n - xs.length) * k.size = n * k.size - xs.length * k.size := Nat.sub_mul _ _ _
        have h5 : xs.length * k.size ≤ n * k.size := Nat.mul_le_mul_right _ (by omega)
        simp only [Nat.zero_add, Array.getElem?_append, Array.size_append, List.size_toArray, List.getElem?_toArray]
        rw [if_pos (by omega), if_neg (by omega), ← h2]; congr 1; omega
    · exact ((Below.refl _ _).drew).alloc (Nat.le_refl _) _
theorem wp_append_full {w : World} {op : Oper} {a : Act} {K : Act → World → Prop} {Q : Exit → Act → World → Prop} (sx xx : Operand) (t : TypeId)
    (ho : op.op = .call { callee := .builtin .append, args := #[sx, xx], argTypes := #[t, t] })
    (e : TypeId) (i : TypeInfo) (z : Value) (ht : P.underlying t = some (.slice e)) (hi : P.info? e = some i) (hz : i.zero = some z)
    (hsize : i.size = k.size) (bytes : Nat) (hbt : i.bytes = bytes) (n m c : Nat) (hn : xs.length = n) (hm' : ys.length = m)
    (hsv : a.eval sx = .slice (some ⟨g, off, none⟩) n n) (hxv : a.eval xx = .slice B m c)
    (f : k.Flat) (o : Sl k h (some ⟨g, off, none⟩) n xs) (s : h.sub w) (src : Src k Hp.none w B ys)
    (hm : n + m ≤ maxLen) (hby : (n + m) * bytes ≤ 140737488355328)
    (H : ∀ A' cap' w', Sl k (Hp.all w') A' cap' (xs ++ ys) → Below w.heap.size w w' → K (a.put op.dst (.slice A' (n + m) cap')) w') : op.wp P a w K Q := by
  subst hn
  subst hm'
  subst hbt
  obtain ⟨A', cap', w', hr, h1, h2⟩ := run_append_full (P := P) (ty := op.type) ht hi hz hsize f o s src c hm hby
  unfold Oper.wp execOp
  simp only [ho, resolve, invoke, builtin, Sem.run_bind, Sem.run_pure, Result.andThen_ok, List.map_toArray, List.map_cons, List.map_nil, hsv, hxv, hr]
  exact H A' cap' w' h1 h2
theorem step_append_full {w : World} {ops : Array Oper} {op : Oper} {a : Act} {K : Act → World → Prop} {Q : Exit → Act → World → Prop} {E : Prop} (hgd : op.guard = none) (sx xx : Operand) (t : TypeId)
    (ho : op.op = .call { callee := .builtin .append, args := #[sx, xx], argTypes := #[t, t] })
    (e : TypeId) (i : TypeInfo) (z : Value) (ht : P.underlying t = some (.slice e)) (hi : P.info? e = some i) (hz : i.zero = some z)
    (hsize : i.size = k.size) (bytes : Nat) (hbt : i.bytes = bytes) (n m c : Nat) (hn : xs.length = n) (hm' : ys.length = m)
    (hsv : a.eval sx = .slice (some ⟨g, off, none⟩) n n) (hxv : a.eval xx = .slice B m c)
    (f : k.Flat) (o : Sl k h (some ⟨g, off, none⟩) n xs) (s : h.sub w) (src : Src k Hp.none w B ys)
    (hm : n + m ≤ maxLen) (hby : (n + m) * bytes ≤ 140737488355328)
    (H : ∀ A' cap' w', Sl k (Hp.all w') A' cap' (xs ++ ys) → Below w.heap.size w w' → K (a.put op.dst (.slice A' (n + m) cap')) w') :
    if Region.wanted op (yielded ops a.tmps) = true then Oper.wp P op a w K Q else E := by
  rw [if_pos (by simp [Region.wanted, hgd])]
  exact wp_append_full sx xx t ho e i z ht hi hz hsize bytes hbt n m c hn hm' hsv hxv f o s src hm hby H
/-- A slice, cut short, may hold no more. -/
theorem Sl.cut {A : Option Addr} {cap : Nat} (o : Sl k h A cap xs) {n : Nat} (hn : n ≤ xs.length) : Sl k h A n (xs.take n) := by
  have hle := o.le
  have hmx := o.max
  refine ⟨by rw [List.length_take]; omega, by omega, fun e => by have := o.nil e; omega, fun i x hx => ?_⟩
  rw [List.getElem?_take] at hx
  split at hx
  · exact o.row i x hx
  · cases hx
/-- What lies behind the first n, as a slice expression has it. -/
theorem Sl.behind {cap : Nat} (s : Sl k h (some ⟨g, off, .none⟩) cap xs) (n : Nat) : Sl k h (if cap = n then some ⟨g, off, .none⟩ else some ⟨g, off + n * k.size, .none⟩) (cap - n) (xs.drop n) := by
  split
  · have := s.le
    rw [List.drop_eq_nil_of_le (by omega)]
    exact ⟨by simp, by have := s.max; omega, (fun e => nomatch e), fun i x hx => by simp at hx⟩
  · exact s.drop rfl n
end
end Go.Sl
end
section
/- More of the library for walks: append of one new element, clones, pointers to structs. No program is named here. -/
namespace Go.Sl
open Go Go.RowKit
section
variable {P : Program} {α : Type} {k : Kd α} {h hx : Hp} {A B : Option Addr} {cap : Nat} {xs ys : List α} {w : World}
/-- What the table says of an element's type. -/
def Info (P : Program) (e : TypeId) (z : Value) (size bytes : Nat) : Prop := (P.info? e).map (fun i => (i.zero, i.size, i.bytes)) = some (some z, size, bytes)
theorem wp_app1 {op : Oper} {a : Act} {K : Act → World → Prop} {Q : Exit → Act → World → Prop} {sx xx : Operand} {t e : TypeId} {z : Value} {bytes : Nat} {y : α} {cs : List Value} {T : TypeId} {fr : Nat × Nat} {b : Nat}
    (ht : P.underlying t = some (.slice e)) (hinfo : Info P e z k.size bytes) (hzs : z.cells.size = k.size)
    (ho : op.op = .call { callee := .builtin .append, args := #[sx, xx], argTypes := #[t, t] }) (n c : Nat) (hsv : a.eval sx = .slice A n cap) (hxv : a.eval xx = .slice (some ⟨b, 0, none⟩) 1 c)
    (hn : xs.length = n) (o : Ow k h A cap xs) (s : h.sub w) (hb : w.heap[b]? = some (.cells cs.toArray T fr)) (hK : k.K hx y cs) (sx' : hx.sub w) (ap : h.apart hx)
    (hm : n + 1 ≤ 1000000000) (hby : bytes ≤ 1000)
    (H : ∀ A' cap' w' h', Ow k h' A' cap' (xs ++ [y]) → Upd (h.or hx) h' w w' → K (a.put op.dst (.slice A' (n + 1) cap')) w') : op.wp P a w K Q := by
  unfold Info at hinfo
  obtain ⟨i, hi, hz0, hz1, hz2⟩ := info_parts hinfo
  refine wp_append sx xx t ho e i z ht hi hz0 hz1 hzs bytes hz2 n 1 c hn rfl hsv hxv o s (Src.new hb hK) sx' ap (by unfold maxLen; omega) ?_ H
  have : (n + 1) * bytes ≤ 1000000000 * 1000 := Nat.mul_le_mul hm hby
  omega
theorem wpList_app1 {ops : Array Oper} {rest : List Oper} {op : Oper} {a : Act} {Q : Exit → Act → World → Prop} {sx xx : Operand} {t e : TypeId} {z : Value} {bytes : Nat} {y : α} {cs : List Value} {T : TypeId} {fr : Nat × Nat} {b : Nat}
    (ht : P.underlying t = some (.slice e)) (hinfo : Info P e z k.size bytes) (hzs : z.cells.size = k.size) (hgd : Region.wanted op (yielded ops a.tmps) = true)
    (ho : op.op = .call { callee := .builtin .append, args := #[sx, xx], argTypes := #[t, t] }) (n c : Nat) (hsv : a.eval sx = .slice A n cap) (hxv : a.eval xx = .slice (some ⟨b, 0, none⟩) 1 c)
    (hn : xs.length = n) (o : Ow k h A cap xs) (s : h.sub w) (hb : w.heap[b]? = some (.cells cs.toArray T fr)) (hK : k.K hx y cs) (sx' : hx.sub w) (ap : h.apart hx)
    (hm : n + 1 ≤ 1000000000) (hby : bytes ≤ 1000)
    (H : ∀ A' cap' w' h', Ow k h' A' cap' (xs ++ [y]) → Upd (h.or hx) h' w w' → wpList P ops Q rest (a.put op.dst (.slice A' (n + 1) cap')) w') : wpList P ops Q (op :: rest) a w := by
  simp only [wpList, hgd, if_true]
  exact .inl (wp_app1 ht hinfo hzs ho n c hsv hxv hn o s hb hK sx' ap hm hby H)
theorem step_app1 {ops : Array Oper} {op : Oper} {a : Act} {K : Act → World → Prop} {Q : Exit → Act → World → Prop} {E : Prop} {sx xx : Operand} {t e : TypeId} {z : Value} {bytes : Nat} {y : α} {cs : List Value} {T : TypeId} {fr : Nat × Nat} {b : Nat}
    (ht : P.underlying t = some (.slice e)) (hinfo : Info P e z k.size bytes) (hzs : z.cells.size = k.size) (hgd : op.guard = none)
    (ho : op.op = .call { callee := .builtin .append, args := #[sx, xx], argTypes := #[t, t] }) (n c : Nat) (hsv : a.eval sx = .slice A n cap) (hxv : a.eval xx = .slice (some ⟨b, 0, none⟩) 1 c)
    (hn : xs.length = n) (o : Ow k h A cap xs) (s : h.sub w) (hb : w.heap[b]? = some (.cells cs.toArray T fr)) (hK : k.K hx y cs) (sx' : hx.sub w) (ap : h.apart hx)
    (hm : n + 1 ≤ 1000000000) (hby : bytes ≤ 1000)
    (H : ∀ A' cap' w' h', Ow k h' A' cap' (xs ++ [y]) → Upd (h.or hx) h' w w' → K (a.put op.dst (.slice A' (n + 1) cap')) w') :
    if Region.wanted op (yielded ops a.tmps) = true then Oper.wp P op a w K Q else E := by
  rw [if_pos (by simp [Region.wanted, hgd])]
  exact wp_app1 ht hinfo hzs ho n c hsv hxv hn o s hb hK sx' ap hm hby H
/-- The same for elements whose cells say all. -/
theorem wpList_app1f {ops : Array Oper} {rest : List Oper} {op : Oper} {a : Act} {Q : Exit → Act → World → Prop} {sx xx : Operand} {t e : TypeId} {z : Value} {bytes : Nat} {y : α} {cs : List Value} {T : TypeId} {fr : Nat × Nat} {b : Nat}
    (ht : P.underlying t = some (.slice e)) (hinfo : Info P e z k.size bytes) (hzs : z.cells.size = k.size) (hgd : Region.wanted op (yielded ops a.tmps) = true)
    (ho : op.op = .call { callee := .builtin .append, args := #[sx, xx], argTypes := #[t, t] }) (n c : Nat) (hsv : a.eval sx = .slice A n cap) (hxv : a.eval xx = .slice (some ⟨b, 0, none⟩) 1 c)
    (hn : xs.length = n) (o : Ow k h A cap xs) (s : h.sub w) (hb : w.heap[b]? = some (.cells cs.toArray T fr)) (hK : k.K Hp.none y cs)
    (hm : n + 1 ≤ 1000000000) (hby : bytes ≤ 1000)
    (H : ∀ A' cap' w' h', Ow k h' A' cap' (xs ++ [y]) → Upd h h' w w' → wpList P ops Q rest (a.put op.dst (.slice A' (n + 1) cap')) w') : wpList P ops Q (op :: rest) a w :=
  wpList_app1 ht hinfo hzs hgd ho n c hsv hxv hn o s hb hK (Hp.none_sub _) (Hp.apart_none _) hm hby fun A' cap' w' h' h1 h2 => H A' cap' w' h' h1 h2.flat
theorem step_app1f {ops : Array Oper} {op : Oper} {a : Act} {K : Act → World → Prop} {Q : Exit → Act → World → Prop} {E : Prop} {sx xx : Operand} {t e : TypeId} {z : Value} {bytes : Nat} {y : α} {cs : List Value} {T : TypeId} {fr : Nat × Nat} {b : Nat}
    (ht : P.underlying t = some (.slice e)) (hinfo : Info P e z k.size bytes) (hzs : z.cells.size = k.size) (hgd : op.guard = none)
    (ho : op.op = .call { callee := .builtin .append, args := #[sx, xx], argTypes := #[t, t] }) (n c : Nat) (hsv : a.eval sx = .slice A n cap) (hxv : a.eval xx = .slice (some ⟨b, 0, none⟩) 1 c)
    (hn : xs.length = n) (o : Ow k h A cap xs) (s : h.sub w) (hb : w.heap[b]? = some (.cells cs.toArray T fr)) (hK : k.K Hp.none y cs)
    (hm : n + 1 ≤ 1000000000) (hby : bytes ≤ 1000)
    (H : ∀ A' cap' w' h', Ow k h' A' cap' (xs ++ [y]) → Upd h h' w w' → K (a.put op.dst (.slice A' (n + 1) cap')) w') :
    if Region.wanted op (yielded ops a.tmps) = true then Oper.wp P op a w K Q else E :=
  step_app1 ht hinfo hzs hgd ho n c hsv hxv hn o s hb hK (Hp.none_sub _) (Hp.apart_none _) hm hby fun A' cap' w' h' h1 h2 => H A' cap' w' h' h1 h2.flat
/-- append of a whole slice of flat elements. -/
theorem wpList_appF {ops : Array Oper} {rest : List Oper} {op : Oper} {a : Act} {Q : Exit → Act → World → Prop} {sx xx : Operand} {t e : TypeId} {z : Value} {bytes cb : Nat}
    (ht : P.underlying t = some (.slice e)) (hinfo : Info P e z k.size bytes) (hzs : z.cells.size = k.size) (hgd : Region.wanted op (yielded ops a.tmps) = true)
    (ho : op.op = .call { callee := .builtin .append, args := #[sx, xx], argTypes := #[t, t] }) (n m c : Nat) (hsv : a.eval sx = .slice A n cap) (hxv : a.eval xx = .slice B m c)
    (hn : xs.length = n) (hm' : ys.length = m) (f : k.Flat) (o : Ow k h A cap xs) (s : h.sub w) (sy : Sl k hx B cb ys) (sx' : hx.sub w)
    (hm : n + m ≤ 1000000000) (hby : bytes ≤ 1000)
    (H : ∀ A' cap' w' h', Ow k h' A' cap' (xs ++ ys) → Upd h h' w w' → wpList P ops Q rest (a.put op.dst (.slice A' (n + m) cap')) w') : wpList P ops Q (op :: rest) a w := by
  unfold Info at hinfo
  obtain ⟨i, hi, hz0, hz1, hz2⟩ := info_parts hinfo
  refine wpList_append_g hgd sx xx t ho e i z ht hi hz0 hz1 hzs bytes hz2 n m c hn hm' hsv hxv o s ((sy.src sx').flat f Hp.none) (Hp.none_sub _) (Hp.apart_none _) (by unfold maxLen; omega) ?_ (fun A' cap' w' h' h1 h2 => H A' cap' w' h' h1 h2.flat)
  have : (n + m) * bytes ≤ 1000000000 * 1000 := Nat.mul_le_mul hm hby
  omega
/-- append(s[:0:0], s...): a copy in new memory. -/
theorem wpList_clone {ops : Array Oper} {rest : List Oper} {op : Oper} {a : Act} {Q : Exit → Act → World → Prop} {sx xx : Operand} {t e : TypeId} {z : Value} {bytes : Nat}
    (ht : P.underlying t = some (.slice e)) (hinfo : Info P e z k.size bytes) (hzs : z.cells.size = k.size) (hgd : Region.wanted op (yielded ops a.tmps) = true)
    (ho : op.op = .call { callee := .builtin .append, args := #[sx, xx], argTypes := #[t, t] }) (n c : Nat) (hsv : a.eval sx = .slice B 0 0) (hxv : a.eval xx = .slice A n c)
    (hn : xs.length = n) (f : k.Flat) (o : Sl k h A cap xs) (s : h.sub w) (hm : n ≤ 1000000000) (hby : bytes ≤ 1000)
    (H : ∀ A' cap' w' h', Ow k h' A' cap' xs → Upd Hp.none h' w w' → wpList P ops Q rest (a.put op.dst (.slice A' n cap')) w') : wpList P ops Q (op :: rest) a w := by
  unfold Info at hinfo
  obtain ⟨i, hi, hz0, hz1, hz2⟩ := info_parts hinfo
  refine wpList_append_g hgd sx xx t ho e i z ht hi hz0 hz1 hzs bytes hz2 0 n c rfl hn hsv hxv (Ow.zero k Hp.none B) (Hp.none_sub _) ((o.src s).flat f Hp.none) (Hp.none_sub _) (Hp.apart_none _) (by unfold maxLen; omega) ?_ ?_
  · have : (0 + n) * bytes ≤ 1000000000 * 1000 := Nat.mul_le_mul (by omega) hby
    omega
  · intro A' cap' w' h' h1 h2
    rw [Nat.zero_add]
    exact H A' cap' w' h' h1 h2.flat
end
/-- A pointer's block, wholly h's: a struct of the kind k. -/
def Pt {α : Type} (k : Kd α) (T : TypeId) (h : Hp) (b : Nat) (x : α) : Prop := ∃ cs : List Value, h b = some (.cells cs.toArray T (0, 0)) ∧ k.K (h.del b) x cs
section
variable {α : Type} {k : Kd α} {h : Hp} {T : TypeId} {b : Nat} {x : α} {w : World}
theorem Pt.block (p : Pt k T h b x) (s : h.sub w) : ∃ cs : List Value, w.heap[b]? = some (.cells cs.toArray T (0, 0)) ∧ k.K (h.del b) x cs := by
  obtain ⟨cs, h1, h2⟩ := p; exact ⟨cs, s b _ h1, h2⟩
theorem Hp.sub.del {h : Hp} {w : World} (s : h.sub w) (b : Nat) : (h.del b).sub w := s.le (Hp.del_le h b)
theorem Hp.put_sub {h : Hp} {b : Nat} {o : Obj} {w : World} (s : h.sub w) (e : w.heap[b]? = some o) : (h.put b o).sub w := fun q o' e' => by
  simp only [Hp.put] at e'
  split at e'
  · rename_i hq; cases e'; rw [hq]; exact e
  · exact s q o' e'
theorem Hp.put_del {h : Hp} {b : Nat} {o : Obj} (e : h b = Option.none) : (h.put b o).del b = h := by
  funext q; simp only [Hp.del, Hp.put]; split
  · rename_i hq; rw [hq, e]
  · rfl
theorem Hp.put_self {h : Hp} {b : Nat} {o : Obj} : (h.put b o) b = some o := if_pos rfl
theorem Hp.del_self {h : Hp} {b : Nat} : (h.del b) b = Option.none := if_pos rfl
/-- A new block beside what is there. -/
theorem Pt.new {cs : List Value} {x : α} (n : h b = Option.none) (hK : k.K h x cs) : Pt k T (h.put b (.cells cs.toArray T)) b x :=
  ⟨cs, Hp.put_self, by rw [Hp.put_del n]; exact hK⟩
/-- What was made before, eaten by a change. -/
theorem Upd.eat {hx hl hl' : Hp} {w0 w1 : World} (u : Upd Hp.none hx w w0) (v : Upd (hl.or hx) hl' w0 w1) : Upd hl hl' w w1 :=
  ⟨v.os.trans u.os, v.tape.trans u.tape, v.output.trans u.output, Nat.le_trans u.size v.size,
    fun q hq hn => (v.keep q (Nat.lt_of_lt_of_le hq u.size) (by simp [Hp.or, hn, u.new_none hq])).trans (u.keep q hq rfl), v.sub, fun q hq => by
      rcases v.dom q hq with h1 | h1
      · by_cases hn : hl q = .none
        · simp only [Hp.or, hn, Option.none_or] at h1
          rcases u.dom q h1 with h2 | h2
          · exact absurd rfl h2
          · exact .inr h2
        · exact .inl hn
      · exact .inr (Nat.le_trans u.size h1)⟩
/-- A block of the part is stored into, behind a change of the rest. -/
theorem Upd.field {hr r' : Hp} {w1 : World} {cs : List Value} {v : Value} (j : Nat) (hb : h b = some (.cells cs.toArray T (0, 0))) (s : h.sub w) (hr' : hr.le (h.del b)) (u : Upd hr r' w w1) :
    Upd h (r'.put b (.cells (cs.set j v).toArray T (0, 0))) w (w1.setCell ⟨b, j, .none⟩ v) ∧ r' b = .none := by
  have hbw := s b _ hb
  have hlt := s.lt (b := b) (by simp [hb])
  have hrn : hr b = .none := by
    cases hh : hr b with
    | none => rfl
    | some o => have := hr' b o hh; simp [Hp.del] at this
  have hb1 : w1.heap[b]? = some (.cells cs.toArray T (0, 0)) := (u.keep b hlt hrn).trans hbw
  have e1 : w1.setCell ⟨b, j, .none⟩ v = w1.setRow b (cs.toArray.setIfInBounds j v) := setCell_eq_setRow w1 b _ _ T (0, 0) v hb1
  have e2 : cs.toArray.setIfInBounds j v = (cs.set j v).toArray := by simp
  have hr0 : r' b = .none := by
    cases hh : r' b with
    | none => rfl
    | some o =>
      rcases u.dom b (by simp [hh]) with h1 | h1
      · exact absurd hrn h1
      · omega
  rw [e1, e2]
  refine ⟨⟨u.os, u.tape, u.output, by simpa using u.size, fun q hq hn => ?_, ?_, fun q hq => ?_⟩, hr0⟩
  · have hqb : q ≠ b := fun e => by rw [e, hb] at hn; cases hn
    rw [setRow_other w1 b q _ hqb]
    refine u.keep q hq ?_
    cases hh : hr q with
    | none => rfl
    | some o => have := Hp.del_le h b q o (hr' q o hh); rw [hn] at this; cases this
  · intro q o2 e2
    simp only [Hp.put] at e2
    split at e2
    · rename_i hq; cases e2; rw [hq]; exact setRow_heap w1 b _ _ T _ hb1
    · rename_i hq; rw [setRow_other w1 b q _ hq]; exact u.sub q o2 e2
  · simp only [Hp.put] at hq
    split at hq
    · rename_i hq2; left; rw [hq2, hb]; simp
    · rcases u.dom q hq with h1 | h1
      · left
        cases hh : hr q with
        | none => exact absurd hh h1
        | some o => rw [Hp.del_le h b q o (hr' q o hh)]; simp
      · exact .inr h1
end
/-- All that stood below reads as it did. -/
theorem bcell {W w1 : World} (hb : Below W.heap.size W w1) : (∀ b o, b < W.heap.size → w1.cell? ⟨b, o, .none⟩ = W.cell? ⟨b, o, .none⟩) ∧ (∀ b o, b < W.heap.size → w1.frozen? ⟨b, o, .none⟩ = W.frozen? ⟨b, o, .none⟩) :=
  ⟨fun b o h => hb.cell (p := ⟨b, o, .none⟩) h, fun b o h => hb.frozen (p := ⟨b, o, .none⟩) h⟩
/-- A store into a block of the call's own that is not told. -/
theorem Upd.setNew {h h' : Hp} {w w1 : World} {b j : Nat} {v : Value} (u : Upd h h' w w1) (hb : w.heap.size ≤ b) (hn : h' b = .none) : Upd h h' w (w1.setCell ⟨b, j, .none⟩ v) := by
  have B : ∀ q, q ≠ b → (w1.setCell ⟨b, j, .none⟩ v).heap[q]? = w1.heap[q]? := fun q hq => Below.heap_setCell w1 ⟨b, j, .none⟩ v q hq
  have S : (w1.setCell ⟨b, j, .none⟩ v).heap.size = w1.heap.size := by simp
  have G : Below b w1 (w1.setCell ⟨b, j, .none⟩ v) := (Below.refl b w1).setCell (Nat.le_refl _) v
  refine ⟨G.os.trans u.os, G.tape.trans u.tape, G.output.trans u.output, by rw [S]; exact u.size, fun q hq hn => ?_, fun q o e => ?_, u.dom⟩
  · rw [B q (by omega)]; exact u.keep q hq hn
  · rw [B q (fun e2 => by rw [e2, hn] at e; cases e)]; exact u.sub q o e
theorem Upd.frozen {h h' : Hp} {w w' : World} (u : Upd h h' w w') {p : Addr} (hp : p.block < w.heap.size) (hn : h p.block = .none) : w'.frozen? p = w.frozen? p :=
  World.frozen?_of_block (w := w) (u.keep p.block hp hn)
theorem frozen_alloc {w : World} {o : Obj} {b n : Nat} (h : b < w.heap.size) : (w.alloc o).frozen? ⟨b, n, .none⟩ = w.frozen? ⟨b, n, .none⟩ := ((Below.refl _ _).alloc (Nat.le_refl _) o).frozen h
theorem cell_alloc {w : World} {o : Obj} {b n : Nat} (h : b < w.heap.size) : (w.alloc o).cell? ⟨b, n, .none⟩ = w.cell? ⟨b, n, .none⟩ := ((Below.refl _ _).alloc (Nat.le_refl _) o).cell h
theorem cell_new {w : World} {cs : Array Value} {T : TypeId} {b i : Nat} (hb : b = w.heap.size) : (w.alloc (.cells cs T)).cell? ⟨b, i, .none⟩ = cs[i]? := cell_of_row _ b i cs T (0, 0) (heap_new_at hb)
end Go.Sl
end
section
/- More structs of the program as plain Lean, and how each lies in memory. No program is named here. -/
namespace Go.Sl
open Go Go.RowKit
/-- SWay, as its cells. -/
structure SWay where
  cls : Int
  yr : Int
  opn : Int
  mov : Int
  clo : Int
instance : DecidableEq SWay := fun x y => decidable_of_iff (x.cls = y.cls ∧ x.yr = y.yr ∧ x.opn = y.opn ∧ x.mov = y.mov ∧ x.clo = y.clo) (by cases x; cases y; simp)
def SWay.cells (x : SWay) : List Value := [.int .i64 x.cls, .int .i64 x.yr, .int .i64 x.opn, .int .i64 x.mov, .int .i64 x.clo]
def kWay : Kd SWay := Kd.flat 5 SWay.cells (by decide) (fun _ => rfl) (fun x u h => by simp [SWay.cells] at h; rcases h with rfl | rfl | rfl | rfl | rfl <;> rfl)
theorem kWay_flat : kWay.Flat := Kd.flat_flat
theorem Sl.way {h : Hp} {A : Option Addr} {cap : Nat} {xs : List SWay} {w : World} (s : Sl kWay h A cap xs) (hs : h.sub w) {i : Nat} {x : SWay} (hx : Hid (xs[i]? = some x)) :
    ∃ b off, A = some ⟨b, off, .none⟩ ∧ w.cell? ⟨b, off + i * 5, .none⟩ = some (.int .i64 x.cls) ∧ w.cell? ⟨b, off + i * 5 + 1, .none⟩ = some (.int .i64 x.yr) ∧ w.cell? ⟨b, off + i * 5 + 2, .none⟩ = some (.int .i64 x.opn) ∧ w.cell? ⟨b, off + i * 5 + 3, .none⟩ = some (.int .i64 x.mov) ∧ w.cell? ⟨b, off + i * 5 + 4, .none⟩ = some (.int .i64 x.clo) := by
  obtain ⟨b, off, cs, e, hK, _, hc⟩ := s.at hs hx.out
  have hK' : cs = SWay.cells x := hK
  subst hK'
  exact ⟨b, off, e, by simpa [kWay, Kd.flat] using hc 0 _ rfl, hc 1 _ rfl, hc 2 _ rfl, hc 3 _ rfl, hc 4 _ rfl⟩
/-- SRate, as its cells. -/
structure SRate where
  j : ByteArray
  yr : Int
  rt : Int
  per : Int
instance : DecidableEq SRate := fun x y => decidable_of_iff (x.j = y.j ∧ x.yr = y.yr ∧ x.rt = y.rt ∧ x.per = y.per) (by cases x; cases y; simp)
def SRate.cells (x : SRate) : List Value := [.string x.j, .int .i64 x.yr, .int .i64 x.rt, .int .i64 x.per]
def kRate : Kd SRate := Kd.flat 4 SRate.cells (by decide) (fun _ => rfl) (fun x u h => by simp [SRate.cells] at h; rcases h with rfl | rfl | rfl | rfl <;> rfl)
theorem kRate_flat : kRate.Flat := Kd.flat_flat
theorem Sl.rate {h : Hp} {A : Option Addr} {cap : Nat} {xs : List SRate} {w : World} (s : Sl kRate h A cap xs) (hs : h.sub w) {i : Nat} {x : SRate} (hx : Hid (xs[i]? = some x)) :
    ∃ b off, A = some ⟨b, off, .none⟩ ∧ w.cell? ⟨b, off + i * 4, .none⟩ = some (.string x.j) ∧ w.cell? ⟨b, off + i * 4 + 1, .none⟩ = some (.int .i64 x.yr) ∧ w.cell? ⟨b, off + i * 4 + 2, .none⟩ = some (.int .i64 x.rt) ∧ w.cell? ⟨b, off + i * 4 + 3, .none⟩ = some (.int .i64 x.per) := by
  obtain ⟨b, off, cs, e, hK, _, hc⟩ := s.at hs hx.out
  have hK' : cs = SRate.cells x := hK
  subst hK'
  exact ⟨b, off, e, by simpa [kRate, Kd.flat] using hc 0 _ rfl, hc 1 _ rfl, hc 2 _ rfl, hc 3 _ rfl⟩
/-- SPair, as its cells. -/
structure SPair where
  s : ByteArray
  b : ByteArray
  amt : Int
instance : DecidableEq SPair := fun x y => decidable_of_iff (x.s = y.s ∧ x.b = y.b ∧ x.amt = y.amt) (by cases x; cases y; simp)
def SPair.cells (x : SPair) : List Value := [.string x.s, .string x.b, .int .i64 x.amt]
def kPair : Kd SPair := Kd.flat 3 SPair.cells (by decide) (fun _ => rfl) (fun x u h => by simp [SPair.cells] at h; rcases h with rfl | rfl | rfl <;> rfl)
theorem kPair_flat : kPair.Flat := Kd.flat_flat
theorem Sl.pair {h : Hp} {A : Option Addr} {cap : Nat} {xs : List SPair} {w : World} (s : Sl kPair h A cap xs) (hs : h.sub w) {i : Nat} {x : SPair} (hx : Hid (xs[i]? = some x)) :
    ∃ b off, A = some ⟨b, off, .none⟩ ∧ w.cell? ⟨b, off + i * 3, .none⟩ = some (.string x.s) ∧ w.cell? ⟨b, off + i * 3 + 1, .none⟩ = some (.string x.b) ∧ w.cell? ⟨b, off + i * 3 + 2, .none⟩ = some (.int .i64 x.amt) := by
  obtain ⟨b, off, cs, e, hK, _, hc⟩ := s.at hs hx.out
  have hK' : cs = SPair.cells x := hK
  subst hK'
  exact ⟨b, off, e, by simpa [kPair, Kd.flat] using hc 0 _ rfl, hc 1 _ rfl, hc 2 _ rfl⟩
end Go.Sl
end
section
/- What the type table says of roll.Row. -/
namespace Go.Proofs.YtnfedcaehkcffaaGreat
open Go.RowKit Go.Sl
set_option maxHeartbeats 1000000
set_option maxRecDepth 100000
theorem info_row : Info Tryz.prog 65 (.agg #[.int .i64 0, .int .i64 0, .int .i64 0, .int .i64 0, .int .i64 0]) 5 40 := by unfold Info; kernel_rfl
end Go.Proofs.YtnfedcaehkcffaaGreat
end
section
/- Where a predicate first holds. No program is named here. -/
namespace Go.Sl
/-- Where a predicate first holds; -1: nowhere. -/
def idx {α : Type} (p : α → Bool) (xs : List α) : Int := if xs.any p then (xs.findIdx p : Nat) else -1
theorem idx_any {α : Type} (p : α → Bool) (xs : List α) : decide (0 ≤ idx p xs) = xs.any p := by
  unfold idx; split <;> rename_i h <;> simp [h]
theorem idx_hit {α : Type} {p : α → Bool} {xs : List α} {j : Nat} {x : α} (h : ∀ y ∈ xs.take j, p y = false) (hx : xs[j]? = some x) (hp : p x = true) : idx p xs = j := by
  have hj := (List.getElem?_eq_some_iff.1 hx)
  have ha : xs.any p = true := List.any_eq_true.2 ⟨x, List.mem_of_getElem? hx, hp⟩
  simp only [idx, ha, if_true]
  congr 1
  refine (List.findIdx_eq hj.1).2 ⟨by rw [hj.2]; exact hp, fun i hi => ?_⟩
  have hil : i < xs.length := by have := hj.1; omega
  have := h xs[i] (by rw [List.mem_take_iff_getElem]; exact ⟨i, by omega, rfl⟩)
  simpa using this
theorem idx_miss {α : Type} {p : α → Bool} {xs : List α} (h : ∀ y ∈ xs, p y = false) : idx p xs = -1 := by
  have : xs.any p = false := by rw [List.any_eq_false]; intro y hy; simp [h y hy]
  simp [idx, this]
end Go.Sl
end
section
/- slices.IndexFunc over roll.Row, whatever the predicate. -/
namespace Go.Proofs.YtnfedcaehkcffaaGreat
open Go.RowKit Go.Sl
set_option maxHeartbeats 1000000
set_option maxRecDepth 100000
theorem indexFunc_row (g : FuncId) (lb : Array Value) (eg : Enters Tryz.prog g) (p : SWay → Bool) (A : Option Addr) (ca : Nat) (xs : List SWay) (h : Hp) (w : World) (hs : h.sub w) (sx : Sl kWay h A ca xs)
    (hp : ∀ (x : SWay) (W : World), Below w.heap.size w W → Calls Tryz.prog g (#[.agg #[.int .i64 x.cls, .int .i64 x.yr, .int .i64 x.opn, .int .i64 x.mov, .int .i64 x.clo]] ++ lb) W fun e W' => e = .returned (.bool (p x)) ∧ Below W.heap.size W W') :
    Calls Tryz.prog 165 #[.slice A xs.length ca, .func (.func g) #[] lb] w fun e w' => e = .returned (.int .i64 (idx p xs)) ∧ Below w.heap.size w w' := by
  have m1 := sx.small
  have eg' := fun (args : Array Value) (w : World) => eg args w
  go_enter Tryz.func165, Tryz.ntmps165
  go_wp2
  go_loopw [8] (fun i wr => ∃ (j : Nat), j ≤ xs.length ∧ i = .int .i64 j ∧ Hid (∀ y ∈ xs.take j, p y = false) ∧ Below w.heap.size w wr) (fun i _ => xs.length - (intOf i).toNat)
  case atStart => exact ⟨0, by omega, rfl, by unfold Hid; simp, Below.refl _ _⟩
  case round =>
    obtain ⟨j, hj, rfl, hn, hb⟩ := hrel
    by_cases hlt : j < xs.length
    · obtain ⟨x, hx⟩ := some_of_lt hlt
      obtain ⟨b1, o1, rfl, c1, c2, c3, c4, c5⟩ := sx.way (hs.of_below hb) hx
      have i1 : (0 : Int) ≤ (j : Int) := by omega
      have i2 : (j : Int) < (xs.length : Int) := by omega
      have hpx := Lib.hid (hp x wr hb)
      by_cases hpp : p x = true
      · have HF : Hid (idx p xs = j) := idx_hit hn.out hx.out hpp
        go_wp2_with fail
        refine hpx.out.mono ?_
        rintro e w1 ⟨rfl, b1⟩
        go_wp2
        go_ret
        exact ⟨by rw [HF.out]; rfl, hb.trans (b1.mono hb.size)⟩
      · have hpf : p x = false := by simpa using hpp
        have HN : Hid (∀ y ∈ xs.take (j + 1), p y = false) := by
          intro y hy
          rw [take_next hx] at hy
          rcases List.mem_append.1 hy with hy | hy
          · exact hn.out y hy
          · simp at hy; subst hy; exact hpf
        clear hpp
        go_wp2_with fail
        refine hpx.out.mono ?_
        rintro e w1 ⟨rfl, b1⟩
        go_wp2
        go_roundw
        case rel => exact ⟨j + 1, by omega, by go_num, HN, hb.trans (b1.mono hb.size)⟩
        case measure => simp [intOf]; omega
    · have HF : Hid (idx p xs = -1) := idx_miss (fun y hy => hn.out y (by rw [List.take_of_length_le (by omega)]; exact hy))
      go_wp2
      go_ret
      exact ⟨by rw [HF.out]; rfl, hb⟩
end Go.Proofs.YtnfedcaehkcffaaGreat
end
section
/- Lists that rise by a key, plain: what is put, taken away, summed; when two are one. No program is named here. -/
namespace Go.Sl
/-- A strict order of keys. -/
structure Ord (κ : Type) where
  lt : κ → κ → Bool
  irrefl : ∀ x, lt x x = false
  trans : ∀ x y z, lt x y = true → lt y z = true → lt x z = true
  tri : ∀ x y, lt x y = true ∨ x = y ∨ lt y x = true
theorem Ord.asymm {κ : Type} (o : Ord κ) {x y : κ} (h : o.lt x y = true) : o.lt y x = false := by
  cases e : o.lt y x with
  | false => rfl
  | true => have := o.trans _ _ _ h e; rw [o.irrefl] at this; cases this
theorem Ord.ne {κ : Type} (o : Ord κ) {x y : κ} (h : o.lt x y = true) : x ≠ y := fun e => by rw [e, o.irrefl] at h; cases h
def ordInt : Ord Int := ⟨fun x y => decide (x < y), by simp, by simp; omega, by simp; omega⟩
/-- By the first, then the second. -/
def ordPair : Ord (Int × Int) := ⟨fun x y => decide (x.1 < y.1 ∨ x.1 = y.1 ∧ x.2 < y.2), by simp, by simp; omega, by
  intro x y; simp [Prod.ext_iff]; omega⟩
section
variable {κ α : Type} (o : Ord κ) (key : α → κ)
def Rising (l : List α) : Prop := l.Pairwise fun x y => o.lt (key x) (key y) = true
theorem Rising.nil : Rising o key [] := List.Pairwise.nil
theorem Rising.filter {l : List α} (h : Rising o key l) (p : α → Bool) : Rising o key (l.filter p) := List.Pairwise.filter p h
theorem Rising.tail {x : α} {l : List α} (h : Rising o key (x :: l)) : Rising o key l := (List.pairwise_cons.1 h).2
theorem Rising.head {x : α} {l : List α} (h : Rising o key (x :: l)) : ∀ y ∈ l, o.lt (key x) (key y) = true := (List.pairwise_cons.1 h).1
theorem Rising.inj {l : List α} (h : Rising o key l) : ∀ {x y : α}, x ∈ l → y ∈ l → key x = key y → x = y := by
  induction l with
  | nil => intro x y hx; cases hx
  | cons z l ih =>
    intro x y hx hy e
    rcases List.mem_cons.1 hx with hx | hx <;> rcases List.mem_cons.1 hy with hy | hy
    · rw [hx, hy]
    · have := h.head o key y hy; rw [← hx, e, o.irrefl] at this; cases this
    · have := h.head o key x hx; rw [← hy, e, o.irrefl] at this; cases this
    · exact ih h.tail hx hy e
/-- Two rising lists of the same elements are one. -/
theorem Rising.ext {l : List α} : ∀ {m : List α}, Rising o key l → Rising o key m → (∀ x, x ∈ l ↔ x ∈ m) → l = m := by
  induction l with
  | nil =>
    intro m _ _ h
    cases m with
    | nil => rfl
    | cons y m => have := (h y).2 (by simp); cases this
  | cons x l ih =>
    intro m hl hm h
    cases m with
    | nil => have := (h x).1 (by simp); cases this
    | cons y m =>
      have hxy : x = y := by
        rcases List.mem_cons.1 ((h x).1 (by simp)) with e | e
        · exact e
        rcases List.mem_cons.1 ((h y).2 (by simp)) with e2 | e2
        · exact e2.symm
        have h1 := hm.head o key x e
        have h2 := hl.head o key y e2
        rw [o.asymm h1] at h2; cases h2
      subst hxy
      congr 1
      refine ih hl.tail hm.tail fun z => ⟨fun hz => ?_, fun hz => ?_⟩
      · rcases List.mem_cons.1 ((h z).1 (by simp [hz])) with e | e
        · have := hl.head o key z hz; rw [e, o.irrefl] at this; cases this
        · exact e
      · rcases List.mem_cons.1 ((h z).2 (by simp [hz])) with e | e
        · have := hm.head o key z hz; rw [e, o.irrefl] at this; cases this
        · exact e
/-- All but a key. -/
def del [DecidableEq κ] (k : κ) (l : List α) : List α := l.filter fun y => !decide (key y = k)
/-- A new element in its place; one of its key goes. -/
def put [DecidableEq κ] (x : α) (l : List α) : List α := (l.filter fun y => o.lt (key y) (key x)) ++ x :: l.filter fun y => o.lt (key x) (key y)
variable [DecidableEq κ]
theorem mem_del {k : κ} {l : List α} {y : α} : y ∈ del key k l ↔ y ∈ l ∧ key y ≠ k := by simp [del]
theorem mem_put {x y : α} {l : List α} : y ∈ put o key x l ↔ y = x ∨ y ∈ l ∧ key y ≠ key x := by
  simp only [put, List.mem_append, List.mem_filter, List.mem_cons]
  constructor
  · rintro (⟨h1, h2⟩ | rfl | ⟨h1, h2⟩)
    · exact .inr ⟨h1, o.ne h2⟩
    · exact .inl rfl
    · exact .inr ⟨h1, (o.ne h2).symm⟩
  · rintro (rfl | ⟨h1, h2⟩)
    · exact .inr (.inl rfl)
    · rcases o.tri (key y) (key x) with h | h | h
      · exact .inl ⟨h1, h⟩
      · exact absurd h h2
      · exact .inr (.inr ⟨h1, h⟩)
theorem Rising.del {l : List α} (h : Rising o key l) (k : κ) : Rising o key (del key k l) := h.filter o key _
theorem Rising.put {l : List α} (h : Rising o key l) (x : α) : Rising o key (put o key x l) := by
  unfold Rising Go.Sl.put
  refine List.pairwise_append.2 ⟨h.filter o key _, List.pairwise_cons.2 ⟨fun y hy => (List.mem_filter.1 hy).2, h.filter o key _⟩, fun y hy z hz => ?_⟩
  have h1 := (List.mem_filter.1 hy).2
  rcases List.mem_cons.1 hz with rfl | hz
  · exact h1
  · exact o.trans _ _ _ h1 (List.mem_filter.1 hz).2
/-- What the reference's loops make of a rising list: a new element is laid ahead of the first greater one. -/
def setGo (x : α) : Bool → List α → List α
  | done, [] => if done then [] else [x]
  | done, y :: l => if key y = key x then setGo x done l else if done = false ∧ o.lt (key x) (key y) = true then x :: y :: setGo x true l else y :: setGo x done l
theorem setGo_true (x : α) : ∀ l : List α, setGo o key x true l = Go.Sl.del key (key x) l
  | [] => rfl
  | y :: l => by
    unfold setGo
    by_cases h : key y = key x
    · rw [if_pos h, setGo_true x l]; simp [Go.Sl.del, h]
    · rw [if_neg h, if_neg (by simp), setGo_true x l]; simp [Go.Sl.del, h]
theorem setGo_false (x : α) : ∀ l : List α, Rising o key l → setGo o key x false l = Go.Sl.put o key x l
  | [], _ => rfl
  | y :: l, h => by
    unfold setGo
    have ht := setGo_false x l h.tail
    rcases o.tri (key y) (key x) with h1 | h1 | h1
    · rw [if_neg (o.ne h1), if_neg (by simp [o.asymm h1]), ht]
      simp [Go.Sl.put, h1, o.asymm h1]
    · rw [if_pos h1, ht]
      simp [Go.Sl.put, h1, o.irrefl]
    · rw [if_neg (o.ne h1).symm, if_pos ⟨rfl, h1⟩, setGo_true]
      have h2 : ∀ z ∈ l, o.lt (key x) (key z) = true := fun z hz => o.trans _ _ _ h1 (h.head o key z hz)
      have e1 : l.filter (fun z => o.lt (key z) (key x)) = [] := by
        rw [List.filter_eq_nil_iff]; intro z hz; rw [o.asymm (h2 z hz)]; decide
      have e2 : l.filter (fun z => o.lt (key x) (key z)) = l := List.filter_eq_self.2 h2
      have e3 : Go.Sl.del key (key x) l = l := List.filter_eq_self.2 fun z hz => by simpa using (o.ne (h2 z hz)).symm
      simp [Go.Sl.put, h1, o.asymm h1, e1, e2, e3]
end
end Go.Sl
end
