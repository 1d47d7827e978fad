/- Walks and plain facts that the laws of this seat share, part 5: contracts of functions, each said at its theorem. -/
import Derived.Test.YtpigoegjoagbnaaPk4
import Derived.Laws.MakeOwn
import Derived.Laws.OwnMore
section
/- Losses that come in one order and in the other, plain. No program is named here. -/
namespace Go.Sl
open Go Go.RowKit
theorem getV_mem {l : List STri} (hr : RisingV l) (hz : ∀ b ∈ l, b.c ≠ 0) (x : STri) : x ∈ l ↔ getV l x.a x.b = x.c ∧ x.c ≠ 0 := by
  constructor
  · intro hx
    have h1 := find_mem (o := ordPair) (key := vkey) hr hx
    refine ⟨?_, hz x hx⟩
    unfold getV; rw [show ((x.b, x.a) : Int × Int) = vkey x from rfl, h1]
  · rintro ⟨h1, h2⟩
    unfold getV at h1
    cases hf : find vkey (x.b, x.a) l with
    | none => rw [hf] at h1; exact absurd h1.symm h2
    | some y =>
      rw [hf] at h1
      obtain ⟨hm, hk⟩ := find_some hf
      have : y = x := by cases x; cases y; simp [vkey] at hk h1; simp [hk, h1]
      rw [← this]; exact hm
theorem GoodV.nz {l : List STri} (g : GoodV l) : ∀ b ∈ l, b.c ≠ 0 := fun b hb => by have := g.lo b hb; omega
theorem GoodV.ext {l m : List STri} (g : GoodV l) (g' : GoodV m) (h : ∀ o e, getV l o e = getV m o e) : l = m :=
  Rising.ext ordPair vkey g.rise g'.rise fun x => by rw [getV_mem g.rise g.nz, getV_mem g'.rise g'.nz, h]
theorem getV_putV {l : List STri} (hr : RisingV l) (o e n o' e' : Int) : getV (putV l o e n) o' e' = if o' = o ∧ e' = e then n else getV l o' e' := by
  unfold getV putV
  rw [find_put _ hr]
  by_cases h : (e', o') = (e, o)
  · rw [if_pos (by simpa [vkey] using h), if_pos (by simp at h; exact ⟨h.2, h.1⟩)]
  · rw [if_neg (by simpa [vkey] using h), if_neg (by simp at h; exact fun k => h k.2 k.1)]
/-- Numbers that rise within bounds are few. -/
theorem rise_len : ∀ (l : List Int) (m : Int), l.Pairwise (· < ·) → (∀ x ∈ l, m ≤ x ∧ x ≤ 8) → (l.length : Int) ≤ 9 - m ∨ l = []
  | [], _, _, _ => .inr rfl
  | x :: l, m, hp, h => by
    left
    obtain ⟨h1, h2⟩ := List.pairwise_cons.1 hp
    have hx := h x (by simp)
    rcases rise_len l (x + 1) h2 (fun y hy => by have := h1 y hy; have := h y (by simp [hy]); omega) with h3 | h3
    · simp only [List.length_cons, Int.natCast_add, Int.natCast_one]; omega
    · subst h3; simp; omega
namespace VO
def og (x : SVA) : Int := within (x.f 1) 3
def ex (x : SVA) : Int := within (x.f 1) 3 + within (x.f 2) 3
def am (x : SVA) : Int := 1 + within (x.f 3) 1000
def step (l : List STri) (x : SVA) : List STri := vAdd l (og x) (ex x) (am x)
def F (zs : List SVA) : List STri := zs.foldl step []
def okK (x : STri) : Prop := 0 ≤ x.a ∧ x.a ≤ 2 ∧ x.a ≤ x.b ∧ x.b ≤ x.a + 2
def rank (x : STri) : Int := x.a + (if x.b = 0 then 0 else if x.b = 1 then 1 else if x.b = 2 then 3 else if x.b = 3 then 5 else 6)
theorem len9 {l : List STri} (hr : RisingV l) (h : ∀ x ∈ l, okK x) : l.length ≤ 9 := by
  have hp : (l.map rank).Pairwise (· < ·) := by
    refine List.pairwise_map.2 (hr.imp_of_mem fun {a b} ha hb hab => ?_)
    have h1 := h a ha
    have h2 := h b hb
    simp [ordPair, vkey] at hab
    unfold okK at h1 h2
    unfold rank
    have : a.b = 0 ∨ a.b = 1 ∨ a.b = 2 ∨ a.b = 3 ∨ a.b = 4 := by omega
    have : b.b = 0 ∨ b.b = 1 ∨ b.b = 2 ∨ b.b = 3 ∨ b.b = 4 := by omega
    repeat' split
    all_goals omega
  rcases rise_len (l.map rank) 0 hp (fun q hq => by
    obtain ⟨x, hx, rfl⟩ := List.mem_map.1 hq
    have h1 := h x hx
    unfold okK at h1
    unfold rank
    repeat' split
    all_goals omega) with h3 | h3
  · simp at h3; omega
  · simp at h3; simp [h3]
structure Inv (l : List STri) (k : Nat) : Prop where
  good : GoodV l
  keys : ∀ x ∈ l, okK x
  sum : sumC l ≤ 1000 * k
theorem bd (x : SVA) : 0 ≤ og x ∧ og x ≤ 2 ∧ og x ≤ ex x ∧ ex x ≤ og x + 2 ∧ 1 ≤ am x ∧ am x ≤ 1000 := by
  have h1 := within_lo (x.f 1) (n := 3) (by omega)
  have h2 := within_hi (x.f 1) (n := 3) (by omega)
  have h3 := within_lo (x.f 2) (n := 3) (by omega)
  have h4 := within_hi (x.f 2) (n := 3) (by omega)
  have h5 := within_lo (x.f 3) (n := 1000) (by omega)
  have h6 := within_hi (x.f 3) (n := 1000) (by omega)
  unfold og ex am
  omega
theorem Inv.ok {l : List STri} {k : Nat} (v : Inv l k) (hk : k < 10) (x : SVA) : vAddE l (og x) (ex x) (am x) = 0 := by
  obtain ⟨b1, b2, b3, b4, b5, b6⟩ := bd x
  have hs := v.sum
  have hp := sumC_pos v.good.lo
  have hl := len9 v.good.rise v.keys
  unfold vAddE
  rw [if_neg (by simp [vOk, money]; omega), if_neg (by simp [money]; omega)]
  split
  · rfl
  · rw [if_neg (by omega)]
theorem Inv.get {l : List STri} {k : Nat} (v : Inv l k) (hk : k < 10) (x : SVA) (o e : Int) : getV (step l x) o e = getV l o e + (if og x = o ∧ ex x = e then am x else 0) := by
  unfold step vAdd
  rw [if_pos (v.ok hk x), getV_putV v.good.rise]
  by_cases h : o = og x ∧ e = ex x
  · rw [if_pos h, if_pos ⟨h.1.symm, h.2.symm⟩, h.1, h.2]
  · rw [if_neg h, if_neg fun k => h ⟨k.1.symm, k.2.symm⟩]; omega
theorem Inv.step {l : List STri} {k : Nat} (v : Inv l k) (hk : k < 10) (x : SVA) : Inv (step l x) (k + 1) := by
  obtain ⟨b1, b2, b3, b4, b5, b6⟩ := bd x
  have hm : VO.step l x = putV l (og x) (ex x) (getV l (og x) (ex x) + am x) := by unfold VO.step vAdd; rw [if_pos (v.ok hk x)]
  refine ⟨v.good.add _ _ _, fun y hy => ?_, ?_⟩
  · rw [hm] at hy
    rcases (mem_put ordPair vkey).1 hy with rfl | ⟨h, _⟩
    · exact ⟨b1, b2, b3, b4⟩
    · exact v.keys y h
  · rw [hm, sumC_put v.good.rise]; have := v.sum; omega
theorem Inv.fold : ∀ (zs : List SVA) {l : List STri} {k : Nat}, Inv l k → k + zs.length ≤ 10 → Inv (zs.foldl VO.step l) (k + zs.length) ∧ ∀ o e, getV (zs.foldl VO.step l) o e = getV l o e + (zs.map fun x => if og x = o ∧ ex x = e then am x else 0).sum
  | [], l, k, v, _ => ⟨v, fun o e => by simp⟩
  | x :: zs, l, k, v, h => by
    simp only [List.length_cons] at h
    obtain ⟨i1, i2⟩ := Inv.fold zs (v.step (by omega) x) (by omega)
    refine ⟨by simp only [List.foldl_cons, List.length_cons]; rwa [show k + (zs.length + 1) = k + 1 + zs.length by omega], fun o e => ?_⟩
    simp only [List.foldl_cons, List.map_cons, List.sum_cons]
    rw [i2, v.get (by omega)]; omega
theorem Inv.nil : Inv [] 0 := ⟨.nil, by simp, by simp [sumC]⟩
theorem inv (zs : List SVA) (h : zs.length ≤ 10) : Inv (F zs) zs.length := by
  have := (Inv.fold zs Inv.nil (by omega)).1
  rwa [Nat.zero_add] at this
/-- The order does not count. -/
theorem F_rev (zs : List SVA) (h : zs.length ≤ 10) : F zs.reverse = F zs := by
  have a := Inv.fold zs Inv.nil (by omega)
  have b := Inv.fold zs.reverse Inv.nil (by simp; omega)
  refine GoodV.ext b.1.good a.1.good fun o e => ?_
  unfold F
  rw [a.2, b.2, List.map_reverse, sum_perm (List.reverse_perm _)]
theorem F_take {zs : List SVA} {j : Nat} {x : SVA} (hx : Hid (zs[j]? = some x)) : F (zs.take (j + 1)) = step (F (zs.take j)) x := by
  unfold F; rw [take_next hx, List.foldl_append]; rfl
theorem ok {zs : List SVA} (h : zs.length ≤ 10) {j : Nat} (hj : j < zs.length) (x : SVA) : vAddE (F (zs.take j)) (og x) (ex x) (am x) = 0 := by
  have hl : (zs.take j).length = j := by rw [List.length_take]; omega
  have := (inv (zs.take j) (by omega)).ok (by omega) x
  exact this
/-- Nothing is taken. -/
theorem take0 {l : List STri} (g : GoodV l) : vTakeE l (List.replicate l.length 0) = 0 ∧ vTake l (List.replicate l.length 0) = l := by
  have hz : List.zipWith lessV l (List.replicate l.length 0) = l := by
    refine List.ext_getElem? fun j => ?_
    rw [List.getElem?_zipWith, List.getElem?_replicate]
    by_cases h : j < l.length
    · rw [if_pos h, List.getElem?_eq_getElem h]; simp [lessV]
    · rw [if_neg h, List.getElem?_eq_none (by omega)]
  have hE : vTakeE l (List.replicate l.length 0) = 0 := by
    unfold vTakeE
    refine if_pos ⟨by simp, ?_⟩
    rw [List.any_eq_false]
    intro b hb
    obtain ⟨j, hj⟩ := List.mem_iff_getElem?.1 hb
    rw [List.getElem?_zipWith, List.getElem?_replicate] at hj
    by_cases h : j < l.length
    · rw [if_pos h, List.getElem?_eq_getElem h] at hj
      simp at hj
      have := g.lo l[j] (List.getElem_mem h)
      rw [← hj]; simp [badU]; omega
    · rw [if_neg h, List.getElem?_eq_none (by omega)] at hj; cases hj
  refine ⟨hE, ?_⟩
  unfold vTake
  rw [if_pos hE, hz]
  exact List.filter_eq_self.2 fun x hx => by have := g.lo x hx; simp [zeroB]; omega
end VO
end Go.Sl
end
section
/- The walk of play.Rate. -/
namespace Go.Sl
open Go Go.RowKit
def rateTab : List Int := [250000, 300000, 190000, 0, 1000000, 333333, 500000, 1, 125000, 999999]
def rateOf (n : Int) : Int := if n.tmod 29 = 28 then n else rateTab.getD (within n 10).toNat 0
def rateCells : Array Value := #[.int .i64 250000, .int .i64 300000, .int .i64 190000, .int .i64 0, .int .i64 1000000, .int .i64 333333, .int .i64 500000, .int .i64 1, .int .i64 125000, .int .i64 999999]
theorem rateCells_get : ∀ k : Nat, k < 10 → rateCells[k]? = some (.int .i64 (rateTab.getD k 0))
  | 0, _ => rfl | 1, _ => rfl | 2, _ => rfl | 3, _ => rfl | 4, _ => rfl | 5, _ => rfl | 6, _ => rfl | 7, _ => rfl | 8, _ => rfl | 9, _ => rfl
  | k + 10, h => by omega
end Go.Sl
namespace Go.Proofs.Ytpigoegjoagbnaa
open Go.RowKit Go.Sl
set_option maxHeartbeats 1000000
set_option maxRecDepth 100000
theorem info_int : Info Try.prog 3 (.int .i64 0) 1 8 := by unfold Info; kernel_rfl
theorem playRate_calls (n : Int) (w : World) : Calls Try.prog 35 #[.int .i64 n] w fun e w' => e = .returned (.int .i64 (rateOf n)) ∧ Below w.heap.size w w' := by
  by_cases h : n.tmod 29 = 28
  · have HR : Hid (rateOf n = n) := by unfold Hid rateOf; rw [if_pos h]
    have t1 : (n.tmod 29 == 28) = true := by simpa using h
    clear h
    go_enter Try.func35, Try.ntmps35
    go_wp2
    go_ret
    exact ⟨by rw [HR.out]; rfl, Below.refl _ _⟩
  · have h1 := within_lo n (n := 10) (by omega)
    have h2 := within_hi n (n := 10) (by omega)
    obtain ⟨k, hk⟩ : ∃ k : Nat, within n 10 = (k : Int) := ⟨(within n 10).toNat, by omega⟩
    have HR : Hid (rateOf n = rateTab.getD k 0) := by unfold Hid rateOf; rw [if_neg h, hk]; rfl
    have hk10 : k < 10 := by omega
    have t1 : (n.tmod 29 == 28) = false := by simpa using h
    have WC := fun W => within_calls n 10 W (by omega) (by omega)
    rw [hk] at WC
    have hc : (w.alloc (.cells rateCells 3)).cell? ⟨w.heap.size, k, none⟩ = some (.int .i64 (rateTab.getD k 0)) := by rw [cell_new rfl]; exact rateCells_get k hk10
    unfold rateCells at hc
    generalize rateTab.getD k 0 = v at *
    have i1 : (0 : Int) ≤ (k : Int) := by omega
    have i2 : (k : Int) < 10 := by omega
    clear h h1 h2 hk
    go_enter Try.func35, Try.ntmps35
    go_wp2_with fail
    refine (WC _).mono ?_
    rintro e w' ⟨rfl, rfl⟩
    go_wp2
    go_ret
    exact ⟨by rw [HR.out]; rfl, (by repeat (first | exact Below.refl _ _ | apply Below.drew | refine Below.alloc ?_ (by simp) _))⟩
end Go.Proofs.Ytpigoegjoagbnaa
end
section
/- make([]int, n). -/
namespace Go.Sl
open Go Go.RowKit
def madeInts (n : Nat) : Array Value := ((List.replicate n (0 : Int)).flatMap fun x => [Value.int .i64 x]).toArray
theorem madeInts_eq (n : Nat) : madeCells #[.int .i64 0] n = madeInts n := by
  apply Array.toList_inj.1
  rw [toList_madeCells_one]
  unfold madeInts
  induction n with
  | zero => rfl
  | succ n ih => simp only [List.replicate_succ, List.flatMap_cons]; rw [ih]; rfl
theorem Ow.made {h : Hp} {b : Nat} {t : TypeId} {n : Nat} (hb : h b = some (.cells (madeInts n) t (0, 0))) (hm : n ≤ maxLen) : Ow kInt h (some ⟨b, 0, .none⟩) n (List.replicate n 0) := by
  have h := Ow.lit (cells := fun x : Int => [Value.int .i64 x]) (size := 1) (pos := by decide) (hl := fun _ => rfl) (h1 := fun x u h => by simp at h; subst h; rfl) (xs := List.replicate n (0 : Int)) hb (by simpa using hm)
  rw [List.length_replicate] at h
  exact h
theorem Env.swap12 {w0 w : World} {a b c : Hp} (E : Env w0 w [a, b, c]) : Env w0 w [a, c, b] :=
  ⟨⟨E.own.1, fun k hk => E.own.2.1 k (by simp at hk ⊢; exact hk.symm), E.own.2.2.swap⟩, fun h hh => E.fr h (by simp at hh ⊢; rcases hh with h | h | h <;> simp [h]), E.low⟩
end Go.Sl
namespace Go.Proofs.Ytpigoegjoagbnaa
open Go.RowKit Go.Sl
set_option maxHeartbeats 1000000
set_option maxRecDepth 100000
theorem make_ints (n : Nat) (hn : n ≤ 1000000) (W : World) : (Instr.makeSlice 26 (.int .i64 (n : Int)) (.int .i64 (n : Int))).run Try.prog W = .ok (.slice (some ⟨W.heap.size, 0, none⟩) n n) (W.alloc (.cells (madeInts n) 3)) := by
  obtain ⟨i0, hi, hz0, hz1, hz2⟩ := info_parts info_int
  have h := run_make (P := Try.prog) W 26 3 i0 (.int .i64 0) Try.underlying26 hi hz0 .i64 .i64 n n (by omega) (Int.le_refl _) (by rw [hz2]; omega) (by omega)
  rw [hz1] at h
  simp only [Int.toNat_natCast] at h
  rw [show (Value.int .i64 0).cells = #[.int .i64 0] from rfl] at h
  rw [Nat.mul_one, madeInts_eq] at h
  exact h
end Go.Proofs.Ytpigoegjoagbnaa
end
