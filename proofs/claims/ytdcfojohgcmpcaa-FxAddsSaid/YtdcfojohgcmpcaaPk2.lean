/- Walks and plain facts that the laws of this seat share, part 2: contracts of functions, each said at its theorem. -/
import Derived.Test.YtdcfojohgcmpcaaPk1
import Derived.Lib.AppendZeros
import Derived.Shelf.SlSortCmp.WholeK
import Derived.Shelf.Abstract
set_option linter.all false
section
/- slices.Grow of the nil slice and slices.Concat of two lists, over api.Item. -/
namespace Go.Proofs.Ytdcfojohgcmpcaa
open Go.RowKit Go.Sl
set_option maxHeartbeats 2000000
set_option maxRecDepth 100000
theorem growNil_item (n : Nat) (hn : n ≤ 1000000) (w : World) :
    Calls Try.prog 107 #[.slice none 0 0, .int .i64 (n : Int)] w fun e w' => ∃ C cap h', e = .returned (.slice C 0 cap) ∧ Ow kItem h' C cap [] ∧ Upd Hp.none h' w w' := by
  have n0 : (0 : Int) ≤ (n : Int) := by omega
  have n1 : (n : Int) ≤ 1000000 := by omega
  by_cases h0 : n = 0
  · subst h0
    go_enter Try.func107, Try.ntmps107
    go_wp2
    go_ret
    exact ⟨none, 0, Hp.none, rfl, Ow.none _ _, Upd.of_below (Below.refl _ _)⟩
  · have hp : 0 < n := by omega
    have hpi : (0 : Int) < (n : Int) := by omega
    obtain ⟨i0, hi, hz0, hz1, hz2⟩ := info_parts info_item
    have HR := fun W ty => Go.Lib.run_append_nil_zeros (P := Try.prog) W 37 3 ty 36 i0 (.agg #[.int .i64 0, .int .i64 0]) .i64 .i64 Try.underlying37 Try.underlying3 hi hz0 n hp (by rw [hz1]; decide) (by omega) (by rw [hz2]; omega)
    clear h0
    go_enter Try.func107, Try.ntmps107
    go_wp2_with (at_builtin; refine Go.Lib.wpList_append_run _ rfl _ _ _ _ rfl _ _ rfl rfl _ _ (HR _ _) ?_)
    have hge := grownCap_ge w n 0 36
    have hle : grownCap w n 0 36 ≤ maxLen := grownCap_le_maxLen w _ 0 _ (by unfold maxLen; omega)
    have hsz : (Builtin.zeroCells #[Value.int IntKind.i64 0, Value.int IntKind.i64 0] n ++ Builtin.zeroCells #[Value.int IntKind.i64 0, Value.int IntKind.i64 0] (grownCap w n 0 36 - n)).size = grownCap w n 0 36 * 2 := by
      simp [Builtin.zeroCells]; omega
    clear HR
    generalize grownCap w n 0 36 = cap at *
    generalize (Builtin.zeroCells #[Value.int IntKind.i64 0, Value.int IntKind.i64 0] n ++ Builtin.zeroCells #[Value.int IntKind.i64 0, Value.int IntKind.i64 0] (cap - n)) = cur at *
    have HO : Hid (Ow kItem (Hp.one w.heap.size (.cells cur 36 (0, 0))) (some ⟨w.heap.size, 0, none⟩) cap []) :=
      ⟨by simp, hle, (fun e => (nomatch e)), fun ad e hc => by
        cases e
        refine ⟨w.heap.size, 0, cur, 36, rfl, Hp.one_self _ _, ?_, fun i x hx => by simp at hx⟩
        rw [hsz]; simp [kItem, Kd.flat]⟩
    have HU : Hid (Upd Hp.none (Hp.one w.heap.size (.cells cur 36 (0, 0))) w (w.alloc (.cells cur 36)).drew) := (Upd.newBlock w _).after ((Below.refl _ _).drew)
    go_ret
    exact ⟨_, cap, _, rfl, HO.out, HU.out⟩
/-- What the two lists come to, behind the first ones. -/
def catTo (xs ys : List SItem) (j : Nat) : List SItem := if j = 0 then [] else if j = 1 then xs else xs ++ ys
theorem concat_item (q : Nat) (A B : Option Addr) (ca cb : Nat) (xs ys : List SItem) (h k : Hp) (w : World) (hs : h.sub w) (ks : k.sub w) (sx : Sl kItem h A ca xs) (sy : Sl kItem k B cb ys)
    (c0 : w.cell? ⟨q, 0, none⟩ = some (.slice A xs.length ca)) (c1 : w.cell? ⟨q, 1, none⟩ = some (.slice B ys.length cb)) (hx : xs.length ≤ 100000) (hy : ys.length ≤ 100000) :
    Calls Try.prog 68 #[.slice (some ⟨q, 0, none⟩) 2 2] w fun e w' => ∃ C cap h', e = .returned (.slice C (xs ++ ys).length cap) ∧ Ow kItem h' C cap (xs ++ ys) ∧ Upd Hp.none h' w w' := by
  have x0 : (0 : Int) ≤ (xs.length : Int) := by omega
  have x1 : (xs.length : Int) ≤ 100000 := by omega
  have y0 : (0 : Int) ≤ (ys.length : Int) := by omega
  have y1 : (ys.length : Int) ≤ 100000 := by omega
  have HL : Hid ((xs ++ ys).length = xs.length + ys.length) := List.length_append
  have GC := fun W => growNil_item (xs.length + ys.length) (by omega) W
  rw [Int.natCast_add] at GC
  go_enter Try.func68, Try.ntmps68
  go_wp2
  go_loopw [3, 11] (fun s i wr => ∃ j : Nat, j ≤ 2 ∧ i = .int .i64 j ∧ s = .int .i64 (if j = 0 then 0 else if j = 1 then (xs.length : Int) else (xs.length : Int) + (ys.length : Int)) ∧ wr = w) (fun _ i _ => 2 - (intOf i).toNat)
  case atStart => exact ⟨0, by omega, rfl, rfl, rfl⟩
  case round =>
    obtain ⟨j, hj, rfl, rfl, rfl⟩ := hrel
    rcases (show j = 0 ∨ j = 1 ∨ j = 2 by omega) with rfl | rfl | rfl
    · go_wp2
      go_roundw
      case rel => exact ⟨1, by omega, by rfl, by simp, by trivial⟩
      case measure => simp [intOf]
    · rw [show ((1 : Nat) : Int) = 1 from rfl, if_neg (by decide), if_pos rfl]
      go_wp2
      go_roundw
      case rel => exact ⟨2, by omega, by rfl, by simp, by trivial⟩
      case measure => simp [intOf]
    · rw [show ((2 : Nat) : Int) = 2 from rfl, if_neg (by decide), if_neg (by decide)]
      go_wp2_with fail
      refine (GC _).mono ?_
      rintro e w1 ⟨C1, n1, h1, rfl, o1, u1⟩
      have E1 := (Env.start wr).new u1
      simp at E1
      go_wp2
      clear GC u1
      go_loopw [6, 27] (fun v i w2 => ∃ (j cap n : Nat) (C : Option Addr) (h' : Hp) (os : List SItem), j ≤ 2 ∧ i = .int .i64 j ∧ v = .slice C n cap ∧ Hid (os.length = n) ∧ Hid (os = catTo xs ys j) ∧ Ow kItem h' C cap os ∧ Env wr w2 [h']) (fun _ i _ => 2 - (intOf i).toNat)
      case atStart => exact ⟨0, n1, 0, C1, h1, [], by omega, rfl, rfl, rfl, rfl, o1, E1⟩
      case round =>
        clear o1 E1
        obtain ⟨j, cap, n, C, h', os, hj, rfl, rfl, hm, ho, o, E⟩ := hrel
        have d0 := (E.low.cell (World.block_lt_of_cell? _ _ c0)).trans c0
        have d1 := (E.low.cell (World.block_lt_of_cell? _ _ c1)).trans c1
        rcases (show j = 0 ∨ j = 1 ∨ j = 2 by omega) with rfl | rfl | rfl
        · have hn : n = 0 := by rw [← hm.out, ho.out]; rfl
          subst hn
          go_wp2_with (at_builtin; refine wpList_eappF 0 Try.underlying37 info_item E (by rfl) o sx (hs.of_below E.low) 0 xs.length hm.out rfl kItem_flat (by rfl) (by rfl) rfl ca (by rfl) (by rfl) (by omega) (by omega) ?_; intro C' cap' w3 h3 o3 E3)
          simp at E3
          go_roundw
          case rel => exact ⟨1, cap', xs.length, C', h3, os ++ xs, by omega, by rfl, by simp, by unfold Hid; rw [List.length_append, hm.out]; simp, by unfold Hid; rw [ho.out]; rfl, o3, E3⟩
          case measure => simp [intOf]
        · have hn : n = xs.length := by rw [← hm.out, ho.out]; rfl
          subst hn
          rw [show ((1 : Nat) : Int) = 1 from rfl]
          go_wp2_with (at_builtin; refine wpList_eappF 0 Try.underlying37 info_item E (by rfl) o sy (ks.of_below E.low) xs.length ys.length hm.out rfl kItem_flat (by rfl) (by rfl) rfl cb (by rfl) (by rfl) (by omega) (by omega) ?_; intro C' cap' w3 h3 o3 E3)
          simp at E3
          go_roundw
          case rel => exact ⟨2, cap', xs.length + ys.length, C', h3, os ++ ys, by omega, by rfl, by simp, by unfold Hid; rw [List.length_append, hm.out], by unfold Hid; rw [ho.out]; rfl, o3, E3⟩
          case measure => simp [intOf]
        · have HN : Hid (n = (xs ++ ys).length) := by unfold Hid; rw [← hm.out, ho.out]; rfl
          have HO : Hid (Ow kItem h' C cap (xs ++ ys)) := by have e := ho.out; rw [e] at o; exact o
          have HU := Lib.hid (E.made (h := h') (by simp))
          rw [show ((2 : Nat) : Int) = 2 from rfl]
          clear hm ho o HL
          go_wp2
          go_ret
          exact ⟨C, cap, h', by rw [HN.out]; rfl, HO.out, HU.out⟩
end Go.Proofs.Ytdcfojohgcmpcaa
end
section
/- Journals as plain Lean: what an account has, lines put together, turned round, right ones; their sides. No program is named here. -/
namespace Go.Sl
open Go Go.RowKit

/-- What an account has in lines. -/
def accSum (a : Int) : List SItem → Int
  | [] => 0
  | x :: xs => (if x.kind = a then x.amt else 0) + accSum a xs
theorem accSum_append (a : Int) : ∀ xs ys, accSum a (xs ++ ys) = accSum a xs + accSum a ys
  | [], ys => by simp [accSum]
  | x :: xs, ys => by simp only [List.cons_append, accSum, accSum_append a xs ys]; omega
theorem accSum_snoc (a : Int) (xs : List SItem) (x : SItem) : accSum a (xs ++ [x]) = accSum a xs + if x.kind = a then x.amt else 0 := by
  rw [accSum_append]; simp [accSum]
theorem accSum_bd {b : Int} (hb : 0 ≤ b) (a : Int) : ∀ xs : List SItem, (∀ x ∈ xs, -b ≤ x.amt ∧ x.amt ≤ b) → -(xs.length * b) ≤ accSum a xs ∧ accSum a xs ≤ xs.length * b
  | [], _ => by simp [accSum]
  | x :: xs, h => by
    have h1 := accSum_bd hb a xs (fun y hy => h y (by simp [hy]))
    have h2 := h x (by simp)
    simp only [accSum, List.length_cons, Int.natCast_add, Int.add_mul, Int.natCast_one, Int.one_mul]
    split <;> omega
/-- Lines whose sums stay far from the bounds of an int. -/
structure Tame (xs : List SItem) : Prop where
  len : xs.length ≤ 100000
  amt : ∀ x ∈ xs, -1000000000000 ≤ x.amt ∧ x.amt ≤ 1000000000000
theorem Tame.take {xs : List SItem} (h : Tame xs) (n : Nat) : Tame (xs.take n) := ⟨by have := h.len; rw [List.length_take]; omega, fun x hx => h.amt x (List.mem_of_mem_take hx)⟩
theorem Tame.acc {xs : List SItem} (h : Tame xs) (a : Int) : -100000000000000000 ≤ accSum a xs ∧ accSum a xs ≤ 100000000000000000 := by
  have h1 := accSum_bd (b := 1000000000000) (by omega) a xs h.amt
  have h2 := h.len
  omega
theorem Tame.sum {xs : List SItem} (h : Tame xs) : -100000000000000000 ≤ sumAmt xs ∧ sumAmt xs ≤ 100000000000000000 := by
  have h1 := sumAmt_bd (b := 1000000000000) (by omega) xs h.amt
  have h2 := h.len
  omega
theorem Tame.append {xs ys : List SItem} (h : Tame xs) (k : Tame ys) (hl : xs.length + ys.length ≤ 100000) : Tame (xs ++ ys) :=
  ⟨by simpa using hl, fun x hx => by rcases List.mem_append.1 hx with hx | hx; exact h.amt x hx; exact k.amt x hx⟩

/-- One line an account, of the first n accounts. -/
def mergeTo (xs : List SItem) : Nat → List SItem
  | 0 => []
  | n + 1 => mergeTo xs n ++ if accSum (n + 1) xs = 0 then [] else [⟨n + 1, accSum (n + 1) xs⟩]
def merge (xs : List SItem) : List SItem := mergeTo xs 7
theorem mergeTo_len (xs : List SItem) : ∀ n, (mergeTo xs n).length ≤ n
  | 0 => by simp [mergeTo]
  | n + 1 => by
    have := mergeTo_len xs n
    simp only [mergeTo, List.length_append]
    split <;> simp <;> omega
theorem mergeTo_yes {xs : List SItem} {n : Nat} (h : accSum (n + 1) xs ≠ 0) : mergeTo xs (n + 1) = mergeTo xs n ++ [⟨n + 1, accSum (n + 1) xs⟩] := by
  simp only [mergeTo, if_neg h]
theorem mergeTo_no {xs : List SItem} {n : Nat} (h : accSum (n + 1) xs = 0) : mergeTo xs (n + 1) = mergeTo xs n := by
  simp only [mergeTo, if_pos h, List.append_nil]
theorem mergeTo_mem {xs : List SItem} : ∀ {n : Nat} {y : SItem}, y ∈ mergeTo xs n → 1 ≤ y.kind ∧ y.kind ≤ n ∧ y.amt = accSum y.kind xs ∧ y.amt ≠ 0
  | 0, y, h => by simp [mergeTo] at h
  | n + 1, y, h => by
    by_cases h0 : accSum (n + 1) xs = 0
    · rw [mergeTo_no h0] at h
      have := mergeTo_mem h
      omega
    · rw [mergeTo_yes h0] at h
      rcases List.mem_append.1 h with h | h
      · have := mergeTo_mem h
        omega
      · simp at h; subst h; exact ⟨by simp; omega, by simp, rfl, h0⟩
theorem Tame.merge {xs : List SItem} (hm : ∀ a, -1000000000000 ≤ accSum a xs ∧ accSum a xs ≤ 1000000000000) : Tame (merge xs) :=
  ⟨by have := mergeTo_len xs 7; unfold Sl.merge; omega, fun x hx => by have := mergeTo_mem hx; rw [this.2.2.1]; exact hm _⟩

/-- Amounts with the other sign. -/
def reverseL (xs : List SItem) : List SItem := xs.map fun x => ⟨x.kind, wrap64 (-x.amt)⟩
/-- Are there not too many lines, of Money? -/
def fewB (xs : List SItem) : Bool := decide (xs.length ≤ 40) && xs.all fun x => money x.amt
theorem Tame.of_few {xs : List SItem} (h : fewB xs = true) : Tame xs := by
  simp only [fewB, Bool.and_eq_true, decide_eq_true_eq, List.all_eq_true, money] at h
  exact ⟨by omega, fun x hx => by have := h.2 x hx; omega⟩
/-- What Merge answers. -/
def mergeF (xs : List SItem) : List SItem := if fewB xs = true then merge xs else []
def netF (xs : List SItem) (a : Int) : Int := if fewB xs = true then accSum a xs else 0
/-- May a line be? -/
def lineB (x : SItem) : Bool := decide (1 ≤ x.kind ∧ x.kind ≤ 7 ∧ x.amt ≠ 0) && money x.amt
/-- Lines behind an account: right, and rising. -/
def risingB : Int → List SItem → Bool
  | _, [] => true
  | a, x :: xs => lineB x && decide (a < x.kind) && risingB x.kind xs
/-- The debit of an amount, its credit (as sides.Of has them). -/
def deb (n : Int) : Nat := if money n = true then n.toNat else 0
def cre (n : Int) : Nat := if money n = true then (-n).toNat else 0
def debs (xs : List SItem) : Nat := (xs.map fun x => deb x.amt).sum
def cres (xs : List SItem) : Nat := (xs.map fun x => cre x.amt).sum
theorem deb_le (n : Int) : deb n ≤ 100000000000 := by unfold deb; split <;> rename_i h <;> simp [money] at * <;> omega
theorem cre_le (n : Int) : cre n ≤ 100000000000 := by unfold cre; split <;> rename_i h <;> simp [money] at * <;> omega
theorem debs_snoc (xs : List SItem) (x : SItem) : debs (xs ++ [x]) = debs xs + deb x.amt := by simp [debs]
theorem cres_snoc (xs : List SItem) (x : SItem) : cres (xs ++ [x]) = cres xs + cre x.amt := by simp [cres]
theorem debs_le : ∀ xs : List SItem, debs xs ≤ xs.length * 100000000000
  | [] => by simp [debs]
  | x :: xs => by
    have h1 := debs_le xs
    have h2 := deb_le x.amt
    simp only [debs, List.map_cons, List.sum_cons, List.length_cons] at h1 ⊢
    omega
theorem cres_le : ∀ xs : List SItem, cres xs ≤ xs.length * 100000000000
  | [] => by simp [cres]
  | x :: xs => by
    have h1 := cres_le xs
    have h2 := cre_le x.amt
    simp only [cres, List.map_cons, List.sum_cons, List.length_cons] at h1 ⊢
    omega
/-- Are lines right? -/
def checkB (xs : List SItem) : Bool := decide (xs.length ≤ 20) && risingB 0 xs && decide (debs xs = cres xs)
def checkE (xs : List SItem) : Int := if checkB xs = true then 0 else 2

/-- Of Money alone debit less credit is the sum. -/
theorem sides_sum : ∀ xs : List SItem, (∀ x ∈ xs, money x.amt = true) → (debs xs : Int) - (cres xs : Int) = sumAmt xs
  | [], _ => by simp [debs, cres, sumAmt]
  | x :: xs, h => by
    have h1 := sides_sum xs (fun y hy => h y (by simp [hy]))
    have h2 := h x (by simp)
    simp only [debs, cres, sumAmt, List.map_cons, List.sum_cons, deb, cre, h2, if_true] at h1 ⊢
    omega
theorem risingB_lines : ∀ (xs : List SItem) (a : Int), risingB a xs = true → ∀ x ∈ xs, lineB x = true
  | [], _, _, x, hx => by simp at hx
  | y :: xs, a, h, x, hx => by
    simp only [risingB, Bool.and_eq_true] at h
    rcases List.mem_cons.1 hx with rfl | hx
    · exact h.1.1
    · exact risingB_lines xs _ h.2 x hx

end Go.Sl
end
section
/- Lists that rise by a key, plain: what is put, taken away, summed; when two are one. No program is named here. -/
namespace Go.Sl
/-- A strict order of keys. -/
structure Ord (κ : Type) where
  lt : κ → κ → Bool
  irrefl : ∀ x, lt x x = false
  trans : ∀ x y z, lt x y = true → lt y z = true → lt x z = true
  tri : ∀ x y, lt x y = true ∨ x = y ∨ lt y x = true
theorem Ord.asymm {κ : Type} (o : Ord κ) {x y : κ} (h : o.lt x y = true) : o.lt y x = false := by
  cases e : o.lt y x with
  | false => rfl
  | true => have := o.trans _ _ _ h e; rw [o.irrefl] at this; cases this
theorem Ord.ne {κ : Type} (o : Ord κ) {x y : κ} (h : o.lt x y = true) : x ≠ y := fun e => by rw [e, o.irrefl] at h; cases h
def ordInt : Ord Int := ⟨fun x y => decide (x < y), by simp, by simp; omega, by simp; omega⟩
/-- By the first, then the second. -/
def ordPair : Ord (Int × Int) := ⟨fun x y => decide (x.1 < y.1 ∨ x.1 = y.1 ∧ x.2 < y.2), by simp, by simp; omega, by
  intro x y; simp [Prod.ext_iff]; omega⟩
section
variable {κ α : Type} (o : Ord κ) (key : α → κ)
def Rising (l : List α) : Prop := l.Pairwise fun x y => o.lt (key x) (key y) = true
theorem Rising.nil : Rising o key [] := List.Pairwise.nil
theorem Rising.filter {l : List α} (h : Rising o key l) (p : α → Bool) : Rising o key (l.filter p) := List.Pairwise.filter p h
theorem Rising.tail {x : α} {l : List α} (h : Rising o key (x :: l)) : Rising o key l := (List.pairwise_cons.1 h).2
theorem Rising.head {x : α} {l : List α} (h : Rising o key (x :: l)) : ∀ y ∈ l, o.lt (key x) (key y) = true := (List.pairwise_cons.1 h).1
theorem Rising.inj {l : List α} (h : Rising o key l) : ∀ {x y : α}, x ∈ l → y ∈ l → key x = key y → x = y := by
  induction l with
  | nil => intro x y hx; cases hx
  | cons z l ih =>
    intro x y hx hy e
    rcases List.mem_cons.1 hx with hx | hx <;> rcases List.mem_cons.1 hy with hy | hy
    · rw [hx, hy]
    · have := h.head o key y hy; rw [← hx, e, o.irrefl] at this; cases this
    · have := h.head o key x hx; rw [← hy, e, o.irrefl] at this; cases this
    · exact ih h.tail hx hy e
/-- Two rising lists of the same elements are one. -/
theorem Rising.ext {l : List α} : ∀ {m : List α}, Rising o key l → Rising o key m → (∀ x, x ∈ l ↔ x ∈ m) → l = m := by
  induction l with
  | nil =>
    intro m _ _ h
    cases m with
    | nil => rfl
    | cons y m => have := (h y).2 (by simp); cases this
  | cons x l ih =>
    intro m hl hm h
    cases m with
    | nil => have := (h x).1 (by simp); cases this
    | cons y m =>
      have hxy : x = y := by
        rcases List.mem_cons.1 ((h x).1 (by simp)) with e | e
        · exact e
        rcases List.mem_cons.1 ((h y).2 (by simp)) with e2 | e2
        · exact e2.symm
        have h1 := hm.head o key x e
        have h2 := hl.head o key y e2
        rw [o.asymm h1] at h2; cases h2
      subst hxy
      congr 1
      refine ih hl.tail hm.tail fun z => ⟨fun hz => ?_, fun hz => ?_⟩
      · rcases List.mem_cons.1 ((h z).1 (by simp [hz])) with e | e
        · have := hl.head o key z hz; rw [e, o.irrefl] at this; cases this
        · exact e
      · rcases List.mem_cons.1 ((h z).2 (by simp [hz])) with e | e
        · have := hm.head o key z hz; rw [e, o.irrefl] at this; cases this
        · exact e
/-- All but a key. -/
def del [DecidableEq κ] (k : κ) (l : List α) : List α := l.filter fun y => !decide (key y = k)
/-- A new element in its place; one of its key goes. -/
def put [DecidableEq κ] (x : α) (l : List α) : List α := (l.filter fun y => o.lt (key y) (key x)) ++ x :: l.filter fun y => o.lt (key x) (key y)
variable [DecidableEq κ]
theorem mem_del {k : κ} {l : List α} {y : α} : y ∈ del key k l ↔ y ∈ l ∧ key y ≠ k := by simp [del]
theorem mem_put {x y : α} {l : List α} : y ∈ put o key x l ↔ y = x ∨ y ∈ l ∧ key y ≠ key x := by
  simp only [put, List.mem_append, List.mem_filter, List.mem_cons]
  constructor
  · rintro (⟨h1, h2⟩ | rfl | ⟨h1, h2⟩)
    · exact .inr ⟨h1, o.ne h2⟩
    · exact .inl rfl
    · exact .inr ⟨h1, (o.ne h2).symm⟩
  · rintro (rfl | ⟨h1, h2⟩)
    · exact .inr (.inl rfl)
    · rcases o.tri (key y) (key x) with h | h | h
      · exact .inl ⟨h1, h⟩
      · exact absurd h h2
      · exact .inr (.inr ⟨h1, h⟩)
theorem Rising.del {l : List α} (h : Rising o key l) (k : κ) : Rising o key (del key k l) := h.filter o key _
theorem Rising.put {l : List α} (h : Rising o key l) (x : α) : Rising o key (put o key x l) := by
  unfold Rising Go.Sl.put
  refine List.pairwise_append.2 ⟨h.filter o key _, List.pairwise_cons.2 ⟨fun y hy => (List.mem_filter.1 hy).2, h.filter o key _⟩, fun y hy z hz => ?_⟩
  have h1 := (List.mem_filter.1 hy).2
  rcases List.mem_cons.1 hz with rfl | hz
  · exact h1
  · exact o.trans _ _ _ h1 (List.mem_filter.1 hz).2
/-- What the reference's loops make of a rising list: a new element is laid ahead of the first greater one. -/
def setGo (x : α) : Bool → List α → List α
  | done, [] => if done then [] else [x]
  | done, y :: l => if key y = key x then setGo x done l else if done = false ∧ o.lt (key x) (key y) = true then x :: y :: setGo x true l else y :: setGo x done l
theorem setGo_true (x : α) : ∀ l : List α, setGo o key x true l = Go.Sl.del key (key x) l
  | [] => rfl
  | y :: l => by
    unfold setGo
    by_cases h : key y = key x
    · rw [if_pos h, setGo_true x l]; simp [Go.Sl.del, h]
    · rw [if_neg h, if_neg (by simp), setGo_true x l]; simp [Go.Sl.del, h]
theorem setGo_false (x : α) : ∀ l : List α, Rising o key l → setGo o key x false l = Go.Sl.put o key x l
  | [], _ => rfl
  | y :: l, h => by
    unfold setGo
    have ht := setGo_false x l h.tail
    rcases o.tri (key y) (key x) with h1 | h1 | h1
    · rw [if_neg (o.ne h1), if_neg (by simp [o.asymm h1]), ht]
      simp [Go.Sl.put, h1, o.asymm h1]
    · rw [if_pos h1, ht]
      simp [Go.Sl.put, h1, o.irrefl]
    · rw [if_neg (o.ne h1).symm, if_pos ⟨rfl, h1⟩, setGo_true]
      have h2 : ∀ z ∈ l, o.lt (key x) (key z) = true := fun z hz => o.trans _ _ _ h1 (h.head o key z hz)
      have e1 : l.filter (fun z => o.lt (key z) (key x)) = [] := by
        rw [List.filter_eq_nil_iff]; intro z hz; rw [o.asymm (h2 z hz)]; decide
      have e2 : l.filter (fun z => o.lt (key x) (key z)) = l := List.filter_eq_self.2 h2
      have e3 : Go.Sl.del key (key x) l = l := List.filter_eq_self.2 fun z hz => by simpa using (o.ne (h2 z hz)).symm
      simp [Go.Sl.put, h1, o.asymm h1, e1, e2, e3]
end
end Go.Sl
end
section
/- Rising lists: sums, lengths, what is found. No program is named here. -/
namespace Go.Sl
section
variable {κ α : Type} (o : Ord κ) (key : α → κ) [DecidableEq κ]
/-- The element of a key. -/
def find (k : κ) (l : List α) : Option α := l.find? fun y => decide (key y = k)
variable {o key}
theorem find_some {k : κ} {l : List α} {y : α} (h : find key k l = some y) : y ∈ l ∧ key y = k := ⟨List.mem_of_find?_eq_some h, by simpa using List.find?_some h⟩
theorem find_none {k : κ} {l : List α} (h : find key k l = none) : ∀ y ∈ l, key y ≠ k := fun y hy e => by
  have := List.find?_eq_none.1 h y hy; simp [e] at this
theorem find_mem {l : List α} (h : Rising o key l) {y : α} (hy : y ∈ l) : find key (key y) l = some y := by
  cases hf : find key (key y) l with
  | none => exact absurd rfl (find_none hf y hy)
  | some z => obtain ⟨h1, h2⟩ := find_some hf; rw [h.inj o key h1 hy h2]
theorem del_none {k : κ} {l : List α} (h : find key k l = none) : del key k l = l := List.filter_eq_self.2 fun y hy => by simpa using find_none h y hy
theorem put_del (x : α) : ∀ l : List α, Rising o key l → put o key x l = (del key (key x) l).filter (fun y => o.lt (key y) (key x)) ++ x :: (del key (key x) l).filter fun y => o.lt (key x) (key y) := fun l _ => by
  unfold put del
  rw [List.filter_filter, List.filter_filter]
  congr 1
  · refine List.filter_congr fun y _ => ?_
    cases h : o.lt (key y) (key x) with
    | false => rfl
    | true => simp [o.ne h]
  · congr 1
    refine List.filter_congr fun y _ => ?_
    cases h : o.lt (key x) (key y) with
    | false => rfl
    | true => simp [(o.ne h).symm]
theorem split_del (k : κ) : ∀ l : List α, Rising o key l → l.filter (fun y => o.lt (key y) k) ++ l.filter (fun y => o.lt k (key y)) = del key k l
  | [], _ => rfl
  | y :: l, h => by
    have ih := split_del k l h.tail
    rcases o.tri (key y) k with h1 | h1 | h1
    · simp [h1, o.asymm h1, del, o.ne h1] at ih ⊢; exact ih
    · simp [h1, o.irrefl, del] at ih ⊢; exact ih
    · have h2 : ∀ z ∈ l, o.lt k (key z) = true := fun z hz => o.trans _ _ _ h1 (h.head o key z hz)
      have e1 : l.filter (fun z => o.lt (key z) k) = [] := by
        rw [List.filter_eq_nil_iff]; intro z hz; rw [o.asymm (h2 z hz)]; decide
      rw [e1, List.nil_append] at ih
      simp [h1, o.asymm h1, e1, del, (o.ne h1).symm] at ih ⊢; exact ih
theorem put_perm (x : α) {l : List α} (h : Rising o key l) : (put o key x l).Perm (x :: del key (key x) l) := by
  unfold put
  rw [← split_del (key x) l h]
  exact List.perm_middle
theorem sum_perm {l m : List Int} (h : l.Perm m) : l.sum = m.sum := by
  induction h with
  | nil => rfl
  | cons x _ ih => simp [ih]
  | swap x y l => simp; omega
  | trans _ _ a b => exact a.trans b
theorem sum_put (f : α → Int) (x : α) {l : List α} (h : Rising o key l) : ((put o key x l).map f).sum = ((del key (key x) l).map f).sum + f x := by
  rw [sum_perm ((put_perm x h).map f)]; simp; omega
theorem len_put (x : α) {l : List α} (h : Rising o key l) : (put o key x l).length = (del key (key x) l).length + 1 := by
  rw [(put_perm x h).length_eq]; rfl
theorem del_some {k : κ} {l : List α} {y : α} (h : Rising o key l) (hf : find key k l = some y) : l.Perm (y :: del key k l) := by
  obtain ⟨h1, h2⟩ := find_some hf
  subst h2
  have e : put o key y l = l := Rising.ext o key (h.put o key y) h fun z => by
    rw [mem_put]
    constructor
    · rintro (rfl | ⟨hz, _⟩)
      · exact h1
      · exact hz
    · intro hz
      by_cases e : key z = key y
      · exact .inl (h.inj o key hz h1 e)
      · exact .inr ⟨hz, e⟩
  have := put_perm y h
  rwa [e] at this
theorem sum_del (f : α → Int) (k : κ) {l : List α} (h : Rising o key l) : (l.map f).sum = ((del key k l).map f).sum + (match find key k l with | some y => f y | none => 0) := by
  cases hf : find key k l with
  | none => rw [del_none hf]; simp
  | some y => rw [sum_perm ((del_some h hf).map f)]; simp; omega
theorem len_del (k : κ) {l : List α} (h : Rising o key l) : l.length = (del key k l).length + (match find key k l with | some _ => 1 | none => 0) := by
  cases hf : find key k l with
  | none => rw [del_none hf]; rfl
  | some y => rw [(del_some h hf).length_eq]; rfl
theorem del_le (k : κ) (l : List α) : (del key k l).length ≤ l.length := List.length_filter_le _ _
theorem find_put (x : α) {l : List α} (h : Rising o key l) (k : κ) : find key k (put o key x l) = if k = key x then some x else find key k l := by
  have hr := h.put o key x
  by_cases hk : k = key x
  · rw [if_pos hk, hk]; exact find_mem hr ((mem_put o key).2 (.inl rfl))
  · rw [if_neg hk]
    cases hf : find key k l with
    | some y =>
      obtain ⟨h1, h2⟩ := find_some hf
      subst h2
      exact find_mem hr ((mem_put o key).2 (.inr ⟨h1, hk⟩))
    | none =>
      unfold find
      rw [List.find?_eq_none]
      intro y hy
      rcases (mem_put o key).1 hy with rfl | ⟨h1, _⟩
      · simpa using fun e => hk e.symm
      · simpa using find_none hf y h1
theorem find_del (k' : κ) {l : List α} (h : Rising o key l) (k : κ) : find key k (del key k' l) = if k = k' then none else find key k l := by
  have hr := h.del o key k'
  by_cases hk : k = k'
  · rw [if_pos hk]
    unfold find
    rw [List.find?_eq_none]
    intro y hy
    have := (mem_del key).1 hy
    simpa [hk] using this.2
  · rw [if_neg hk]
    cases hf : find key k l with
    | some y =>
      obtain ⟨h1, h2⟩ := find_some hf
      subst h2
      exact find_mem hr ((mem_del key).2 ⟨h1, hk⟩)
    | none =>
      unfold find
      rw [List.find?_eq_none]
      intro y hy
      have := find_none hf y ((mem_del key).1 hy).1
      simpa using this
end
/-- A sorted list of keys that are each once is rising. -/
theorem Rising.of_sorted {κ α : Type} {o : Ord κ} {key : α → κ} {l : List α} (hs : l.Pairwise fun x y => o.lt (key y) (key x) = false) (hn : l.Pairwise fun x y => key x ≠ key y) : Rising o key l := by
  unfold Rising
  induction l with
  | nil => exact List.Pairwise.nil
  | cons x l ih =>
    obtain ⟨a, b⟩ := List.pairwise_cons.1 hs
    obtain ⟨c, d⟩ := List.pairwise_cons.1 hn
    refine List.pairwise_cons.2 ⟨fun y hy => ?_, ih b d⟩
    rcases o.tri (key x) (key y) with h | h | h
    · exact h
    · exact absurd h (c y hy)
    · rw [a y hy] at h; cases h
end Go.Sl
end
section
/- What the shelf's sort of structs does to an owned slice. No program is named here. -/
namespace Go.Sl
open Go Go.RowKit Go.Sort Go.Proofs
section
variable {α : Type} [Inhabited α] {size : Nat} {cells : α → List Value} {pos : 0 < size} {hl : ∀ x, (cells x).length = size} {h1 : ∀ x, ∀ u ∈ cells x, u.oneCell' = true} {h : Hp} {b off cap : Nat} {xs : List α} {w : World}
theorem Ow.holds (o : Ow (Kd.flat size cells pos hl h1) h (some ⟨b, off, .none⟩) cap xs) (s : h.sub w) (hc : 0 < xs.length) : HoldsK cells size w b off xs.toArray := by
  obtain ⟨b', off', cur, E, e, hb, hsz, hrow⟩ := o.row _ rfl (by have := o.le; omega)
  cases e
  have hbw := s b _ hb
  intro t ht
  have ht' : t < xs.length * size := by simpa [size_flatK] using ht
  have hq : t / size < xs.length := (Nat.div_lt_iff_lt_mul pos).2 ht'
  have hm : t % size < size := Nat.mod_lt _ pos
  obtain ⟨cs, hK, hcs⟩ := hrow (t / size) xs[t / size] (by simp [hq])
  have hK' : cs = cells xs[t / size] := hK
  subst hK'
  have hu := hcs (t % size) _ (List.getElem?_eq_getElem (by rw [hl]; exact hm))
  have e2 : off + t / size * size + t % size = off + t := by
    have := Nat.div_add_mod t size
    rw [Nat.mul_comm] at this; omega
  simp only [Kd.flat] at hu
  rw [e2] at hu
  refine ⟨?_, frozen_of_row w b _ cur E hbw⟩
  rw [cell_of_row w b _ cur E (0, 0) hbw, hu, get_flatK _ _ _ t (by simpa using ht')]
  simp only [id]
  have e3 : xs.toArray[t / size]! = xs[t / size] := by simp [hq]
  rw [e3, getElem!_pos _ _ (by rw [hl]; exact hm)]
theorem Ow.sorted (o : Ow (Kd.flat size cells pos hl h1) h (some ⟨b, off, .none⟩) cap xs) (s : h.sub w) (hc : 0 < xs.length) {w' : World} {n : Nat} {d : Array α} {os : Array Obj} (hd : d.size = xs.length) (hw : w' = sortWorldK cells size w b off n d os) :
    ∃ h', Ow (Kd.flat size cells pos hl h1) h' (some ⟨b, off, .none⟩) cap d.toList ∧ Upd h h' w w' := by
  obtain ⟨b', off', cur, E, e, hb, hsz, _⟩ := o.row _ rfl (by have := o.le; omega)
  cases e
  have hbw := s b _ hb
  have hlt := s.lt (b := b) (by simp [hb])
  have hle := o.le
  have hsz' : off + cap * size ≤ cur.size := hsz
  have hfit : xs.length * size ≤ cap * size := Nat.mul_le_mul_right _ hle
  have hblock : ∀ q, q < w.heap.size → w'.heap[q]? = if q = b then some (.cells (putCells id off (flatK cells size d) cur) E (0, 0)) else w.heap[q]? := by
    intro q hq
    subst hw
    show (((w.heap.modify b (onCells (putCells id off (flatK cells size d)))) ++ os)[q]?) = _
    rw [Array.getElem?_append, if_pos (by simpa using hq), Array.getElem?_modify]
    by_cases e : b = q
    · subst e
      rw [if_pos rfl, if_pos rfl, hbw]; rfl
    · rw [if_neg e, if_neg (fun h => e h.symm)]
  refine ⟨h.put b (.cells (putCells id off (flatK cells size d) cur) E), ⟨by simpa [hd] using hle, o.max, o.nil, fun ad e _ => ?_⟩, ?_⟩
  · cases e
    refine ⟨b, off, _, E, rfl, Hp.put_self, by simpa [putCells] using hsz, fun i x hx => ⟨cells x, rfl, fun j u hu => ?_⟩⟩
    have hi : i < d.size := by simpa using (List.getElem?_eq_some_iff.1 hx).1
    have hj : j < size := by rw [← hl x]; exact (List.getElem?_eq_some_iff.1 hu).1
    have ht : i * size + j < d.size * size := by
      have := Nat.mul_le_mul_right size (show i + 1 ≤ d.size from hi); rw [Nat.add_mul, Nat.one_mul] at this; omega
    have e1 : (i * size + j) / size = i := by rw [Nat.mul_comm, Nat.mul_add_div pos, Nat.div_eq_of_lt hj, Nat.add_zero]
    have e2 : (i * size + j) % size = j := by rw [Nat.mul_comm, Nat.mul_add_mod, Nat.mod_eq_of_lt hj]
    have hds : d.size * size = xs.length * size := by rw [hd]
    simp only [Kd.flat, putCells, Array.getElem?_mapIdx]
    rw [Array.getElem?_eq_getElem (by omega)]
    simp only [Option.map_some, size_flatK]
    rw [if_pos (by omega)]
    have e4 : off + i * size + j - off = i * size + j := by omega
    have e5 : d[i]! = x := by
      have h2 := (List.getElem?_eq_some_iff.1 hx).2
      rw [getElem!_pos d i hi]; simpa using h2
    have hu2 := List.getElem?_eq_some_iff.1 hu
    rw [e4, get_flatK _ _ _ _ ht, e1, e2, e5, getElem!_pos _ _ (by rw [hl]; exact hj), hu2.2]; rfl
  · refine ⟨by subst hw; rfl, by subst hw; rfl, by subst hw; rfl, ?_, fun q hq hn => ?_, fun q o2 e2 => ?_, fun q hq => ?_⟩
    · subst hw
      show w.heap.size ≤ ((w.heap.modify b _) ++ os).size
      simp
    · rw [hblock q hq, if_neg (fun e => by rw [e, hb] at hn; cases hn)]
    · simp only [Hp.put] at e2
      split at e2
      · rename_i hq; cases e2; rw [hq, hblock b hlt, if_pos rfl]
      · rename_i hq
        rw [hblock q (s.lt (by simp [e2])), if_neg hq]; exact s q o2 e2
    · left
      simp only [Hp.put] at hq
      split at hq
      · rename_i h2; rw [h2, hb]; simp
      · exact hq
end
/-- A rising list's strict weak order. -/
theorem swo_ord {κ α : Type} (o : Ord κ) (key : α → κ) (lt : α → α → Bool) (h : ∀ x y, lt x y = o.lt (key x) (key y)) : SWO lt where
  irrefl x := by rw [h, o.irrefl]
  trans x y z a b := by rw [h] at *; exact o.trans _ _ _ a b
  ntrans x y z a b := by
    rw [h] at *
    rcases o.tri (key x) (key y) with e | e | e
    · rw [a] at e; cases e
    · rw [e]; exact b
    · rcases o.tri (key y) (key z) with f | f | f
      · rw [b] at f; cases f
      · rw [← f]; exact a
      · exact o.asymm (o.trans _ _ _ f e)
/-- What a list of keys, each once, is when sorted. -/
def isort {κ α : Type} [DecidableEq κ] (o : Ord κ) (key : α → κ) (l : List α) : List α := l.foldr (fun x acc => put o key x acc) []
section
variable {κ α : Type} [DecidableEq κ] {o : Ord κ} {key : α → κ}
theorem isort_rising (l : List α) : Rising o key (isort o key l) := by
  induction l with
  | nil => exact List.Pairwise.nil
  | cons x l ih => exact ih.put o key x
theorem mem_isort {l : List α} (h : l.Pairwise fun x y => key x ≠ key y) {z : α} : z ∈ isort o key l ↔ z ∈ l := by
  induction l with
  | nil => simp [isort]
  | cons x l ih =>
    obtain ⟨a, b⟩ := List.pairwise_cons.1 h
    show z ∈ put o key x (isort o key l) ↔ _
    rw [mem_put, ih b, List.mem_cons]
    constructor
    · rintro (e | ⟨e, _⟩)
      · exact .inl e
      · exact .inr e
    · rintro (e | e)
      · exact .inl e
      · exact .inr ⟨e, fun e2 => a z e e2.symm⟩
theorem isort_of [Inhabited α] {l : List α} (hn : l.Pairwise fun x y => key x ≠ key y) {lt : α → α → Bool} (hlt : ∀ x y, lt x y = o.lt (key x) (key y)) {d : Array α} (hp : PermIn 0 l.length l.toArray d) (hs : SortedIn lt 0 l.length d) : d.toList = isort o key l := by
  obtain ⟨h1, _, h3⟩ := hp
  have h1' : d.size = l.length := by simpa using h1
  have hperm : d.toList.Perm l := by
    have e1 : (d.extract 0 l.length).toList = d.toList := by rw [← h1']; simp
    have e2 : (l.toArray.extract 0 l.length).toList = l := by simp
    rwa [e1, e2] at h3
  refine Rising.ext o key (Rising.of_sorted ?_ ?_) (isort_rising l) fun z => by rw [mem_isort hn]; exact hperm.mem_iff
  · rw [List.pairwise_iff_getElem]
    intro i j hi hj hij
    have hi' : i < d.size := by simpa using hi
    have hj' : j < d.size := by simpa using hj
    have := hs i j (Nat.zero_le _) hij (by omega)
    rw [getElem!_pos d i hi', getElem!_pos d j hj', hlt] at this
    simpa using this
  · exact hperm.symm.pairwise hn fun h => h.symm
end
end Go.Sl
end
section
/- Where a predicate first holds. No program is named here. -/
namespace Go.Sl
/-- Where a predicate first holds; -1: nowhere. -/
def idx {α : Type} (p : α → Bool) (xs : List α) : Int := if xs.any p then (xs.findIdx p : Nat) else -1
theorem idx_any {α : Type} (p : α → Bool) (xs : List α) : decide (0 ≤ idx p xs) = xs.any p := by
  unfold idx; split <;> rename_i h <;> simp [h]
theorem idx_hit {α : Type} {p : α → Bool} {xs : List α} {j : Nat} {x : α} (h : ∀ y ∈ xs.take j, p y = false) (hx : xs[j]? = some x) (hp : p x = true) : idx p xs = j := by
  have hj := (List.getElem?_eq_some_iff.1 hx)
  have ha : xs.any p = true := List.any_eq_true.2 ⟨x, List.mem_of_getElem? hx, hp⟩
  simp only [idx, ha, if_true]
  congr 1
  refine (List.findIdx_eq hj.1).2 ⟨by rw [hj.2]; exact hp, fun i hi => ?_⟩
  have hil : i < xs.length := by have := hj.1; omega
  have := h xs[i] (by rw [List.mem_take_iff_getElem]; exact ⟨i, by omega, rfl⟩)
  simpa using this
theorem idx_miss {α : Type} {p : α → Bool} {xs : List α} (h : ∀ y ∈ xs, p y = false) : idx p xs = -1 := by
  have : xs.any p = false := by rw [List.any_eq_false]; intro y hy; simp [h y hy]
  simp [idx, this]
end Go.Sl
end
section
/- Items put together, plain. No program is named here. -/
namespace Go.Sl
open Go Go.RowKit
def ikey (x : SItem) : Int := x.kind
abbrev RisingI (l : List SItem) : Prop := Rising ordInt ikey l
def DistI (l : List SItem) : Prop := l.Pairwise fun x y => ikey x ≠ ikey y
def hasK (l : List SItem) (k : Int) : Prop := ∃ y ∈ l, y.kind = k
/-- One item more, as the program lays it. -/
def addOne : List SItem → SItem → List SItem
  | [], x => [⟨x.kind, x.amt⟩]
  | y :: l, x => if y.kind = x.kind then ⟨y.kind, y.amt + x.amt⟩ :: l else y :: addOne l x
def addAll (zs : List SItem) : List SItem := zs.foldl addOne []
def fxAdd (zs : List SItem) : List SItem := isort ordInt ikey (addAll zs)
/-- One item more, as the document lays it. -/
def insR : List SItem → SItem → List SItem
  | [], x => [x]
  | y :: l, x => if y.kind < x.kind then y :: insR l x else if y.kind = x.kind then ⟨y.kind, y.amt + x.amt⟩ :: l else x :: y :: l
def refAdd (zs : List SItem) : List SItem := zs.foldl insR []
theorem addOne_hit {x : SItem} : ∀ {l : List SItem} {i : Nat} {y : SItem}, l[i]? = some y → y.kind = x.kind → (∀ z ∈ l.take i, z.kind ≠ x.kind) → addOne l x = l.set i ⟨y.kind, y.amt + x.amt⟩
  | [], _, _, h, _, _ => by simp at h
  | z :: l, 0, y, h, e, _ => by simp at h; subst h; simp [addOne, e]
  | z :: l, i + 1, y, h, e, hn => by
    have h1 := hn z (by simp)
    simp only [addOne, if_neg h1, List.set_cons_succ]
    rw [addOne_hit (by simpa using h) e fun u hu => hn u (by simp [hu])]
theorem addOne_miss {x : SItem} : ∀ {l : List SItem}, (∀ z ∈ l, z.kind ≠ x.kind) → addOne l x = l ++ [⟨x.kind, x.amt⟩]
  | [], _ => rfl
  | z :: l, h => by
    have h1 := h z (by simp)
    simp only [addOne, if_neg h1, List.cons_append]
    rw [addOne_miss fun u hu => h u (by simp [hu])]
theorem acc_addOne (k : Int) (x : SItem) : ∀ l : List SItem, accSum k (addOne l x) = accSum k l + if x.kind = k then x.amt else 0
  | [] => by simp [addOne, accSum]
  | y :: l => by
    unfold addOne
    split
    · rename_i h
      simp only [accSum, h]
      split <;> omega
    · simp only [accSum, acc_addOne k x l]; omega
theorem has_addOne (k : Int) (x : SItem) : ∀ l : List SItem, hasK (addOne l x) k ↔ hasK l k ∨ x.kind = k
  | [] => by simp [addOne, hasK]
  | y :: l => by
    have ih := has_addOne k x l
    unfold hasK at ih
    unfold addOne hasK
    split
    · rename_i h
      simp only [List.mem_cons]
      constructor
      · rintro ⟨z, rfl | hz, e⟩
        · exact .inl ⟨y, .inl rfl, e⟩
        · exact .inl ⟨z, .inr hz, e⟩
      · rintro (⟨z, rfl | hz, e⟩ | e)
        · exact ⟨_, .inl rfl, e⟩
        · exact ⟨z, .inr hz, e⟩
        · exact ⟨_, .inl rfl, by simpa [h] using e⟩
    · simp only [List.mem_cons]
      constructor
      · rintro ⟨z, rfl | hz, e⟩
        · exact .inl ⟨z, .inl rfl, e⟩
        · rcases ih.1 ⟨z, hz, e⟩ with ⟨u, hu, e2⟩ | e2
          · exact .inl ⟨u, .inr hu, e2⟩
          · exact .inr e2
      · rintro (⟨z, rfl | hz, e⟩ | e)
        · exact ⟨z, .inl rfl, e⟩
        · obtain ⟨u, hu, e2⟩ := ih.2 (.inl ⟨z, hz, e⟩); exact ⟨u, .inr hu, e2⟩
        · obtain ⟨u, hu, e2⟩ := ih.2 (.inr e); exact ⟨u, .inr hu, e2⟩
theorem DistI.addOne (x : SItem) : ∀ {l : List SItem}, DistI l → DistI (addOne l x)
  | [], _ => by simp [DistI, Go.Sl.addOne]
  | y :: l, h => by
    have h1 := List.pairwise_cons.1 h
    unfold Go.Sl.addOne
    split
    · exact List.pairwise_cons.2 ⟨fun z hz => h1.1 z hz, h1.2⟩
    · rename_i hne
      refine List.pairwise_cons.2 ⟨fun z hz => ?_, DistI.addOne x h1.2⟩
      have : hasK (Go.Sl.addOne l x) z.kind := ⟨z, hz, rfl⟩
      rcases (has_addOne _ _ _).1 this with ⟨u, hu, e⟩ | e
      · have := h1.1 u hu; show y.kind ≠ z.kind; rw [← e]; exact this
      · show y.kind ≠ z.kind; rw [← e]; exact hne
theorem addAll_snoc (zs : List SItem) (x : SItem) : addAll (zs ++ [x]) = addOne (addAll zs) x := by simp [addAll]
theorem refAdd_snoc (zs : List SItem) (x : SItem) : refAdd (zs ++ [x]) = insR (refAdd zs) x := by simp [refAdd]
theorem foldl_acc {f : List SItem → SItem → List SItem} (hf : ∀ k x l, accSum k (f l x) = accSum k l + if x.kind = k then x.amt else 0) (k : Int) : ∀ (zs l : List SItem), accSum k (zs.foldl f l) = accSum k l + accSum k zs
  | [], l => by simp [accSum]
  | x :: zs, l => by
    rw [List.foldl_cons, foldl_acc hf k zs, hf]
    simp only [accSum]; omega
theorem foldl_has {f : List SItem → SItem → List SItem} (hf : ∀ k x l, hasK (f l x) k ↔ hasK l k ∨ x.kind = k) (k : Int) : ∀ (zs l : List SItem), hasK (zs.foldl f l) k ↔ hasK l k ∨ hasK zs k
  | [], l => by simp [hasK]
  | x :: zs, l => by
    rw [List.foldl_cons, foldl_has hf k zs, hf]
    simp only [hasK, List.mem_cons, exists_eq_or_imp]
    constructor
    · rintro ((h | h) | h)
      · exact .inl h
      · exact .inr (.inl h)
      · exact .inr (.inr h)
    · rintro (h | h | h)
      · exact .inl (.inl h)
      · exact .inl (.inr h)
      · exact .inr h
theorem foldl_dist {f : List SItem → SItem → List SItem} (hf : ∀ x l, DistI l → DistI (f l x)) : ∀ (zs l : List SItem), DistI l → DistI (zs.foldl f l)
  | [], _, h => h
  | x :: zs, _, h => foldl_dist hf zs _ (hf x _ h)
theorem addAll_dist (zs : List SItem) : DistI (addAll zs) := foldl_dist (fun x _ h => h.addOne x) zs [] List.Pairwise.nil
theorem acc_miss {k : Int} : ∀ {l : List SItem}, ¬ hasK l k → accSum k l = 0
  | [], _ => rfl
  | y :: l, h => by
    have h1 : y.kind ≠ k := fun e => h ⟨y, by simp, e⟩
    have h2 : ¬ hasK l k := fun ⟨z, hz, e⟩ => h ⟨z, by simp [hz], e⟩
    simp only [accSum, if_neg h1, acc_miss h2]; rfl
theorem DistI.acc : ∀ {l : List SItem}, DistI l → ∀ x ∈ l, accSum x.kind l = x.amt
  | [], _, x, hx => by simp at hx
  | y :: l, h, x, hx => by
    have h1 := List.pairwise_cons.1 h
    rcases List.mem_cons.1 hx with rfl | hx
    · simp only [accSum, if_true]
      rw [acc_miss (k := x.kind) fun ⟨z, hz, e⟩ => h1.1 z hz e.symm]; omega
    · have h2 : y.kind ≠ x.kind := h1.1 x hx
      simp only [accSum, if_neg h2]
      rw [DistI.acc h1.2 x hx]; omega
theorem DistI.mem {l : List SItem} (h : DistI l) (x : SItem) : x ∈ l ↔ hasK l x.kind ∧ x.amt = accSum x.kind l := by
  constructor
  · intro hx; exact ⟨⟨x, hx, rfl⟩, (h.acc x hx).symm⟩
  · rintro ⟨⟨y, hy, e⟩, ha⟩
    have h1 := h.acc y hy
    rw [e] at h1
    have : x = y := by
      cases x; cases y; simp only [SItem.mk.injEq] at *; exact ⟨e.symm, ha.trans h1⟩
    rw [this]; exact hy
theorem RisingI.dist {l : List SItem} (h : RisingI l) : DistI l := h.imp fun e => ordInt.ne e
/-- What there is of two lists that rise, or stand apart. -/
def SameK (l zs : List SItem) : Prop := ∀ x, x ∈ l ↔ hasK zs x.kind ∧ x.amt = accSum x.kind zs
theorem SameK.ext {l m zs : List SItem} (hl : RisingI l) (hm : RisingI m) (h1 : SameK l zs) (h2 : SameK m zs) : l = m :=
  Rising.ext ordInt ikey hl hm fun x => (h1 x).trans (h2 x).symm
theorem addAll_mem (zs : List SItem) : SameK (addAll zs) zs := fun x => by
  rw [(addAll_dist zs).mem x]
  have h1 := foldl_has has_addOne x.kind zs []
  have h2 := foldl_acc acc_addOne x.kind zs []
  simp only [hasK, List.not_mem_nil, false_and, exists_const, false_or] at h1
  simp only [accSum, Int.zero_add] at h2
  unfold addAll hasK
  rw [h1, h2]
theorem fxAdd_rising (zs : List SItem) : RisingI (fxAdd zs) := isort_rising _
theorem fxAdd_mem (zs : List SItem) : SameK (fxAdd zs) zs := fun x => by
  unfold fxAdd; rw [mem_isort (addAll_dist zs)]; exact addAll_mem zs x
theorem acc_insR (k : Int) (x : SItem) : ∀ l : List SItem, accSum k (insR l x) = accSum k l + if x.kind = k then x.amt else 0
  | [] => by simp [insR, accSum]
  | y :: l => by
    unfold insR
    split
    · simp only [accSum, acc_insR k x l]; omega
    · split
      · rename_i h
        simp only [accSum, h]
        split <;> omega
      · simp only [accSum]; omega
theorem has_insR (k : Int) (x : SItem) : ∀ l : List SItem, hasK (insR l x) k ↔ hasK l k ∨ x.kind = k
  | [] => by simp [insR, hasK]
  | y :: l => by
    have ih := has_insR k x l
    unfold hasK at ih
    unfold insR hasK
    split
    · simp only [List.mem_cons, exists_eq_or_imp, ih, or_assoc]
    · split
      · rename_i h
        simp only [List.mem_cons, exists_eq_or_imp, h]
        constructor
        · rintro (e | h)
          · exact .inr e
          · exact .inl (.inr h)
        · rintro ((e | h) | e)
          · exact .inl e
          · exact .inr h
          · exact .inl e
      · simp only [List.mem_cons, exists_eq_or_imp]
        constructor
        · rintro (e | h)
          · exact .inr e
          · exact .inl h
        · rintro (h | e)
          · exact .inr h
          · exact .inl e
theorem RisingI.insR (x : SItem) : ∀ {l : List SItem}, RisingI l → RisingI (insR l x)
  | [], _ => by simp [RisingI, Rising, Go.Sl.insR]
  | y :: l, h => by
    have h1 := List.pairwise_cons.1 h
    unfold Go.Sl.insR
    split
    · rename_i hlt
      refine List.pairwise_cons.2 ⟨fun z hz => ?_, RisingI.insR x h1.2⟩
      rcases (has_insR z.kind x l).1 ⟨z, hz, rfl⟩ with ⟨u, hu, e⟩ | e
      · have := h1.1 u hu; simp only [ordInt, ikey, decide_eq_true_eq] at this ⊢; omega
      · simp only [ordInt, ikey, decide_eq_true_eq]; omega
    · split
      · exact List.pairwise_cons.2 ⟨fun z hz => h1.1 z hz, h1.2⟩
      · rename_i h2 h3
        refine List.pairwise_cons.2 ⟨fun z hz => ?_, h⟩
        simp only [ordInt, ikey, decide_eq_true_eq]
        rcases List.mem_cons.1 hz with rfl | hz
        · omega
        · have := h1.1 z hz; simp only [ordInt, ikey, decide_eq_true_eq] at this; omega
theorem refAdd_rising (zs : List SItem) : RisingI (refAdd zs) := by
  have : ∀ (zs l : List SItem), RisingI l → RisingI (zs.foldl Go.Sl.insR l) := by
    intro zs
    induction zs with
    | nil => intro l h; exact h
    | cons x zs ih => intro l h; exact ih _ (h.insR x)
  exact this zs [] List.Pairwise.nil
theorem refAdd_mem (zs : List SItem) : SameK (refAdd zs) zs := fun x => by
  rw [(refAdd_rising zs).dist.mem x]
  have h1 := foldl_has has_insR x.kind zs []
  have h2 := foldl_acc acc_insR x.kind zs []
  simp only [hasK, List.not_mem_nil, false_and, exists_const, false_or] at h1
  simp only [accSum, Int.zero_add] at h2
  unfold refAdd hasK
  rw [h1, h2]
theorem fxAdd_ref (zs : List SItem) : fxAdd zs = refAdd zs := SameK.ext (fxAdd_rising zs) (refAdd_rising zs) (fxAdd_mem zs) (refAdd_mem zs)
theorem hasK_append (a b : List SItem) (k : Int) : hasK (a ++ b) k ↔ hasK a k ∨ hasK b k := by
  simp only [hasK, List.mem_append]
  constructor
  · rintro ⟨y, h | h, e⟩
    · exact .inl ⟨y, h, e⟩
    · exact .inr ⟨y, h, e⟩
  · rintro (⟨y, h, e⟩ | ⟨y, h, e⟩)
    · exact ⟨y, .inl h, e⟩
    · exact ⟨y, .inr h, e⟩
theorem fxAdd_comm (a b : List SItem) : fxAdd (a ++ b) = fxAdd (b ++ a) := by
  refine SameK.ext (zs := a ++ b) (fxAdd_rising _) (fxAdd_rising _) (fxAdd_mem _) fun x => ?_
  rw [fxAdd_mem (b ++ a) x, hasK_append, hasK_append, accSum_append, accSum_append, Or.comm, Int.add_comm]
theorem fxAdd_again (zs : List SItem) : fxAdd (fxAdd zs) = fxAdd zs :=
  SameK.ext (zs := fxAdd zs) (fxAdd_rising _) (fxAdd_rising _) (fxAdd_mem _) fun x => (fxAdd_rising zs).dist.mem x
/-- Bounds of what is put together. -/
def BdL (b : Int) (l : List SItem) : Prop := ∀ x ∈ l, -b ≤ x.amt ∧ x.amt ≤ b
theorem acc_bd {b : Int} (hb : 0 ≤ b) {zs : List SItem} (h : BdL b zs) (k : Int) : -(zs.length * b) ≤ accSum k zs ∧ accSum k zs ≤ zs.length * b := accSum_bd hb k zs h
theorem SameK.bd {b : Int} (hb : 0 ≤ b) {l zs : List SItem} (s : SameK l zs) (h : BdL b zs) : BdL (zs.length * b) l := fun x hx => by
  rw [((s x).1 hx).2]; exact acc_bd hb h _
theorem addOne_len (x : SItem) : ∀ l : List SItem, (addOne l x).length ≤ l.length + 1
  | [] => by simp [addOne]
  | y :: l => by
    have := addOne_len x l
    unfold addOne; split <;> simp <;> omega
theorem insR_len (x : SItem) : ∀ l : List SItem, (insR l x).length ≤ l.length + 1
  | [] => by simp [insR]
  | y :: l => by
    have := insR_len x l
    unfold insR; split <;> (try split) <;> simp <;> omega
theorem foldl_lenI {f : List SItem → SItem → List SItem} (hf : ∀ x l, (f l x).length ≤ l.length + 1) : ∀ (zs l : List SItem), (zs.foldl f l).length ≤ l.length + zs.length
  | [], l => by simp
  | x :: zs, l => by
    have h1 := foldl_lenI hf zs (f l x)
    have h2 := hf x l
    rw [List.foldl_cons, List.length_cons]; omega
theorem addAll_len (zs : List SItem) : (addAll zs).length ≤ zs.length := by have := foldl_lenI addOne_len zs []; simpa [addAll] using this
theorem refAdd_len (zs : List SItem) : (refAdd zs).length ≤ zs.length := by have := foldl_lenI insR_len zs []; simpa [refAdd] using this
theorem fxAdd_len (zs : List SItem) : (fxAdd zs).length ≤ zs.length := by rw [fxAdd_ref]; exact refAdd_len zs
/-- The document's place of a kind: what is ahead of it is less. -/
def posR : List SItem → Int → Nat
  | [], _ => 0
  | y :: l, k => if y.kind < k then posR l k + 1 else 0
theorem posR_le (k : Int) : ∀ l : List SItem, posR l k ≤ l.length
  | [] => by simp [posR]
  | y :: l => by have := posR_le k l; unfold posR; split <;> simp; omega
theorem posR_at {k : Int} : ∀ {l : List SItem} {j : Nat}, (∀ y ∈ l.take j, y.kind < k) → (∀ y, l[j]? = some y → ¬ y.kind < k) → j ≤ l.length → posR l k = j
  | [], j, _, _, h => by simp at h; subst h; rfl
  | z :: l, 0, _, h2, _ => by have := h2 z (by simp); simp [posR, this]
  | z :: l, j + 1, h1, h2, h3 => by
    have e := h1 z (by simp)
    simp only [posR, if_pos e]
    rw [posR_at (j := j) (fun y hy => h1 y (by simp [hy])) (fun y hy => h2 y (by simpa using hy)) (by simpa using h3)]
theorem insR_hit {x : SItem} : ∀ {l : List SItem} {y : SItem}, l[posR l x.kind]? = some y → y.kind = x.kind → insR l x = l.set (posR l x.kind) ⟨y.kind, y.amt + x.amt⟩
  | [], y, h, _ => by simp at h
  | z :: l, y, h, e => by
    unfold posR at h ⊢
    unfold insR
    by_cases hz : z.kind < x.kind
    · rw [if_pos hz] at h ⊢
      rw [if_pos hz, List.set_cons_succ, insR_hit (by simpa using h) e]
    · rw [if_neg hz] at h ⊢
      simp at h; subst h
      rw [if_neg hz, if_pos e]; rfl
theorem insR_miss {x : SItem} : ∀ {l : List SItem}, (∀ y, l[posR l x.kind]? = some y → y.kind ≠ x.kind) → insR l x = l.take (posR l x.kind) ++ (x :: l.drop (posR l x.kind))
  | [], _ => rfl
  | z :: l, h => by
    unfold posR at h ⊢
    unfold insR
    by_cases hz : z.kind < x.kind
    · rw [if_pos hz] at h ⊢
      rw [if_pos hz, insR_miss (fun y hy => h y (by simpa using hy))]; rfl
    · rw [if_neg hz] at h ⊢
      rw [if_neg hz, if_neg (h z (by simp))]; rfl
end Go.Sl
end
section
/- slices.IndexFunc over api.Item, whatever the predicate. -/
namespace Go.Proofs.Ytdcfojohgcmpcaa
open Go.RowKit Go.Sl
set_option maxHeartbeats 1000000
set_option maxRecDepth 100000
theorem indexFunc_item (g : FuncId) (lb : Array Value) (eg : Enters Try.prog g) (p : SItem → Bool) (A : Option Addr) (ca : Nat) (xs : List SItem) (h : Hp) (w : World) (hs : h.sub w) (sx : Sl kItem h A ca xs)
    (hp : ∀ (x : SItem) (W : World), Below w.heap.size w W → Calls Try.prog g (#[.agg #[.int .i64 x.kind, .int .i64 x.amt]] ++ lb) W fun e W' => e = .returned (.bool (p x)) ∧ Below W.heap.size W W') :
    Calls Try.prog 69 #[.slice A xs.length ca, .func (.func g) #[] lb] w fun e w' => e = .returned (.int .i64 (idx p xs)) ∧ Below w.heap.size w w' := by
  have m1 := sx.small
  have eg' := fun (args : Array Value) (w : World) => eg args w
  go_enter Try.func69, Try.ntmps69
  go_wp2
  go_loopw [8] (fun i wr => ∃ (j : Nat), j ≤ xs.length ∧ i = .int .i64 j ∧ Hid (∀ y ∈ xs.take j, p y = false) ∧ Below w.heap.size w wr) (fun i _ => xs.length - (intOf i).toNat)
  case atStart => exact ⟨0, by omega, rfl, by unfold Hid; simp, Below.refl _ _⟩
  case round =>
    obtain ⟨j, hj, rfl, hn, hb⟩ := hrel
    by_cases hlt : j < xs.length
    · obtain ⟨x, hx⟩ := some_of_lt hlt
      obtain ⟨b1, o1, rfl, c1, c2⟩ := sx.item (hs.of_below hb) hx
      have i1 : (0 : Int) ≤ (j : Int) := by omega
      have i2 : (j : Int) < (xs.length : Int) := by omega
      have hpx := Lib.hid (hp x wr hb)
      by_cases hpp : p x = true
      · have HF : Hid (idx p xs = j) := idx_hit hn.out hx.out hpp
        go_wp2_with fail
        refine hpx.out.mono ?_
        rintro e w1 ⟨rfl, b1⟩
        go_wp2
        go_ret
        exact ⟨by rw [HF.out]; rfl, hb.trans (b1.mono hb.size)⟩
      · have hpf : p x = false := by simpa using hpp
        have HN : Hid (∀ y ∈ xs.take (j + 1), p y = false) := by
          intro y hy
          rw [take_next hx] at hy
          rcases List.mem_append.1 hy with hy | hy
          · exact hn.out y hy
          · simp at hy; subst hy; exact hpf
        clear hpp
        go_wp2_with fail
        refine hpx.out.mono ?_
        rintro e w1 ⟨rfl, b1⟩
        go_wp2
        go_roundw
        case rel => exact ⟨j + 1, by omega, by go_num, HN, hb.trans (b1.mono hb.size)⟩
        case measure => simp [intOf]; omega
    · have HF : Hid (idx p xs = -1) := idx_miss (fun y hy => hn.out y (by rw [List.take_of_length_le (by omega)]; exact hy))
      go_wp2
      go_ret
      exact ⟨by rw [HF.out]; rfl, hb⟩
end Go.Proofs.Ytdcfojohgcmpcaa
end
