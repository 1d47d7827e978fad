/- The walks of sides.Of, Sum, Even, Both and of journal.Sides. -/
import Derived.Test.YtnpnndifhlihhaaBase
import Derived.Test.YtnpnndifhlihhaaFloat
import Derived.Test.YtnpnndifhlihhaaJournalP
namespace Go.Proofs.Ytnpnndifhlihhaa
open Go.RowKit Go.Sl
set_option maxHeartbeats 400000
set_option maxRecDepth 100000
def cx (a b : Nat) : Value := .complex .f64 (fe a) (fe b)
theorem fe_int {n : Int} (h : 0 ≤ n) : floatOfInt .f64 n = fe n.toNat := by
  unfold fe; rw [Int.toNat_of_nonneg h]
theorem sidesOf_calls (n : Int) (w : World) : Calls Try.prog 60 #[.int .i64 n] w fun e w' => e = .returned (.complex .f64 (fe (deb n)) (fe (cre n))) ∧ w = w' := by
  by_cases hm : money n = true
  · have hb : -100000000000 ≤ n ∧ n ≤ 100000000000 := by simpa [money] using hm
    obtain ⟨b1, b2⟩ := hb
    by_cases hp : 0 < n
    · have hd : Value.complex .f64 (fe (deb n)) (fe (cre n)) = .complex .f64 (floatOfInt .f64 n) 0 := by
        simp only [deb, cre, hm, if_true]
        rw [fe_int (by omega : 0 ≤ n), show (-n).toNat = 0 by omega, fe_zero]
      have H := Lib.hid hd
      clear hd
      go_enter Try.func60, Try.ntmps60
      go_wp2_with (go_at_call 65; refine (money_calls _ _).mono ?_; rintro e w' ⟨rfl, rfl⟩)
      all_goals first | (exfalso; omega) | skip
      go_ret
      exact ⟨by rw [H.out]; rfl, rfl⟩
    · have hd : Value.complex .f64 (fe (deb n)) (fe (cre n)) = .complex .f64 0 (floatOfInt .f64 (-n)) := by
        simp only [deb, cre, hm, if_true]
        rw [fe_int (by omega : 0 ≤ -n), show n.toNat = 0 by omega, fe_zero]
      have H := Lib.hid hd
      clear hd
      go_enter Try.func60, Try.ntmps60
      go_wp2_with (go_at_call 65; refine (money_calls _ _).mono ?_; rintro e w' ⟨rfl, rfl⟩)
      all_goals first | (exfalso; omega) | skip
      go_ret
      exact ⟨by rw [H.out]; rfl, rfl⟩
  · have hm' : money n = false := by simpa using hm
    have hd : Value.complex .f64 (fe (deb n)) (fe (cre n)) = .complex .f64 0 0 := by
      simp [deb, cre, hm', fe_zero]
    have H := Lib.hid hd
    clear hd hm
    go_enter Try.func60, Try.ntmps60
    go_wp2_with (go_at_call 65; refine (money_calls _ _).mono ?_; rintro e w' ⟨rfl, rfl⟩)
    go_ret
    exact ⟨by rw [H.out]; rfl, rfl⟩

/-- The kind of a pair of sides. -/
def kCx : Kd (Nat × Nat) := Kd.flat 1 (fun x => [cx x.1 x.2]) (by decide) (fun _ => rfl) (fun x u h => by simp at h; subst h; rfl)
theorem slCx {h : Hp} {A : Option Addr} {cap : Nat} {xs : List (Nat × Nat)} {w : World} (s : Sl kCx h A cap xs) (hs : h.sub w) {i : Nat} {x : Nat × Nat} (hx : Hid (xs[i]? = some x)) :
    ∃ b off, A = some ⟨b, off, .none⟩ ∧ w.cell? ⟨b, off + i, .none⟩ = some (.complex .f64 (fe x.1) (fe x.2)) := by
  obtain ⟨b, off, cs, e, hK, _, hc⟩ := s.at hs hx.out
  have hK' : cs = [Go.Proofs.Ytnpnndifhlihhaa.cx x.1 x.2] := hK
  subst hK'
  exact ⟨b, off, e, by simpa [kCx, Kd.flat, Go.Proofs.Ytnpnndifhlihhaa.cx] using hc 0 _ rfl⟩
def sum1 (xs : List (Nat × Nat)) : Nat := (xs.map (·.1)).sum
def sum2 (xs : List (Nat × Nat)) : Nat := (xs.map (·.2)).sum
theorem sum1_le : ∀ (xs : List (Nat × Nat)) (j : Nat), sum1 (xs.take j) ≤ sum1 xs
  | [], j => by simp
  | x :: xs, 0 => by simp [sum1]
  | x :: xs, j + 1 => by have := sum1_le xs j; simp only [sum1, List.take_succ_cons, List.map_cons, List.sum_cons] at this ⊢; omega
theorem sum2_le : ∀ (xs : List (Nat × Nat)) (j : Nat), sum2 (xs.take j) ≤ sum2 xs
  | [], j => by simp
  | x :: xs, 0 => by simp [sum2]
  | x :: xs, j + 1 => by have := sum2_le xs j; simp only [sum2, List.take_succ_cons, List.map_cons, List.sum_cons] at this ⊢; omega
theorem sidesSum_calls (A : Option Addr) (ca : Nat) (xs : List (Nat × Nat)) (h : Hp) (w : World) (hs : h.sub w) (sx : Sl kCx h A ca xs) (h1 : sum1 xs < 2 ^ 53) (h2 : sum2 xs < 2 ^ 53) :
    Calls Try.prog 61 #[.slice A xs.length ca] w fun e w' => e = .returned (cx (sum1 xs) (sum2 xs)) ∧ w = w' := by
  have m1 := sx.small
  have H1 := Lib.hid h1
  have H2 := Lib.hid h2
  have HZ : Hid (Value.complex .f64 0 0 = Value.complex .f64 (fe 0) (fe 0)) := by unfold Hid; rw [fe_zero]
  clear h1 h2
  go_enter Try.func61, Try.ntmps61
  go_wp2
  go_loop [3, 8] (fun z i => ∃ j : Nat, j ≤ xs.length ∧ i = .int .i64 j ∧ z = .complex .f64 (fe (sum1 (xs.take j))) (fe (sum2 (xs.take j)))) (fun _ i => xs.length - (intOf i).toNat)
  case atStart => exact ⟨0, by omega, rfl, by rw [HZ.out]; rfl⟩
  case round =>
    obtain ⟨j, hj, rfl, rfl⟩ := hrel
    by_cases hlt : j < xs.length
    · obtain ⟨x, hx⟩ := some_of_lt hlt
      obtain ⟨b1, o1, rfl, c1⟩ := slCx sx hs hx
      have i1 : (0 : Int) ≤ (j : Int) := by omega
      have i2 : (j : Int) < (xs.length : Int) := by omega
      have t1 : sum1 (xs.take (j + 1)) = sum1 (xs.take j) + x.1 := by rw [take_next hx]; simp [sum1]
      have t2 : sum2 (xs.take (j + 1)) = sum2 (xs.take j) + x.2 := by rw [take_next hx]; simp [sum2]
      have g1 : sum1 (xs.take j) + x.1 < 2 ^ 53 := by rw [← t1]; exact Nat.lt_of_le_of_lt (sum1_le _ _) H1.out
      have g2 : sum2 (xs.take j) + x.2 < 2 ^ 53 := by rw [← t2]; exact Nat.lt_of_le_of_lt (sum2_le _ _) H2.out
      have hrun := fun (t : TypeId) (w : World) => run_complex_sum (P := Try.prog) w .add (.inl rfl) t .f64 (fe (sum1 (xs.take j))) (fe (sum2 (xs.take j))) (fe x.1) (fe x.2) (fe (sum1 (xs.take j) + x.1)) (fe (sum2 (xs.take j) + x.2)) (by simp [cSumBits, fe_add g1, fe_add g2])
      have T1 := Lib.hid t1
      have T2 := Lib.hid t2
      clear t1 t2 g1 g2
      go_wp2
      go_round
      case rel => exact ⟨j + 1, by omega, by go_num, by rw [T1.out, T2.out]⟩
      case measure => simp [intOf]; omega
    · obtain rfl : j = xs.length := by omega
      go_wp2
      go_ret
      exact ⟨rfl, rfl⟩
def pairs (xs : List SItem) : List (Nat × Nat) := xs.map fun x => (deb x.amt, cre x.amt)
theorem sum1_pairs (xs : List SItem) : sum1 (pairs xs) = debs xs := by simp only [sum1, pairs, debs, List.map_map]; rfl
theorem sum2_pairs (xs : List SItem) : sum2 (pairs xs) = cres xs := by simp only [sum2, pairs, cres, List.map_map]; rfl
theorem Try.infoCx : (Try.prog.info? 51).map (fun i => (i.zero, i.size, i.bytes)) = some (some (.complex .f64 0 0), 1, 16) := by kernel_rfl
def pairsTo (xs : List SItem) (j : Nat) : List (Nat × Nat) := pairs (xs.take j)
theorem sidesOfLines_calls (A : Option Addr) (ca : Nat) (xs : List SItem) (h : Hp) (w : World) (hs : h.sub w) (sx : Sl kItem h A ca xs) (hl : xs.length ≤ 1000) :
    Calls Try.prog 31 #[.slice A xs.length ca] w fun e w' => e = .returned (cx (debs xs) (cres xs)) ∧ Below w.heap.size w w' := by
  obtain ⟨i0, hi, hz0, hz1, hz2⟩ := info_parts Try.infoCx
  have m1 := sx.small
  have d1 := debs_le xs
  have d2 := cres_le xs
  go_enter Try.func31, Try.ntmps31
  go_wp2
  go_loopw [3, 8] (fun v i wr => ∃ (j cap : Nat) (C : Option Addr) (h' : Hp), j ≤ xs.length ∧ i = .int .i64 j ∧ v = .slice C j cap ∧ Hid (Ow kCx h' C cap (pairsTo xs j)) ∧ Upd Hp.none h' w wr) (fun _ i _ => xs.length - (intOf i).toNat)
  case atStart => exact ⟨0, 0, none, Hp.none, by omega, rfl, rfl, Ow.none _ _, Upd.of_below (Below.refl _ _)⟩
  case round =>
    obtain ⟨j, cap, C, h', hj, rfl, rfl, ho, hu⟩ := hrel
    have hL : (pairsTo xs j).length = j := by simp [pairsTo, pairs]; omega
    have HL := Lib.hid hL
    clear hL
    by_cases hlt : j < xs.length
    · obtain ⟨x, hx⟩ := some_of_lt hlt
      obtain ⟨b1, o1, rfl, c1, c2⟩ := sx.item (hs.of_below hu.below) hx
      have i1 : (0 : Int) ≤ (j : Int) := by omega
      have i2 : (j : Int) < (xs.length : Int) := by omega
      have HT : Hid (pairsTo xs (j + 1) = pairsTo xs j ++ [(deb x.amt, cre x.amt)]) := by unfold Hid pairsTo pairs; rw [take_next hx]; simp
      go_wp2_with (first
        | (go_at_call 60; refine (sidesOf_calls _ _).mono ?_; rintro e w' ⟨rfl, rfl⟩)
        | (at_builtin; refine wpList_append (k := kCx) (h := h') (hx := Hp.none) (A := C) (cap := cap) (B := some ⟨wr.heap.size + 1, 0, none⟩) (xs := pairsTo xs j) (ys := [(deb x.amt, cre x.amt)]) (by rfl) (.tmp 12) (.tmp 16) 89 (by rfl) 51 i0 (.complex .f64 0 0) Try.underlying89 hi hz0 hz1 (by rfl) 16 hz2 j 1 1 HL.out rfl (by rfl) (by rfl) ho.out (hu.sub.of_below (by repeat (first | exact Below.refl _ _ | apply Below.drew | refine Below.alloc ?_ (by simp) _))) (Src.new (heap_new_at (by simp)) rfl) (Hp.none_sub _) (Hp.apart_none _) (by unfold maxLen; omega) (by omega) ?_; intro C' cap' w1 h1 ho1 hu1))
      go_roundw
      case rel => exact ⟨j + 1, cap', C', h1, by omega, by go_num, rfl, by rw [HT.out]; exact ho1, hu.trans (hu1.flat.before (by repeat (first | exact Below.refl _ _ | apply Below.drew | refine Below.alloc ?_ (by simp) _)))⟩
      case measure => simp [intOf]; omega
    · obtain rfl : j = xs.length := by omega
      have hp : pairsTo xs xs.length = pairs xs := by unfold pairsTo; rw [List.take_length]
      rw [hp] at ho HL
      clear hp
      have hS := sidesSum_calls C cap (pairs xs) h' wr hu.sub ho.out.sl (by rw [sum1_pairs]; omega) (by rw [sum2_pairs]; omega)
      rw [HL.out, sum1_pairs, sum2_pairs] at hS
      go_wp2_with fail
      refine hS.mono ?_
      rintro e w' ⟨rfl, rfl⟩
      go_wp2
      go_ret
      exact ⟨rfl, hu.below⟩
theorem even_calls (a b : Nat) (w : World) (ha : a < 2 ^ 53) (hb : b < 2 ^ 53) : Calls Try.prog 30 #[cx a b] w fun e w' => e = .returned (.bool (eqB a b)) ∧ w = w' := by
  have h := fe_order ha hb
  have h' : (FloatKind.f64.format.order (fe a) (fe b) == some .eq) = eqB a b := h
  clear h
  unfold cx
  go_enter Try.func30, Try.ntmps30
  go_wp2
  go_ret
  exact ⟨rfl, rfl⟩
theorem both_calls (a b : Nat) (w : World) (ha : a < 2 ^ 53) (hb : b < 2 ^ 53) : Calls Try.prog 35 #[cx a b] w fun e w' => e = .returned (.tuple #[.int .i64 a, .int .i64 b]) ∧ w = w' := by
  have r1 := fun (w : World) => run_convert_float_int (P := Try.prog) w 88 3 .f64 .i64 (fe a) a (by kernel_rfl) Try.underlying3 (fe_toInt ha)
  have r2 := fun (w : World) => run_convert_float_int (P := Try.prog) w 88 3 .f64 .i64 (fe b) b (by kernel_rfl) Try.underlying3 (fe_toInt hb)
  unfold cx
  go_enter Try.func35, Try.ntmps35
  go_wp2
  go_ret2
  exact ⟨rfl, rfl⟩
end Go.Proofs.Ytnpnndifhlihhaa
