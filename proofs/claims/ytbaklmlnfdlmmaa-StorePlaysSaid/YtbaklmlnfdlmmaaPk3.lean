/- Walks and plain facts that the laws of this seat share, part 3: contracts of functions, each said at its theorem. -/
import Derived.Test.YtbaklmlnfdlmmaaPk2
import Derived.WalkKit
import Derived.WalkLawsBesides
import Derived.Laws.FloatArith
import Derived.Laws.ComplexArith
set_option linter.all false
section
/- Whole numbers below 2^53 as floats: sums, comparison and the way back are exact. No program is named here. -/
namespace Go.Sl
open Go Go.RowKit Ieee

theorem log2_mul_pow {n : Nat} (q : Nat) (h : n ≠ 0) : (n * 2 ^ q).log2 = n.log2 + q := by
  have h1 := (Nat.log2_eq_iff h).1 rfl
  have hp : 0 < 2 ^ q := Nat.pow_pos (by omega)
  refine (Nat.log2_eq_iff (Nat.mul_ne_zero h (by omega))).2 ⟨?_, ?_⟩
  · rw [Nat.pow_add]; exact Nat.mul_le_mul_right _ h1.1
  · rw [show n.log2 + q + 1 = n.log2 + 1 + q by omega, Nat.pow_add]; exact Nat.mul_lt_mul_of_pos_right h1.2 hp

/-- The float of a whole number. -/
def fe (n : Nat) : Nat := floatOfInt .f64 n
theorem fe_eq (n : Nat) : fe n = double.nearest false n 0 := by
  have : decide ((n : Int) < 0) = false := by simp
  simp [fe, floatOfInt, FloatKind.nearest, FloatKind.encode, FloatKind.format, Format.write, this]

/-- A datum that stands for the whole number n. -/
def Is (n : Nat) (d : Datum) : Prop := ∃ q : Nat, q ≤ 1074 ∧ d = .number false (n * 2 ^ q) (-(q : Int))

theorem Is.sum {a b : Nat} {d e : Datum} (h : Is a d) (k : Is b e) : ∃ s, d.sum e = some s ∧ Is (a + b) s := by
  obtain ⟨q, hq, rfl⟩ := h
  obtain ⟨r, hr, rfl⟩ := k
  refine ⟨_, rfl, max q r, by omega, ?_⟩
  have e0 : min (-(q : Int)) (-(r : Int)) = -((max q r : Nat) : Int) := by omega
  have e1 : (-(q : Int) - -((max q r : Nat) : Int)).toNat = max q r - q := by omega
  have e2 : (-(r : Int) - -((max q r : Nat) : Int)).toNat = max q r - r := by omega
  have p1 : 2 ^ q * 2 ^ (max q r - q) = 2 ^ max q r := by rw [← Nat.pow_add]; congr 1; omega
  have p2 : 2 ^ r * 2 ^ (max q r - r) = 2 ^ max q r := by rw [← Nat.pow_add]; congr 1; omega
  have t : signed false (a * 2 ^ q) (max q r - q) + signed false (b * 2 ^ r) (max q r - r) = (((a + b) * 2 ^ max q r : Nat) : Int) := by
    simp only [signed, Bool.false_eq_true, if_false, Nat.shiftLeft_eq, Nat.mul_assoc, p1, p2, Nat.add_mul]
    omega
  simp only [e0, e1, e2, t]
  generalize (a + b) * 2 ^ max q r = T
  rw [Int.natAbs_natCast]
  congr 1
  split
  · rfl
  · simp

theorem shift_one (q : Nat) : 1 <<< q = 2 ^ q := by rw [Nat.shiftLeft_eq, Nat.one_mul]

theorem Is.toInt {n : Nat} {d : Datum} (h : Is n d) : d.toInt .zero = some (n : Int) := by
  obtain ⟨q, hq, rfl⟩ := h
  have e1 : (-(q : Int)).toNat = 0 := by omega
  have e2 : (- -(q : Int)).toNat = q := by omega
  have key : Toward.zero.cut false (n * 2 ^ q) q = n := by
    unfold Toward.cut
    by_cases h0 : n = 0
    · subst h0; simp
    · rw [log2_mul_pow q h0]
      have : min q (n.log2 + q + 2) = q := by omega
      simp only [this, shift_one]
      rw [Nat.mul_div_cancel _ (Nat.pow_pos (by omega))]
      simp
  simp only [Datum.toInt, Datum.integral, e1, e2, Nat.shiftLeft_zero, key]
  simp [signed]

theorem Is.order {a b : Nat} {d e : Datum} (h : Is a d) (k : Is b e) : (d.order e == some .eq) = decide (a = b) := by
  obtain ⟨q, hq, rfl⟩ := h
  obtain ⟨r, hr, rfl⟩ := k
  have e0 : min (-(q : Int)) (-(r : Int)) = -((max q r : Nat) : Int) := by omega
  have e1 : (-(q : Int) - -((max q r : Nat) : Int)).toNat = max q r - q := by omega
  have e2 : (-(r : Int) - -((max q r : Nat) : Int)).toNat = max q r - r := by omega
  have p1 : 2 ^ q * 2 ^ (max q r - q) = 2 ^ max q r := by rw [← Nat.pow_add]; congr 1; omega
  have p2 : 2 ^ r * 2 ^ (max q r - r) = 2 ^ max q r := by rw [← Nat.pow_add]; congr 1; omega
  have hp : 0 < 2 ^ max q r := Nat.pow_pos (by omega)
  simp only [Datum.order, e0, e1, e2, signed, Bool.false_eq_true, if_false, Nat.shiftLeft_eq, Nat.mul_assoc, p1, p2]
  by_cases hab : a = b
  · subst hab; simp
  · have hne : a * 2 ^ max q r ≠ b * 2 ^ max q r := fun e => hab (Nat.eq_of_mul_eq_mul_right hp e)
    have : compare ((a * 2 ^ max q r : Nat) : Int) ((b * 2 ^ max q r : Nat) : Int) ≠ .eq := fun e => hne (by
      have := Int.compare_eq_eq.1 e; omega)
    simp only [hab, decide_false, beq_eq_false_iff_ne, ne_eq, Option.some.injEq]
    exact this

theorem nearest_exact {n : Nat} (h0 : n ≠ 0) (hn : n < 2 ^ 53) (q : Nat) (_hq : q ≤ 1074) :
    double.nearest false (n * 2 ^ q) (-(q : Int)) = (n.log2 + 1022) * 2 ^ 52 + n * 2 ^ (52 - n.log2) := by
  have hL : n.log2 ≤ 52 := by
    have := (Nat.log2_lt h0).2 hn; omega
  have hp : 0 < 2 ^ q := Nat.pow_pos (by omega)
  have hm : n * 2 ^ q ≠ 0 := Nat.mul_ne_zero h0 (by omega)
  unfold Format.nearest
  rw [if_neg hm, log2_mul_pow q h0]
  have hf : double.fractionBits = 52 := rfl
  have hlp : double.leastPlace = -1074 := by decide
  have hbn : double.binade = 2 ^ 52 := rfl
  have hinf : double.infRung = 2047 * 2 ^ 52 := by decide
  have hlast : max (-(q : Int) + ((n.log2 + q : Nat) : Int) - 52) (-1074) = (n.log2 : Int) - 52 := by omega
  simp only [hf, hlp, hbn, hinf]
  have hcast : ((52 : Nat) : Int) = 52 := rfl
  simp only [hcast, hlast]
  have hkept : Toward.even.cut false ((n * 2 ^ q) <<< (-(q : Int) - ((n.log2 : Int) - 52)).toNat) ((n.log2 : Int) - 52 - -(q : Int)).toNat = n * 2 ^ (52 - n.log2) := by
    rcases Nat.le_total q (52 - n.log2) with h | h
    · have e1 : (-(q : Int) - ((n.log2 : Int) - 52)).toNat = 52 - n.log2 - q := by omega
      have e2 : ((n.log2 : Int) - 52 - -(q : Int)).toNat = 0 := by omega
      rw [e1, e2, Nat.shiftLeft_eq, Nat.mul_assoc, ← Nat.pow_add]
      rw [show q + (52 - n.log2 - q) = 52 - n.log2 by omega]
      simp [Toward.cut, Nat.mod_one]
    · have e1 : (-(q : Int) - ((n.log2 : Int) - 52)).toNat = 0 := by omega
      have e2 : ((n.log2 : Int) - 52 - -(q : Int)).toNat = q - (52 - n.log2) := by omega
      rw [e1, e2, Nat.shiftLeft_zero]
      unfold Toward.cut
      rw [log2_mul_pow q h0]
      have : min (q - (52 - n.log2)) (n.log2 + q + 2) = q - (52 - n.log2) := by omega
      have hp2 : 0 < 2 ^ (q - (52 - n.log2)) := Nat.pow_pos (by omega)
      have hs : n * 2 ^ q = n * 2 ^ (52 - n.log2) * 2 ^ (q - (52 - n.log2)) := by
        rw [Nat.mul_assoc, ← Nat.pow_add]; congr 2; omega
      simp only [this, shift_one]
      rw [hs, Nat.mul_div_cancel _ hp2, Nat.mul_mod_left]
      simp
  rw [hkept]
  have e3 : ((n.log2 : Int) - 52 - -1074).toNat = n.log2 + 1022 := by omega
  rw [e3]
  have h1 := ((Nat.log2_eq_iff h0).1 rfl).2
  have hup : n * 2 ^ (52 - n.log2) ≤ 2 ^ 53 := by
    have : n * 2 ^ (52 - n.log2) ≤ 2 ^ (n.log2 + 1) * 2 ^ (52 - n.log2) := Nat.mul_le_mul_right _ (Nat.le_of_lt h1)
    rw [← Nat.pow_add, show n.log2 + 1 + (52 - n.log2) = 53 by omega] at this
    exact this
  simp only [Format.word, Bool.false_eq_true, if_false]
  refine Nat.min_eq_left ?_
  have h5 : (n.log2 + 1022) * 2 ^ 52 ≤ 1074 * 2 ^ 52 := Nat.mul_le_mul_right _ (by omega)
  have h6 : (2 : Nat) ^ 53 = 2 * 2 ^ 52 := rfl
  rw [h6] at hup
  generalize (2 : Nat) ^ 52 = B at *
  omega

theorem fe_zero : fe 0 = 0 := by rw [fe_eq]; decide
theorem fe_pos {n : Nat} (h0 : n ≠ 0) (hn : n < 2 ^ 53) : fe n = (n.log2 + 1022) * 2 ^ 52 + n * 2 ^ (52 - n.log2) := by
  have := nearest_exact h0 hn 0 (by omega)
  rw [fe_eq, ← this]; simp

theorem Is.zero (q : Nat) (hq : q ≤ 1074) : Is 0 (.number false 0 (-(q : Int))) := ⟨q, hq, by rw [Nat.zero_mul]⟩
set_option maxRecDepth 100000 in
theorem read_fe {n : Nat} (hn : n < 2 ^ 53) : Is n (double.read (fe n)) := by
  by_cases h0 : n = 0
  · subst h0
    rw [fe_zero]
    have h : double.read 0 = .number false 0 (-((1074 : Nat) : Int)) := rfl
    rw [h]; exact Is.zero 1074 (Nat.le_refl _)
  · have hL : n.log2 ≤ 52 := by
      have := (Nat.log2_lt h0).2 hn; omega
    have hb := (Nat.log2_eq_iff h0).1 rfl
    have lo : 2 ^ 52 ≤ n * 2 ^ (52 - n.log2) := by
      have : 2 ^ n.log2 * 2 ^ (52 - n.log2) ≤ n * 2 ^ (52 - n.log2) := Nat.mul_le_mul_right _ hb.1
      rw [← Nat.pow_add, show n.log2 + (52 - n.log2) = 52 by omega] at this
      exact this
    have hi : n * 2 ^ (52 - n.log2) < 2 ^ 53 := by
      have : n * 2 ^ (52 - n.log2) < 2 ^ (n.log2 + 1) * 2 ^ (52 - n.log2) := Nat.mul_lt_mul_of_pos_right hb.2 (Nat.pow_pos (by omega))
      rw [← Nat.pow_add, show n.log2 + 1 + (52 - n.log2) = 53 by omega] at this
      exact this
    refine ⟨52 - n.log2, by omega, ?_⟩
    rw [fe_pos h0 hn]
    generalize n * 2 ^ (52 - n.log2) = m at lo hi ⊢
    generalize n.log2 = L at hL ⊢
    have h53 : (2 : Nat) ^ 53 = 2 * 2 ^ 52 := rfl
    have h63 : (2 : Nat) ^ 63 = 2048 * 2 ^ 52 := rfl
    have hp : 0 < (2 : Nat) ^ 52 := Nat.pow_pos (by omega)
    have hsw : double.signWeight = 2048 * 2 ^ 52 := by rw [← h63]; rfl
    have hbn : double.binade = 2 ^ 52 := rfl
    have hinf : double.infRung = 2047 * 2 ^ 52 := by decide
    have hlp : double.leastPlace = -1074 := by decide
    rw [h53] at hi
    clear hn hb
    generalize (2 : Nat) ^ 52 = B at *
    clear h53 h63
    have hmul : (L + 1022) * B ≤ 1074 * B := Nat.mul_le_mul_right _ (by omega)
    have hlt : (L + 1022) * B + m < 2048 * B := by omega
    have hmul2 : 1022 * B ≤ (L + 1022) * B := Nat.mul_le_mul_right _ (by omega)
    have hdiv : ((L + 1022) * B + m) / B = L + 1023 := by
      rw [Nat.add_comm, Nat.add_mul_div_right _ _ hp]
      have : m / B = 1 := Nat.div_eq_of_lt_le (by omega) (by omega)
      omega
    have hmod : ((L + 1022) * B + m) % B = m - B := by
      rw [Nat.add_comm, Nat.add_mul_mod_self_right, Nat.mod_eq_sub_mod lo, Nat.mod_eq_of_lt (by omega)]
    unfold Format.read
    simp only [hsw, hbn, hinf, hlp, Nat.mod_eq_of_lt hlt, Nat.div_eq_of_lt hlt, hdiv, hmod]
    clear hsw hbn hinf hlp hdiv hmod
    rw [if_neg (by omega), if_pos (by omega)]
    congr 1
    · omega
    · omega

theorem write_is {n : Nat} {d : Datum} (hn : n < 2 ^ 53) (h : Is n d) : double.write d = fe n := by
  obtain ⟨q, hq, rfl⟩ := h
  by_cases h0 : n = 0
  · subst h0; rw [fe_zero, Nat.zero_mul]; rfl
  · rw [fe_pos h0 hn]; exact nearest_exact h0 hn q hq

theorem fe_add {a b : Nat} (h : a + b < 2 ^ 53) : floatBits .add .f64 (fe a) (fe b) = some (fe (a + b)) := by
  obtain ⟨s, h1, h2⟩ := (read_fe (n := a) (by omega)).sum (read_fe (n := b) (by omega))
  show ((double.read (fe a)).sum (double.read (fe b))).map double.write = _
  rw [h1, Option.map_some, write_is h h2]
theorem fe_order {a b : Nat} (ha : a < 2 ^ 53) (hb : b < 2 ^ 53) : (double.order (fe a) (fe b) == some .eq) = decide (a = b) := (read_fe ha).order (read_fe hb)
theorem fe_toInt {a : Nat} (ha : a < 2 ^ 53) : floatToIntVal .f64 (fe a) .i64 = some (a : Int) := by
  unfold floatToIntVal
  have : (FloatKind.f64.decode (fe a)).toInt .zero = some (a : Int) := (read_fe ha).toInt
  rw [this]
  have h2 : a < 9007199254740992 := ha
  have h1 : IntKind.i64.min ≤ (a : Int) ∧ (a : Int) ≤ IntKind.i64.max := by
    simp [IntKind.min, IntKind.max, IntKind.signed, IntKind.bits]; omega
  simp only [h1, and_self, if_true]

end Go.Sl
end
section
/- The walks of sides.Of, Sum, Even, Both and of journal.Sides. -/
namespace Go.Proofs.Ytbaklmlnfdlmmaa
open Go.RowKit Go.Sl
set_option maxHeartbeats 400000
set_option maxRecDepth 100000
def cx (a b : Nat) : Value := .complex .f64 (fe a) (fe b)
theorem fe_int {n : Int} (h : 0 ≤ n) : floatOfInt .f64 n = fe n.toNat := by
  unfold fe; rw [Int.toNat_of_nonneg h]
theorem sidesOf_calls (n : Int) (w : World) : Calls Try.prog 53 #[.int .i64 n] w fun e w' => e = .returned (.complex .f64 (fe (deb n)) (fe (cre n))) ∧ w = w' := by
  by_cases hm : money n = true
  · have hb : -100000000000 ≤ n ∧ n ≤ 100000000000 := by simpa [money] using hm
    obtain ⟨b1, b2⟩ := hb
    by_cases hp : 0 < n
    · have hd : Value.complex .f64 (fe (deb n)) (fe (cre n)) = .complex .f64 (floatOfInt .f64 n) 0 := by
        simp only [deb, cre, hm, if_true]
        rw [fe_int (by omega : 0 ≤ n), show (-n).toNat = 0 by omega, fe_zero]
      have H := Lib.hid hd
      clear hd
      go_enter Try.func53, Try.ntmps53
      go_wp2_with (go_at_call 23; refine (money_calls _ _).mono ?_; rintro e w' ⟨rfl, rfl⟩)
      all_goals first | (exfalso; omega) | skip
      go_ret
      exact ⟨by rw [H.out]; rfl, rfl⟩
    · have hd : Value.complex .f64 (fe (deb n)) (fe (cre n)) = .complex .f64 0 (floatOfInt .f64 (-n)) := by
        simp only [deb, cre, hm, if_true]
        rw [fe_int (by omega : 0 ≤ -n), show n.toNat = 0 by omega, fe_zero]
      have H := Lib.hid hd
      clear hd
      go_enter Try.func53, Try.ntmps53
      go_wp2_with (go_at_call 23; refine (money_calls _ _).mono ?_; rintro e w' ⟨rfl, rfl⟩)
      all_goals first | (exfalso; omega) | skip
      go_ret
      exact ⟨by rw [H.out]; rfl, rfl⟩
  · have hm' : money n = false := by simpa using hm
    have hd : Value.complex .f64 (fe (deb n)) (fe (cre n)) = .complex .f64 0 0 := by
      simp [deb, cre, hm', fe_zero]
    have H := Lib.hid hd
    clear hd hm
    go_enter Try.func53, Try.ntmps53
    go_wp2_with (go_at_call 23; refine (money_calls _ _).mono ?_; rintro e w' ⟨rfl, rfl⟩)
    go_ret
    exact ⟨by rw [H.out]; rfl, rfl⟩

/-- The kind of a pair of sides. -/
def kCx : Kd (Nat × Nat) := Kd.flat 1 (fun x => [cx x.1 x.2]) (by decide) (fun _ => rfl) (fun x u h => by simp at h; subst h; rfl)
theorem slCx {h : Hp} {A : Option Addr} {cap : Nat} {xs : List (Nat × Nat)} {w : World} (s : Sl kCx h A cap xs) (hs : h.sub w) {i : Nat} {x : Nat × Nat} (hx : Hid (xs[i]? = some x)) :
    ∃ b off, A = some ⟨b, off, .none⟩ ∧ w.cell? ⟨b, off + i, .none⟩ = some (.complex .f64 (fe x.1) (fe x.2)) := by
  obtain ⟨b, off, cs, e, hK, _, hc⟩ := s.at hs hx.out
  have hK' : cs = [Go.Proofs.Ytbaklmlnfdlmmaa.cx x.1 x.2] := hK
  subst hK'
  exact ⟨b, off, e, by simpa [kCx, Kd.flat, Go.Proofs.Ytbaklmlnfdlmmaa.cx] using hc 0 _ rfl⟩
def sum1 (xs : List (Nat × Nat)) : Nat := (xs.map (·.1)).sum
def sum2 (xs : List (Nat × Nat)) : Nat := (xs.map (·.2)).sum
theorem sum1_le : ∀ (xs : List (Nat × Nat)) (j : Nat), sum1 (xs.take j) ≤ sum1 xs
  | [], j => by simp
  | x :: xs, 0 => by simp [sum1]
  | x :: xs, j + 1 => by have := sum1_le xs j; simp only [sum1, List.take_succ_cons, List.map_cons, List.sum_cons] at this ⊢; omega
theorem sum2_le : ∀ (xs : List (Nat × Nat)) (j : Nat), sum2 (xs.take j) ≤ sum2 xs
  | [], j => by simp
  | x :: xs, 0 => by simp [sum2]
  | x :: xs, j + 1 => by have := sum2_le xs j; simp only [sum2, List.take_succ_cons, List.map_cons, List.sum_cons] at this ⊢; omega
theorem sidesSum_calls (A : Option Addr) (ca : Nat) (xs : List (Nat × Nat)) (h : Hp) (w : World) (hs : h.sub w) (sx : Sl kCx h A ca xs) (h1 : sum1 xs < 2 ^ 53) (h2 : sum2 xs < 2 ^ 53) :
    Calls Try.prog 54 #[.slice A xs.length ca] w fun e w' => e = .returned (cx (sum1 xs) (sum2 xs)) ∧ w = w' := by
  have m1 := sx.small
  have H1 := Lib.hid h1
  have H2 := Lib.hid h2
  have HZ : Hid (Value.complex .f64 0 0 = Value.complex .f64 (fe 0) (fe 0)) := by unfold Hid; rw [fe_zero]
  clear h1 h2
  go_enter Try.func54, Try.ntmps54
  go_wp2
  go_loop [3, 8] (fun z i => ∃ j : Nat, j ≤ xs.length ∧ i = .int .i64 j ∧ z = .complex .f64 (fe (sum1 (xs.take j))) (fe (sum2 (xs.take j)))) (fun _ i => xs.length - (intOf i).toNat)
  case atStart => exact ⟨0, by omega, rfl, by rw [HZ.out]; rfl⟩
  case round =>
    obtain ⟨j, hj, rfl, rfl⟩ := hrel
    by_cases hlt : j < xs.length
    · obtain ⟨x, hx⟩ := some_of_lt hlt
      obtain ⟨b1, o1, rfl, c1⟩ := slCx sx hs hx
      have i1 : (0 : Int) ≤ (j : Int) := by omega
      have i2 : (j : Int) < (xs.length : Int) := by omega
      have t1 : sum1 (xs.take (j + 1)) = sum1 (xs.take j) + x.1 := by rw [take_next hx]; simp [sum1]
      have t2 : sum2 (xs.take (j + 1)) = sum2 (xs.take j) + x.2 := by rw [take_next hx]; simp [sum2]
      have g1 : sum1 (xs.take j) + x.1 < 2 ^ 53 := by rw [← t1]; exact Nat.lt_of_le_of_lt (sum1_le _ _) H1.out
      have g2 : sum2 (xs.take j) + x.2 < 2 ^ 53 := by rw [← t2]; exact Nat.lt_of_le_of_lt (sum2_le _ _) H2.out
      have hrun := fun (t : TypeId) (w : World) => run_complex_sum (P := Try.prog) w .add (.inl rfl) t .f64 (fe (sum1 (xs.take j))) (fe (sum2 (xs.take j))) (fe x.1) (fe x.2) (fe (sum1 (xs.take j) + x.1)) (fe (sum2 (xs.take j) + x.2)) (by simp [cSumBits, fe_add g1, fe_add g2])
      have T1 := Lib.hid t1
      have T2 := Lib.hid t2
      clear t1 t2 g1 g2
      go_wp2
      go_round
      case rel => exact ⟨j + 1, by omega, by go_num, by rw [T1.out, T2.out]⟩
      case measure => simp [intOf]; omega
    · obtain rfl : j = xs.length := by omega
      go_wp2
      go_ret
      exact ⟨rfl, rfl⟩
def pairs (xs : List SItem) : List (Nat × Nat) := xs.map fun x => (deb x.amt, cre x.amt)
theorem sum1_pairs (xs : List SItem) : sum1 (pairs xs) = debs xs := by simp only [sum1, pairs, debs, List.map_map]; rfl
theorem sum2_pairs (xs : List SItem) : sum2 (pairs xs) = cres xs := by simp only [sum2, pairs, cres, List.map_map]; rfl
theorem Try.infoCx : (Try.prog.info? 70).map (fun i => (i.zero, i.size, i.bytes)) = some (some (.complex .f64 0 0), 1, 16) := by kernel_rfl
def pairsTo (xs : List SItem) (j : Nat) : List (Nat × Nat) := pairs (xs.take j)
theorem sidesOfLines_calls (A : Option Addr) (ca : Nat) (xs : List SItem) (h : Hp) (w : World) (hs : h.sub w) (sx : Sl kItem h A ca xs) (hl : xs.length ≤ 1000) :
    Calls Try.prog 49 #[.slice A xs.length ca] w fun e w' => e = .returned (cx (debs xs) (cres xs)) ∧ Below w.heap.size w w' := by
  obtain ⟨i0, hi, hz0, hz1, hz2⟩ := info_parts Try.infoCx
  have m1 := sx.small
  have d1 := debs_le xs
  have d2 := cres_le xs
  go_enter Try.func49, Try.ntmps49
  go_wp2
  go_loopw [3, 8] (fun v i wr => ∃ (j cap : Nat) (C : Option Addr) (h' : Hp), j ≤ xs.length ∧ i = .int .i64 j ∧ v = .slice C j cap ∧ Hid (Ow kCx h' C cap (pairsTo xs j)) ∧ Upd Hp.none h' w wr) (fun _ i _ => xs.length - (intOf i).toNat)
  case atStart => exact ⟨0, 0, none, Hp.none, by omega, rfl, rfl, Ow.none _ _, Upd.of_below (Below.refl _ _)⟩
  case round =>
    obtain ⟨j, cap, C, h', hj, rfl, rfl, ho, hu⟩ := hrel
    have hL : (pairsTo xs j).length = j := by simp [pairsTo, pairs]; omega
    have HL := Lib.hid hL
    clear hL
    by_cases hlt : j < xs.length
    · obtain ⟨x, hx⟩ := some_of_lt hlt
      obtain ⟨b1, o1, rfl, c1, c2⟩ := sx.item (hs.of_below hu.below) hx
      have i1 : (0 : Int) ≤ (j : Int) := by omega
      have i2 : (j : Int) < (xs.length : Int) := by omega
      have HT : Hid (pairsTo xs (j + 1) = pairsTo xs j ++ [(deb x.amt, cre x.amt)]) := by unfold Hid pairsTo pairs; rw [take_next hx]; simp
      go_wp2_with (first
        | (go_at_call 53; refine (sidesOf_calls _ _).mono ?_; rintro e w' ⟨rfl, rfl⟩)
        | (at_builtin; refine wpList_append (k := kCx) (h := h') (hx := Hp.none) (A := C) (cap := cap) (B := some ⟨wr.heap.size + 1, 0, none⟩) (xs := pairsTo xs j) (ys := [(deb x.amt, cre x.amt)]) (by rfl) (.tmp 12) (.tmp 16) 75 (by rfl) 70 i0 (.complex .f64 0 0) Try.underlying75 hi hz0 hz1 (by rfl) 16 hz2 j 1 1 HL.out rfl (by rfl) (by rfl) ho.out (hu.sub.of_below (by repeat (first | exact Below.refl _ _ | apply Below.drew | refine Below.alloc ?_ (by simp) _))) (Src.new (heap_new_at (by simp)) rfl) (Hp.none_sub _) (Hp.apart_none _) (by unfold maxLen; omega) (by omega) ?_; intro C' cap' w1 h1 ho1 hu1))
      go_roundw
      case rel => exact ⟨j + 1, cap', C', h1, by omega, by go_num, rfl, by rw [HT.out]; exact ho1, hu.trans (hu1.flat.before (by repeat (first | exact Below.refl _ _ | apply Below.drew | refine Below.alloc ?_ (by simp) _)))⟩
      case measure => simp [intOf]; omega
    · obtain rfl : j = xs.length := by omega
      have hp : pairsTo xs xs.length = pairs xs := by unfold pairsTo; rw [List.take_length]
      rw [hp] at ho HL
      clear hp
      have hS := sidesSum_calls C cap (pairs xs) h' wr hu.sub ho.out.sl (by rw [sum1_pairs]; omega) (by rw [sum2_pairs]; omega)
      rw [HL.out, sum1_pairs, sum2_pairs] at hS
      go_wp2_with fail
      refine hS.mono ?_
      rintro e w' ⟨rfl, rfl⟩
      go_wp2
      go_ret
      exact ⟨rfl, hu.below⟩
theorem even_calls (a b : Nat) (w : World) (ha : a < 2 ^ 53) (hb : b < 2 ^ 53) : Calls Try.prog 48 #[cx a b] w fun e w' => e = .returned (.bool (eqB a b)) ∧ w = w' := by
  have h := fe_order ha hb
  have h' : (FloatKind.f64.format.order (fe a) (fe b) == some .eq) = eqB a b := h
  clear h
  unfold cx
  go_enter Try.func48, Try.ntmps48
  go_wp2
  go_ret
  exact ⟨rfl, rfl⟩
end Go.Proofs.Ytbaklmlnfdlmmaa
end
section
/- The walks of journal.sum, Net, Reverse, Merge, right, Check. -/
namespace Go.Proofs.Ytbaklmlnfdlmmaa
open Go.RowKit Go.Sl
set_option maxHeartbeats 400000
set_option maxRecDepth 100000
theorem Try.infoLine : (Try.prog.info? 43).map (fun i => (i.zero, i.size, i.bytes)) = some (some (.agg #[.int .i64 0, .int .i64 0]), 2, 16) := by kernel_rfl
theorem sumL_calls (A : Option Addr) (ca : Nat) (xs : List SItem) (a : Int) (h : Hp) (w : World) (hs : h.sub w) (sx : Sl kItem h A ca xs) (ht : Tame xs) :
    Calls Try.prog 42 #[.slice A xs.length ca, .int .i64 a] w fun e w' => e = .returned (.int .i64 (accSum a xs)) ∧ Below w.heap.size w w' := by
  have m1 := sx.small
  go_enter Try.func42, Try.ntmps42
  go_wp2
  go_loopw [5, 10] (fun n i wr => ∃ (j : Nat), j ≤ xs.length ∧ i = .int .i64 j ∧ n = .int .i64 (accSum a (xs.take j)) ∧ Below w.heap.size w wr) (fun _ i _ => xs.length - (intOf i).toNat)
  case atStart => exact ⟨0, by omega, rfl, rfl, Below.refl _ _⟩
  case round =>
    obtain ⟨j, hj, rfl, rfl, hb⟩ := hrel
    by_cases hlt : j < xs.length
    · obtain ⟨x, hx⟩ := some_of_lt hlt
      obtain ⟨b1, o1, rfl, c1, c2⟩ := sx.item (hs.of_below hb) hx
      have i1 : (0 : Int) ≤ (j : Int) := by omega
      have i2 : (j : Int) < (xs.length : Int) := by omega
      obtain ⟨q1, q2⟩ := (ht.take j).acc a
      obtain ⟨q3, q4⟩ := ht.amt x (List.mem_of_getElem? hx.out)
      by_cases hk : x.kind = a
      · have hkb : (x.kind == a) = true := by simpa using hk
        have HT : Hid (accSum a (xs.take (j + 1)) = accSum a (xs.take j) + x.amt) := by unfold Hid; rw [take_next hx, accSum_snoc, if_pos hk]
        clear hk
        go_wp2
        go_roundw
        case rel => exact ⟨j + 1, by omega, by go_num, by rw [HT.out], hb.alloc hb.size _⟩
        case measure => simp [intOf]; omega
      · have hkb : (x.kind == a) = false := by simpa using hk
        have HT : Hid (accSum a (xs.take (j + 1)) = accSum a (xs.take j)) := by unfold Hid; rw [take_next hx, accSum_snoc, if_neg hk, Int.add_zero]
        clear hk
        go_wp2
        go_roundw
        case rel => exact ⟨j + 1, by omega, by go_num, by rw [HT.out], hb.alloc hb.size _⟩
        case measure => simp [intOf]; omega
    · obtain rfl : j = xs.length := by omega
      rw [List.take_length]
      go_wp2
      go_ret
      exact ⟨by rfl, hb⟩
theorem net_calls (A : Option Addr) (ca : Nat) (xs : List SItem) (a : Int) (h : Hp) (w : World) (hs : h.sub w) (sx : Sl kItem h A ca xs) :
    Calls Try.prog 32 #[.slice A xs.length ca, .int .i64 a] w fun e w' => e = .returned (.int .i64 (netF xs a)) ∧ Below w.heap.size w w' := by
  have C := few_calls A ca xs h w hs sx
  by_cases hf : fewB xs = true
  · have HN : Hid (netF xs a = accSum a xs) := by unfold Hid netF; rw [if_pos hf]
    have D := fun (W : World) (hW : Below w.heap.size w W) => sumL_calls A ca xs a h W (hs.of_below hW) sx (Tame.of_few hf)
    rw [hf] at C
    clear hf
    go_enter Try.func32, Try.ntmps32
    go_wp2_with fail
    refine C.mono ?_
    rintro e w1 ⟨rfl, b1⟩
    go_wp2_with fail
    refine (D _ b1).mono ?_
    rintro e w2 ⟨rfl, b2⟩
    go_wp2
    go_ret
    exact ⟨by rw [HN.out]; rfl, b1.trans (b2.mono b1.size)⟩
  · have hf' : fewB xs = false := by simpa using hf
    have HN : Hid (netF xs a = 0) := by unfold Hid netF; rw [if_neg hf]
    rw [hf'] at C
    clear hf hf'
    go_enter Try.func32, Try.ntmps32
    go_wp2_with fail
    refine C.mono ?_
    rintro e w1 ⟨rfl, b1⟩
    go_wp2
    go_ret
    exact ⟨by rw [HN.out]; rfl, b1⟩
def reverseTo (xs : List SItem) (j : Nat) : List SItem := reverseL (xs.take j)
theorem reverse_calls (A : Option Addr) (ca : Nat) (xs : List SItem) (h : Hp) (w : World) (hs : h.sub w) (sx : Sl kItem h A ca xs) (hl : xs.length ≤ 1000000) :
    Calls Try.prog 34 #[.slice A xs.length ca] w fun e w' => ∃ C cap h', e = .returned (.slice C xs.length cap) ∧ Ow kItem h' C cap (reverseL xs) ∧ Upd Hp.none h' w w' := by
  obtain ⟨i0, hi, hz0, hz1, hz2⟩ := info_parts Try.infoLine
  have m1 := sx.small
  go_enter Try.func34, Try.ntmps34
  go_wp2
  go_loopw [3, 8] (fun v i wr => ∃ (j cap : Nat) (C : Option Addr) (h' : Hp), j ≤ xs.length ∧ i = .int .i64 j ∧ v = .slice C j cap ∧ Hid (Ow kItem h' C cap (reverseTo xs j)) ∧ Upd Hp.none h' w wr) (fun _ i _ => xs.length - (intOf i).toNat)
  case atStart => exact ⟨0, 0, none, Hp.none, by omega, rfl, rfl, Ow.none _ _, Upd.of_below (Below.refl _ _)⟩
  case round =>
    obtain ⟨j, cap, C, h', hj, rfl, rfl, ho, hu⟩ := hrel
    have HL : Hid ((reverseTo xs j).length = j) := by unfold Hid; simp [reverseTo, reverseL]; omega
    by_cases hlt : j < xs.length
    · obtain ⟨x, hx⟩ := some_of_lt hlt
      obtain ⟨b1, o1, rfl, c1, c2⟩ := sx.item (hs.of_below hu.below) hx
      have i1 : (0 : Int) ≤ (j : Int) := by omega
      have i2 : (j : Int) < (xs.length : Int) := by omega
      have HT : Hid (reverseTo xs (j + 1) = reverseTo xs j ++ [⟨x.kind, wrap64 (-x.amt)⟩]) := by unfold Hid reverseTo reverseL; rw [take_next hx]; simp
      go_wp2_with (at_builtin; refine wpList_append (k := kItem) (h := h') (hx := Hp.none) (A := C) (cap := cap) (B := some ⟨wr.heap.size + 1, 0, none⟩) (xs := reverseTo xs j) (ys := [⟨x.kind, wrap64 (-x.amt)⟩]) (by rfl) (.tmp 12) (.tmp 19) 34 (by rfl) 43 i0 (.agg #[.int .i64 0, .int .i64 0]) Try.underlying34 hi hz0 hz1 (by rfl) 16 hz2 j 1 1 HL.out rfl (by rfl) (by rfl) ho.out (hu.sub.of_below (by repeat (first | exact Below.refl _ _ | apply Below.drew | refine Below.alloc ?_ (by simp) _))) (Src.new (heap_new_at (by simp)) rfl) (Hp.none_sub _) (Hp.apart_none _) (by unfold maxLen; omega) (by omega) ?_; intro C' cap' w1 h1 ho1 hu1)
      go_roundw
      case rel => exact ⟨j + 1, cap', C', h1, by omega, by go_num, rfl, by rw [HT.out]; exact ho1, hu.trans (hu1.flat.before (by repeat (first | exact Below.refl _ _ | apply Below.drew | refine Below.alloc ?_ (by simp) _)))⟩
      case measure => simp [intOf]; omega
    · obtain rfl : j = xs.length := by omega
      have hp : reverseTo xs xs.length = reverseL xs := by unfold reverseTo; rw [List.take_length]
      rw [hp] at ho
      clear hp
      go_wp2
      go_ret
      exact ⟨C, cap, h', rfl, ho.out, hu⟩
theorem acct_get {j : Nat} (h : j < 7) : ([1, 2, 3, 4, 5, 6, 7] : List Int)[j]? = some ((j : Int) + 1) := by
  have : j = 0 ∨ j = 1 ∨ j = 2 ∨ j = 3 ∨ j = 4 ∨ j = 5 ∨ j = 6 := by omega
  rcases this with rfl | rfl | rfl | rfl | rfl | rfl | rfl <;> rfl
end Go.Proofs.Ytbaklmlnfdlmmaa
end
section
/- The walks of journal.right and journal.Check. -/
namespace Go.Proofs.Ytbaklmlnfdlmmaa
open Go.RowKit Go.Sl
set_option maxHeartbeats 400000
set_option maxRecDepth 100000
theorem right_calls (x : SItem) (w : World) : Calls Try.prog 47 #[.agg #[.int .i64 x.kind, .int .i64 x.amt]] w fun e w' => e = .returned (.bool (lineB x)) ∧ Below w.heap.size w w' := by
  by_cases hi : isB x.kind = true
  · have hr : 1 ≤ x.kind ∧ x.kind ≤ 7 := by simpa [isB] using hi
    by_cases h0 : x.amt = 0
    · have HB : Hid (lineB x = false) := by unfold Hid lineB; simp [h0]
      have hb : (x.amt != 0) = false := by simpa using h0
      have C := fun W : World => Lib.hid (name_yes x.kind W hi)
      clear h0 hi hr
      go_enter Try.func47, Try.ntmps47
      go_wp2_with (go_at_call 52; refine (C _).out.mono ?_; rintro e w1 ⟨c, l, rfl, b1⟩; have hc1 : w1.cell? ⟨w.heap.size, 1, none⟩ = some (.int .i64 x.amt) := (b1.cell (by simp)).trans (by simp))
      go_ret
      exact ⟨by rw [HB.out]; rfl, ((Below.refl _ _).alloc (Nat.le_refl _) _).trans (b1.mono (by simp))⟩
    · have HB : Hid (lineB x = money x.amt) := by unfold Hid lineB; rw [decide_eq_true (by omega), Bool.true_and]
      have hb : (x.amt != 0) = true := by simpa using h0
      have C := fun W : World => Lib.hid (name_yes x.kind W hi)
      clear h0 hi hr
      go_enter Try.func47, Try.ntmps47
      go_wp2_with (first
        | (go_at_call 52; refine (C _).out.mono ?_; rintro e w1 ⟨c, l, rfl, b1⟩; have hc1 : w1.cell? ⟨w.heap.size, 1, none⟩ = some (.int .i64 x.amt) := (b1.cell (by simp)).trans (by simp))
        | (go_at_call 23; refine (money_calls _ _).mono ?_; rintro e w' ⟨rfl, rfl⟩))
      go_ret
      exact ⟨by rw [HB.out]; rfl, ((Below.refl _ _).alloc (Nat.le_refl _) _).trans (b1.mono (by simp))⟩
  · have hi' : isB x.kind = false := by simpa using hi
    have HB : Hid (lineB x = false) := by
      unfold Hid lineB
      have : ¬ (1 ≤ x.kind ∧ x.kind ≤ 7) := by simpa [isB] using hi
      rw [decide_eq_false (by omega), Bool.false_and]
    have C := fun W : World => Lib.hid (name_no x.kind W hi')
    clear hi hi'
    go_enter Try.func47, Try.ntmps47
    go_wp2_with (go_at_call 52; refine (C _).out.mono ?_; rintro e w1 ⟨rfl, rfl⟩)
    go_ret
    exact ⟨by rw [HB.out]; rfl, (Below.refl _ _).alloc (Nat.le_refl _) _⟩
/-- Where lines stop to be right, or all are. -/
theorem rising_step {a : Int} {x : SItem} {xs : List SItem} (h1 : lineB x = true) (h2 : a < x.kind) : risingB a (x :: xs) = risingB x.kind xs := by
  simp [risingB, h1, h2]
theorem rising_stop {a : Int} {x : SItem} {xs : List SItem} (h : lineB x = false ∨ ¬ a < x.kind) : risingB a (x :: xs) = false := by
  rcases h with h | h <;> simp [risingB, h]
theorem check_calls (A : Option Addr) (ca : Nat) (xs : List SItem) (h : Hp) (w : World) (hs : h.sub w) (sx : Sl kItem h A ca xs) :
    Calls Try.prog 35 #[.slice A xs.length ca] w fun e w' => e = .returned (.int .i64 (checkE xs)) ∧ Below w.heap.size w w' := by
  have m1 := sx.small
  by_cases hl : xs.length ≤ 20
  · have e1 : decide (20 < (xs.length : Int)) = false := by simp; omega
    have d1 := debs_le xs
    have d2 := cres_le xs
    have HC : Hid (checkB xs = (risingB 0 xs && eqB (debs xs) (cres xs))) := by unfold Hid checkB; rw [decide_eq_true hl, Bool.true_and]; rfl
    go_enter Try.func35, Try.ntmps35
    go_wp2
    go_loopw [3, 11] (fun l i wr => ∃ (j : Nat) (a : Int), j ≤ xs.length ∧ i = .int .i64 j ∧ l = .int .i64 a ∧ Hid (risingB 0 xs = risingB a (xs.drop j)) ∧ Below w.heap.size w wr) (fun _ i _ => xs.length - (intOf i).toNat)
    case atStart => exact ⟨0, 0, by omega, rfl, rfl, rfl, Below.refl _ _⟩
    case round =>
      obtain ⟨j, a, hj, rfl, rfl, hr, hb⟩ := hrel
      by_cases hlt : j < xs.length
      · obtain ⟨x, hx⟩ := some_of_lt hlt
        obtain ⟨b1, o1, rfl, c1, c2⟩ := sx.item (hs.of_below hb) hx
        have i1 : (0 : Int) ≤ (j : Int) := by omega
        have i2 : (j : Int) < (xs.length : Int) := by omega
        have HD : Hid (xs.drop j = x :: xs.drop (j + 1)) := by
          have hg := List.getElem?_eq_some_iff.1 hx.out
          unfold Hid; rw [List.drop_eq_getElem_cons hlt, hg.2]
        by_cases hlb : lineB x = true
        · by_cases hk : a < x.kind
          · have hkb : decide (x.kind ≤ a) = false := by simp; omega
            have HR : Hid (risingB 0 xs = risingB x.kind (xs.drop (j + 1))) := by unfold Hid; rw [hr.out, HD.out, rising_step hlb hk]
            go_wp2_with (go_at_call 47; refine (right_calls x _).mono ?_; rintro e w1 ⟨rfl, b1⟩; have hc1 : w1.cell? ⟨wr.heap.size, 0, none⟩ = some (.int .i64 x.kind) := (b1.cell (by simp)).trans (by simp))
            go_roundw
            case rel => exact ⟨j + 1, x.kind, by omega, by go_num, rfl, HR, (hb.alloc hb.size _).trans (b1.mono (by simp; exact Nat.le_trans hb.size (Nat.le_succ _)))⟩
            case measure => simp [intOf]; omega
          · have hkb : decide (x.kind ≤ a) = true := by simp; omega
            have HR : Hid (checkE xs = 2) := by unfold Hid checkE; rw [HC.out, hr.out, HD.out, rising_stop (.inr hk)]; rfl
            go_wp2_with (go_at_call 47; refine (right_calls x _).mono ?_; rintro e w1 ⟨rfl, b1⟩; have hc1 : w1.cell? ⟨wr.heap.size, 0, none⟩ = some (.int .i64 x.kind) := (b1.cell (by simp)).trans (by simp))
            go_ret
            exact ⟨by rw [HR.out]; rfl, (hb.alloc hb.size _).trans (b1.mono (by simp; exact Nat.le_trans hb.size (Nat.le_succ _)))⟩
        · have hlf : lineB x = false := by simpa using hlb
          have HR : Hid (checkE xs = 2) := by unfold Hid checkE; rw [HC.out, hr.out, HD.out, rising_stop (.inl hlf)]; rfl
          clear hlb
          go_wp2_with (go_at_call 47; refine (right_calls x _).mono ?_; rintro e w1 ⟨rfl, b1⟩)
          go_ret
          exact ⟨by rw [HR.out]; rfl, (hb.alloc hb.size _).trans (b1.mono (by simp; exact Nat.le_trans hb.size (Nat.le_succ _)))⟩
      · obtain rfl : j = xs.length := by omega
        have HR : Hid (risingB 0 xs = true) := by unfold Hid; rw [hr.out, List.drop_length]; rfl
        have S := sidesOfLines_calls A ca xs h wr (hs.of_below hb) sx (by omega)
        have E := fun W : World => even_calls (debs xs) (cres xs) W (by omega) (by omega)
        have HE : Hid (checkE xs = if eqB (debs xs) (cres xs) = true then 0 else 2) := by unfold Hid checkE; rw [HC.out, HR.out, Bool.true_and]
        clear d1 d2
        cases hq : eqB (debs xs) (cres xs) with
        | true =>
          rw [hq] at E HE
          clear hq
          go_wp2_with fail
          refine S.mono ?_
          rintro e w1 ⟨rfl, b1⟩
          go_wp2_with fail
          refine (E _).mono ?_
          rintro e w2 ⟨rfl, rfl⟩
          go_wp2
          go_ret
          exact ⟨by rw [HE.out]; rfl, hb.trans (b1.mono hb.size)⟩
        | false =>
          rw [hq] at E HE
          clear hq
          go_wp2_with fail
          refine S.mono ?_
          rintro e w1 ⟨rfl, b1⟩
          go_wp2_with fail
          refine (E _).mono ?_
          rintro e w2 ⟨rfl, rfl⟩
          go_wp2
          go_ret
          exact ⟨by rw [HE.out]; rfl, hb.trans (b1.mono hb.size)⟩
  · have e1 : decide (20 < (xs.length : Int)) = true := by simp; omega
    have HR : Hid (checkE xs = 2) := by unfold Hid checkE checkB; rw [decide_eq_false hl]; rfl
    clear hl
    go_enter Try.func35, Try.ntmps35
    go_wp2
    go_ret
    exact ⟨by rw [HR.out]; rfl, Below.refl _ _⟩
end Go.Proofs.Ytbaklmlnfdlmmaa
end
section
/- The walks of store.reversed and store.lines. -/
namespace Go.Sl
theorem idx_cases {α : Type} (p : α → Bool) (xs : List α) : (idx p xs = -1 ∧ xs.find? p = none) ∨ ∃ (j : Nat) (x : α), idx p xs = j ∧ xs[j]? = some x ∧ j < xs.length ∧ p x = true ∧ xs.find? p = some x := by
  by_cases h : xs.any p = true
  · right
    have hl := List.findIdx_lt_length.2 (List.any_eq_true.1 h)
    refine ⟨xs.findIdx p, xs[xs.findIdx p], by simp [idx, h], by simp [hl], hl, List.findIdx_getElem, ?_⟩
    rw [List.find?_eq_getElem?_findIdx]
    simp [hl]
  · left
    refine ⟨by simp [idx, h], ?_⟩
    rw [List.find?_eq_none]
    simpa [List.any_eq_true] using h
/-- Why a journal is not reversed (0: it may be). -/
def revX (js : List SJ) (of : Int) : Option SJ := js.find? fun j => j.seq == of
def badX (x : SJ) (ent : ByteArray) (p : Int) : Bool := !(decide (x.ent.toList = ent.toList)) || (x.period != p || x.kind == 2)
def revE (js : List SJ) (ent : ByteArray) (p of : Int) : Int :=
  match revX js of with
  | none => 3
  | some x => if badX x ent p = true then 3 else if js.any (fun j => j.kind == 2 && j.of == of) = true then 4 else 0
end Go.Sl
namespace Go.Proofs.Ytbaklmlnfdlmmaa
open Go.RowKit Go.Sl
set_option maxHeartbeats 1000000
set_option maxRecDepth 100000
theorem rev1_calls (x : SJ) (B : Option Addr) (cb q : Nat) (of : Int) (W : World) (hq : W.cell? ⟨q, 0, none⟩ = some (.int .i64 of)) :
    Calls Try.prog 44 #[.agg #[.int .i64 x.seq, .string x.ent, .int .i64 x.period, .int .i64 x.kind, .int .i64 x.of, .slice B x.lines.length cb], .pointer (some ⟨q, 0, none⟩)] W fun e W' => e = .returned (.bool (x.seq == of)) ∧ Below W.heap.size W W' := by
  have hlt := World.block_lt_of_cell? W _ hq
  go_enter Try.func44, Try.ntmps44
  go_wp2
  go_ret
  exact ⟨rfl, (by repeat (first | exact Below.refl _ _ | apply Below.drew | refine Below.alloc ?_ (by simp) _))⟩
theorem rev2_calls (x : SJ) (B : Option Addr) (cb q : Nat) (of : Int) (W : World) (hq : W.cell? ⟨q, 0, none⟩ = some (.int .i64 of)) :
    Calls Try.prog 46 #[.agg #[.int .i64 x.seq, .string x.ent, .int .i64 x.period, .int .i64 x.kind, .int .i64 x.of, .slice B x.lines.length cb], .pointer (some ⟨q, 0, none⟩)] W fun e W' => e = .returned (.bool (x.kind == 2 && x.of == of)) ∧ Below W.heap.size W W' := by
  have hlt := World.block_lt_of_cell? W _ hq
  cases hk : (x.kind == 2) <;> cases ho : (x.of == of)
  all_goals
    go_enter Try.func46, Try.ntmps46
    go_wp2
    go_ret
    exact ⟨rfl, (by repeat (first | exact Below.refl _ _ | apply Below.drew | refine Below.alloc ?_ (by simp) _))⟩
/-- What reversed returns. -/
def RevAns (js : List SJ) (ent : ByteArray) (p of : Int) (h : Hp) (w : World) (e : Ending) (w' : World) : Prop :=
  (revE js ent p of ≠ 0 ∧ e = .returned (.tuple #[.agg #[.int .i64 0, .string ⟨#[]⟩, .int .i64 0, .int .i64 0, .int .i64 0, .slice none 0 0], .int .i64 (revE js ent p of)]) ∧ Below w.heap.size w w') ∨
  ∃ x B cb, revE js ent p of = 0 ∧ revX js of = some x ∧ x ∈ js ∧ Sl kItem h B cb x.lines ∧ e = .returned (.tuple #[.agg #[.int .i64 x.seq, .string x.ent, .int .i64 x.period, .int .i64 x.kind, .int .i64 x.of, .slice B x.lines.length cb], .int .i64 0]) ∧ Below w.heap.size w w'
theorem reversed_calls (p : Nat) (A : Option Addr) (ca : Nat) (js : List SJ) (ent : ByteArray) (per of : Int) (h : Hp) (w : World) (hs : h.sub w) (hc : w.cell? ⟨p, 0, none⟩ = some (.slice A js.length ca)) (sx : Sl kJ h A ca js) :
    Calls Try.prog 33 #[.pointer (some ⟨p, 0, none⟩), .string ent, .int .i64 per, .int .i64 of] w (RevAns js ent per of h w) := by
  have m1 := sx.small
  have hlt := World.block_lt_of_cell? w _ hc
  have IC := fun (W : World) (hW : Below w.heap.size w W) (q : Nat) (hq : W.cell? ⟨q, 0, none⟩ = some (.int .i64 of)) => indexFunc_jou 44 #[.pointer (some ⟨q, 0, none⟩)] (enters_of Try.func44 (by kernel_rfl) rfl) (fun x => x.seq == of) A ca js h W (hs.of_below hW) sx
    (fun x B cb V hV _ => rev1_calls x B cb q of V ((hV.cell (World.block_lt_of_cell? W _ hq)).trans hq))
  have AC := fun (W : World) (hW : Below w.heap.size w W) (q : Nat) (hq : W.cell? ⟨q, 0, none⟩ = some (.int .i64 of)) => containsFunc_jou 46 #[.pointer (some ⟨q, 0, none⟩)] (enters_of Try.func46 (by kernel_rfl) rfl) (fun x => x.kind == 2 && x.of == of) A ca js h W (hs.of_below hW) sx
    (fun x B cb V hV _ => rev2_calls x B cb q of V ((hV.cell (World.block_lt_of_cell? W _ hq)).trans hq))
  rcases idx_cases (fun x : SJ => x.seq == of) js with ⟨hi, hf⟩ | ⟨i, x, hi, hx, hil, hp, hf⟩
  · rw [hi] at IC
    have HE : Hid (revE js ent per of = 3) := by unfold Hid revE revX; rw [hf]
    clear hi hf
    go_enter Try.func33, Try.ntmps33
    go_wp2_with fail
    refine (IC _ (by repeat (first | exact Below.refl _ _ | apply Below.drew | refine Below.alloc ?_ (by simp) _)) w.heap.size (by simp)).mono ?_
    rintro e w1 ⟨rfl, b1⟩
    have k2 : w1.heap[w.heap.size + 1]? = some (.cells #[.int .i64 0, .string ⟨#[]⟩, .int .i64 0, .int .i64 0, .int .i64 0, .slice none 0 0] 37) := (b1.block _ (by simp)).trans (heap_new_at (by simp))
    have d0 : w1.cell? ⟨w.heap.size + 1, 0, none⟩ = some (.int .i64 0) := by rw [cell_of_row w1 _ 0 _ _ _ k2]; rfl
    have d1 : w1.cell? ⟨w.heap.size + 1, 1, none⟩ = some (.string ⟨#[]⟩) := by rw [cell_of_row w1 _ 1 _ _ _ k2]; rfl
    have d2 : w1.cell? ⟨w.heap.size + 1, 2, none⟩ = some (.int .i64 0) := by rw [cell_of_row w1 _ 2 _ _ _ k2]; rfl
    have d3 : w1.cell? ⟨w.heap.size + 1, 3, none⟩ = some (.int .i64 0) := by rw [cell_of_row w1 _ 3 _ _ _ k2]; rfl
    have d4 : w1.cell? ⟨w.heap.size + 1, 4, none⟩ = some (.int .i64 0) := by rw [cell_of_row w1 _ 4 _ _ _ k2]; rfl
    have d5 : w1.cell? ⟨w.heap.size + 1, 5, none⟩ = some (.slice none 0 0) := by rw [cell_of_row w1 _ 5 _ _ _ k2]; rfl
    have df : ∀ n, w1.frozen? ⟨w.heap.size + 1, n, none⟩ = false := fun n => frozen_of_row w1 _ n _ _ k2
    have u : Below w.heap.size w w1 := (show Below w.heap.size w _ from (by repeat (first | exact Below.refl _ _ | apply Below.drew | refine Below.alloc ?_ (by simp) _))).trans (b1.mono (by simp; omega))
    clear k2 b1
    go_wp2
    exact bodyPost_ret (v := .tuple #[.agg #[.int .i64 0, .string ⟨#[]⟩, .int .i64 0, .int .i64 0, .int .i64 0, .slice none 0 0], .int .i64 3]) (by simp [results, Try.results33, go_sem, d0, d1, d2, d3, d4, d5]) rfl (.inl ⟨by rw [HE.out]; decide, by rw [HE.out], ((((((u.setCell (by simp) _).setCell (by simp) _).setCell (by simp) _).setCell (by simp) _).setCell (by simp) _).setCell (by simp) _)⟩)
  · rw [hi] at IC
    have hxm := List.mem_of_getElem? hx
    have hx' : Hid (js[i]? = some x) := hx
    have i1 : (0 : Int) ≤ (i : Int) := by omega
    have i2 : (i : Int) < (js.length : Int) := by omega
    clear hi hx hp
    go_enter Try.func33, Try.ntmps33
    go_wp2_with fail
    refine (IC _ (by repeat (first | exact Below.refl _ _ | apply Below.drew | refine Below.alloc ?_ (by simp) _)) w.heap.size (by simp)).mono ?_
    rintro e w1 ⟨rfl, b1⟩
    have k1 : w1.heap[w.heap.size]? = some (.cells #[.int .i64 of] 3) := (b1.block _ (by simp; omega)).trans ((heap_old_at (by simp)).trans (heap_new_at rfl))
    have k2 : w1.heap[w.heap.size + 1]? = some (.cells #[.int .i64 0, .string ⟨#[]⟩, .int .i64 0, .int .i64 0, .int .i64 0, .slice none 0 0] 37) := (b1.block _ (by simp)).trans (heap_new_at (by simp))
    have hcq : w1.cell? ⟨w.heap.size, 0, none⟩ = some (.int .i64 of) := by rw [cell_of_row w1 _ 0 _ _ _ k1]; rfl
    have d0 : w1.cell? ⟨w.heap.size + 1, 0, none⟩ = some (.int .i64 0) := by rw [cell_of_row w1 _ 0 _ _ _ k2]; rfl
    have d1 : w1.cell? ⟨w.heap.size + 1, 1, none⟩ = some (.string ⟨#[]⟩) := by rw [cell_of_row w1 _ 1 _ _ _ k2]; rfl
    have d2 : w1.cell? ⟨w.heap.size + 1, 2, none⟩ = some (.int .i64 0) := by rw [cell_of_row w1 _ 2 _ _ _ k2]; rfl
    have d3 : w1.cell? ⟨w.heap.size + 1, 3, none⟩ = some (.int .i64 0) := by rw [cell_of_row w1 _ 3 _ _ _ k2]; rfl
    have d4 : w1.cell? ⟨w.heap.size + 1, 4, none⟩ = some (.int .i64 0) := by rw [cell_of_row w1 _ 4 _ _ _ k2]; rfl
    have d5 : w1.cell? ⟨w.heap.size + 1, 5, none⟩ = some (.slice none 0 0) := by rw [cell_of_row w1 _ 5 _ _ _ k2]; rfl
    have df : ∀ n, w1.frozen? ⟨w.heap.size + 1, n, none⟩ = false := fun n => frozen_of_row w1 _ n _ _ k2
    have u : Below w.heap.size w w1 := (show Below w.heap.size w _ from (by repeat (first | exact Below.refl _ _ | apply Below.drew | refine Below.alloc ?_ (by simp) _))).trans (b1.mono (by simp; omega))
    have hz1 : w.heap.size + 1 < w1.heap.size := by have := b1.size; simp at this; omega
    have hc1 := (u.cell (p := ⟨p, 0, none⟩) hlt).trans hc
    obtain ⟨b2, o2, B, cb, rfl, sl, c1, c2, c3, c4, c5, c6⟩ := sx.jou (hs.of_below u) hx'
    have AC1 := AC w1 u w.heap.size hcq
    clear IC AC k1 k2 b1 hc
    by_cases he : x.ent.toList = ent.toList
    · have he' : decide (x.ent.toList = ent.toList) = true := by simpa using he
      cases hpp : (x.period != per) with
      | true =>
        have HE : Hid (revE js ent per of = 3) := by unfold Hid revE revX; rw [hf]; simp [badX, hpp]
        clear hf
        go_wp2
        exact bodyPost_ret (v := .tuple #[.agg #[.int .i64 0, .string ⟨#[]⟩, .int .i64 0, .int .i64 0, .int .i64 0, .slice none 0 0], .int .i64 3]) (by simp [results, Try.results33, go_sem, d0, d1, d2, d3, d4, d5]) rfl (.inl ⟨by rw [HE.out]; decide, by rw [HE.out], ((((((u.setCell (by simp) _).setCell (by simp) _).setCell (by simp) _).setCell (by simp) _).setCell (by simp) _).setCell (by simp) _)⟩)
      | false =>
        cases hkk : (x.kind == 2) with
        | true =>
          have HE : Hid (revE js ent per of = 3) := by unfold Hid revE revX; rw [hf]; simp [badX, hkk]
          clear hf
          go_wp2
          exact bodyPost_ret (v := .tuple #[.agg #[.int .i64 0, .string ⟨#[]⟩, .int .i64 0, .int .i64 0, .int .i64 0, .slice none 0 0], .int .i64 3]) (by simp [results, Try.results33, go_sem, d0, d1, d2, d3, d4, d5]) rfl (.inl ⟨by rw [HE.out]; decide, by rw [HE.out], ((((((u.setCell (by simp) _).setCell (by simp) _).setCell (by simp) _).setCell (by simp) _).setCell (by simp) _).setCell (by simp) _)⟩)
        | false =>
          have hbd : badX x ent per = false := by simp [badX, he, hpp, hkk]
          cases ha : (js.any fun j => j.kind == 2 && j.of == of) with
          | true =>
            have HE : Hid (revE js ent per of = 4) := by unfold Hid revE revX; rw [hf]; simp only [hbd, ha]; rfl
            rw [ha] at AC1
            clear hf ha hbd
            go_wp2_with fail
            refine AC1.mono ?_
            rintro e w2 ⟨rfl, b3⟩
            obtain ⟨gc, gf⟩ := bcell b3
            have v : Below w.heap.size w w2 := u.trans (b3.mono u.size)
            rw [← gc _ _ hz1] at d0 d1 d2 d3 d4 d5
            have df : ∀ n, w2.frozen? ⟨w.heap.size + 1, n, none⟩ = false := fun n => (gf _ _ hz1).trans (df n)
            clear gc gf
            go_wp2
            exact bodyPost_ret (v := .tuple #[.agg #[.int .i64 0, .string ⟨#[]⟩, .int .i64 0, .int .i64 0, .int .i64 0, .slice none 0 0], .int .i64 4]) (by simp [results, Try.results33, go_sem, d0, d1, d2, d3, d4, d5]) rfl (.inl ⟨by rw [HE.out]; decide, by rw [HE.out], ((((((v.setCell (by simp) _).setCell (by simp) _).setCell (by simp) _).setCell (by simp) _).setCell (by simp) _).setCell (by simp) _)⟩)
          | false =>
            have HE : Hid (revE js ent per of = 0) := by unfold Hid revE revX; rw [hf]; simp only [hbd, ha]; rfl
            have HX : Hid (revX js of = some x) := hf
            rw [ha] at AC1
            clear hf ha hbd
            go_wp2_with fail
            refine AC1.mono ?_
            rintro e w2 ⟨rfl, b3⟩
            obtain ⟨gc, gf⟩ := bcell b3
            have v : Below w.heap.size w w2 := u.trans (b3.mono u.size)
            have g2 := World.block_lt_of_cell? w1 _ c1
            rw [← gc _ _ hz1] at d0 d1 d2 d3 d4 d5
            rw [← gc _ _ g2] at c1 c2 c3 c4 c5 c6
            have hc2 := (gc _ _ (Nat.lt_of_lt_of_le hlt u.size)).trans hc1
            have df : ∀ n, w2.frozen? ⟨w.heap.size + 1, n, none⟩ = false := fun n => (gf _ _ hz1).trans (df n)
            clear gc gf hc1
            go_wp2
            exact bodyPost_ret (v := .tuple #[.agg #[.int .i64 x.seq, .string x.ent, .int .i64 x.period, .int .i64 x.kind, .int .i64 x.of, .slice B x.lines.length cb], .int .i64 0]) (by simp [results, Try.results33, go_sem, d0, d1, d2, d3, d4, d5]) rfl (.inr ⟨x, B, cb, HE.out, HX.out, hxm, sl, rfl, ((((((v.setCell (by simp) _).setCell (by simp) _).setCell (by simp) _).setCell (by simp) _).setCell (by simp) _).setCell (by simp) _)⟩)
    · have he' : decide (x.ent.toList = ent.toList) = false := by simpa using he
      have HE : Hid (revE js ent per of = 3) := by unfold Hid revE revX; rw [hf]; simp [badX, he]
      clear hf
      go_wp2
      exact bodyPost_ret (v := .tuple #[.agg #[.int .i64 0, .string ⟨#[]⟩, .int .i64 0, .int .i64 0, .int .i64 0, .slice none 0 0], .int .i64 3]) (by simp [results, Try.results33, go_sem, d0, d1, d2, d3, d4, d5]) rfl (.inl ⟨by rw [HE.out]; decide, by rw [HE.out], ((((((u.setCell (by simp) _).setCell (by simp) _).setCell (by simp) _).setCell (by simp) _).setCell (by simp) _).setCell (by simp) _)⟩)
end Go.Proofs.Ytbaklmlnfdlmmaa
end
section
/- The walk of store.lines. -/
namespace Go.Sl
def linesE (js : List SJ) (ent : ByteArray) (p kind of : Int) (xs : List SItem) : Int :=
  if kind = 2 then
    if revE js ent p of ≠ 0 then revE js ent p of
    else if checkE xs ≠ 0 then checkE xs
    else match revX js of with
      | some x => if eqB xs (reverseL x.lines) = true then 0 else 2
      | none => 2
  else checkE xs
end Go.Sl
namespace Go.Proofs.Ytbaklmlnfdlmmaa
open Go.RowKit Go.Sl
set_option maxHeartbeats 1000000
set_option maxRecDepth 100000
theorem lines_calls (p : Nat) (A : Option Addr) (ca : Nat) (js : List SJ) (ent : ByteArray) (per kind of : Int) (h : Hp) (w : World) (hs : h.sub w) (hc : w.cell? ⟨p, 0, none⟩ = some (.slice A js.length ca)) (sx : Sl kJ h A ca js) (hll : ∀ x ∈ js, x.lines.length ≤ 1000000)
    (D : Option Addr) (cd : Nat) (xs : List SItem) (k : Hp) (ks : k.sub w) (sy : Sl kItem k D cd xs) :
    Calls Try.prog 22 #[.pointer (some ⟨p, 0, none⟩), .string ent, .int .i64 per, .int .i64 kind, .int .i64 of, .slice D xs.length cd] w fun e w' => e = .returned (.int .i64 (linesE js ent per kind of xs)) ∧ Below w.heap.size w w' := by
  have CC := fun (W : World) (hW : Below w.heap.size w W) => check_calls D cd xs k W (ks.of_below hW) sy
  by_cases hk : kind = 2
  · subst hk
    have HL : Hid (linesE js ent per 2 of xs = if revE js ent per of ≠ 0 then revE js ent per of else if checkE xs ≠ 0 then checkE xs else match revX js of with | some x => if eqB xs (reverseL x.lines) = true then 0 else 2 | none => 2) := by unfold Hid linesE; rw [if_pos rfl]
    go_enter Try.func22, Try.ntmps22
    go_wp2_with fail
    refine (reversed_calls p A ca js ent per of h w hs hc sx).mono ?_
    rintro e w1 (⟨hE, rfl, b1⟩ | ⟨x, B, cb, hE, hX, hxm, sl, rfl, b1⟩)
    · have hEb : (revE js ent per of != 0) = true := by simpa using hE
      have HE : Hid (linesE js ent per 2 of xs = revE js ent per of) := by unfold Hid; rw [HL.out, if_pos hE]
      clear hE HL
      go_wp2
      go_ret
      exact ⟨by rw [HE.out]; rfl, b1.alloc b1.size _⟩
    · have hxl := hll x hxm
      have HL2 : Hid (linesE js ent per 2 of xs = if checkE xs ≠ 0 then checkE xs else if eqB xs (reverseL x.lines) = true then 0 else 2) := by unfold Hid; rw [HL.out, hE, hX]; rfl
      clear hE hX HL
      go_wp2_with fail
      have b1a : Below w.heap.size w (w1.alloc (.cells #[.int .i64 x.seq, .string x.ent, .int .i64 x.period, .int .i64 x.kind, .int .i64 x.of, .slice B x.lines.length cb] 37)) := b1.alloc b1.size _
      refine (reverse_calls B cb x.lines h _ (hs.of_below b1a) sl hxl).mono ?_
      rintro e w2 ⟨C, c2, h2, rfl, o2, u2⟩
      have b2 := b1a.trans (u2.below.mono b1a.size)
      have CC2 := CC w2 b2
      have HRL : Hid ((reverseL x.lines).length = x.lines.length) := by unfold Hid reverseL; simp
      have s2 := u2.sub
      have o2l := o2.sl
      clear o2 u2 CC
      by_cases h0 : checkE xs = 0
      · rw [h0] at CC2
        have EC := fun (W : World) (hW : Below w2.heap.size w2 W) => equal_line D C cd c2 xs (reverseL x.lines) k h2 W (ks.of_below (b2.trans (hW.mono b2.size))) (s2.of_below hW) sy o2l
        rw [HRL.out] at EC
        cases hq : eqB xs (reverseL x.lines) with
        | true =>
          have HE : Hid (linesE js ent per 2 of xs = 0) := by unfold Hid; rw [HL2.out, h0, hq]; rfl
          rw [hq] at EC
          clear h0 hq HL2
          go_wp2_with fail
          refine CC2.mono ?_
          rintro e w3 ⟨rfl, b3⟩
          have b4 := b2.trans (b3.mono b2.size)
          go_wp2_with (go_at_call 36; refine (EC _ b3).mono ?_; rintro e w4 ⟨rfl, b5⟩)
          go_ret
          exact ⟨by rw [HE.out]; rfl, b4.trans (b5.mono b4.size)⟩
        | false =>
          have HE : Hid (linesE js ent per 2 of xs = 2) := by unfold Hid; rw [HL2.out, h0, hq]; rfl
          rw [hq] at EC
          clear h0 hq HL2
          go_wp2_with fail
          refine CC2.mono ?_
          rintro e w3 ⟨rfl, b3⟩
          have b4 := b2.trans (b3.mono b2.size)
          go_wp2_with (go_at_call 36; refine (EC _ b3).mono ?_; rintro e w4 ⟨rfl, b5⟩)
          go_ret
          exact ⟨by rw [HE.out]; rfl, b4.trans (b5.mono b4.size)⟩
      · have hb : (checkE xs != 0) = true := by simpa using h0
        have HE : Hid (linesE js ent per 2 of xs = checkE xs) := by unfold Hid; rw [HL2.out, if_pos h0]
        clear h0 HL2
        go_wp2_with fail
        refine CC2.mono ?_
        rintro e w3 ⟨rfl, b3⟩
        go_wp2
        go_ret
        exact ⟨by rw [HE.out]; rfl, b2.trans (b3.mono b2.size)⟩
  · have HL : Hid (linesE js ent per kind of xs = checkE xs) := by unfold Hid linesE; rw [if_neg hk]
    have hkb : (kind == 2) = false := by simpa using hk
    clear hk
    by_cases h0 : checkE xs = 0
    · rw [h0] at CC
      have HE : Hid (linesE js ent per kind of xs = 0) := by unfold Hid; rw [HL.out, h0]
      clear h0 HL
      go_enter Try.func22, Try.ntmps22
      go_wp2_with fail
      refine (CC _ (by repeat (first | exact Below.refl _ _ | apply Below.drew | refine Below.alloc ?_ (by simp) _))).mono ?_
      rintro e w1 ⟨rfl, b1⟩
      go_wp2
      go_ret
      exact ⟨by rw [HE.out]; rfl, (show Below w.heap.size w _ from (by repeat (first | exact Below.refl _ _ | apply Below.drew | refine Below.alloc ?_ (by simp) _))).trans (b1.mono (by simp))⟩
    · have hb : (checkE xs != 0) = true := by simpa using h0
      clear h0
      go_enter Try.func22, Try.ntmps22
      go_wp2_with fail
      refine (CC _ (by repeat (first | exact Below.refl _ _ | apply Below.drew | refine Below.alloc ?_ (by simp) _))).mono ?_
      rintro e w1 ⟨rfl, b1⟩
      go_wp2
      go_ret
      exact ⟨by rw [HL.out]; rfl, (show Below w.heap.size w _ from (by repeat (first | exact Below.refl _ _ | apply Below.drew | refine Below.alloc ?_ (by simp) _))).trans (b1.mono (by simp))⟩
end Go.Proofs.Ytbaklmlnfdlmmaa
end
