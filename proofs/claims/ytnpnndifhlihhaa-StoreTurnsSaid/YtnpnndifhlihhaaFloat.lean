/- Whole numbers below 2^53 as floats: sums, comparison and the way back are exact. No program is named here. -/
import Derived.WalkKit
import Derived.WalkLawsBesides
import Derived.Laws.FloatArith
import Derived.Laws.ComplexArith
namespace Go.Sl
open Go Go.RowKit Ieee

theorem log2_mul_pow {n : Nat} (q : Nat) (h : n ≠ 0) : (n * 2 ^ q).log2 = n.log2 + q := by
  have h1 := (Nat.log2_eq_iff h).1 rfl
  have hp : 0 < 2 ^ q := Nat.pow_pos (by omega)
  refine (Nat.log2_eq_iff (Nat.mul_ne_zero h (by omega))).2 ⟨?_, ?_⟩
  · rw [Nat.pow_add]; exact Nat.mul_le_mul_right _ h1.1
  · rw [show n.log2 + q + 1 = n.log2 + 1 + q by omega, Nat.pow_add]; exact Nat.mul_lt_mul_of_pos_right h1.2 hp

/-- The float of a whole number. -/
def fe (n : Nat) : Nat := floatOfInt .f64 n
theorem fe_eq (n : Nat) : fe n = double.nearest false n 0 := by
  have : decide ((n : Int) < 0) = false := by simp
  simp [fe, floatOfInt, FloatKind.nearest, FloatKind.encode, FloatKind.format, Format.write, this]

/-- A datum that stands for the whole number n. -/
def Is (n : Nat) (d : Datum) : Prop := ∃ q : Nat, q ≤ 1074 ∧ d = .number false (n * 2 ^ q) (-(q : Int))

theorem Is.sum {a b : Nat} {d e : Datum} (h : Is a d) (k : Is b e) : ∃ s, d.sum e = some s ∧ Is (a + b) s := by
  obtain ⟨q, hq, rfl⟩ := h
  obtain ⟨r, hr, rfl⟩ := k
  refine ⟨_, rfl, max q r, by omega, ?_⟩
  have e0 : min (-(q : Int)) (-(r : Int)) = -((max q r : Nat) : Int) := by omega
  have e1 : (-(q : Int) - -((max q r : Nat) : Int)).toNat = max q r - q := by omega
  have e2 : (-(r : Int) - -((max q r : Nat) : Int)).toNat = max q r - r := by omega
  have p1 : 2 ^ q * 2 ^ (max q r - q) = 2 ^ max q r := by rw [← Nat.pow_add]; congr 1; omega
  have p2 : 2 ^ r * 2 ^ (max q r - r) = 2 ^ max q r := by rw [← Nat.pow_add]; congr 1; omega
  have t : signed false (a * 2 ^ q) (max q r - q) + signed false (b * 2 ^ r) (max q r - r) = (((a + b) * 2 ^ max q r : Nat) : Int) := by
    simp only [signed, Bool.false_eq_true, if_false, Nat.shiftLeft_eq, Nat.mul_assoc, p1, p2, Nat.add_mul]
    omega
  simp only [e0, e1, e2, t]
  generalize (a + b) * 2 ^ max q r = T
  rw [Int.natAbs_natCast]
  congr 1
  split
  · rfl
  · simp

theorem shift_one (q : Nat) : 1 <<< q = 2 ^ q := by rw [Nat.shiftLeft_eq, Nat.one_mul]

theorem Is.toInt {n : Nat} {d : Datum} (h : Is n d) : d.toInt .zero = some (n : Int) := by
  obtain ⟨q, hq, rfl⟩ := h
  have e1 : (-(q : Int)).toNat = 0 := by omega
  have e2 : (- -(q : Int)).toNat = q := by omega
  have key : Toward.zero.cut false (n * 2 ^ q) q = n := by
    unfold Toward.cut
    by_cases h0 : n = 0
    · subst h0; simp
    · rw [log2_mul_pow q h0]
      have : min q (n.log2 + q + 2) = q := by omega
      simp only [this, shift_one]
      rw [Nat.mul_div_cancel _ (Nat.pow_pos (by omega))]
      simp
  simp only [Datum.toInt, Datum.integral, e1, e2, Nat.shiftLeft_zero, key]
  simp [signed]

theorem Is.order {a b : Nat} {d e : Datum} (h : Is a d) (k : Is b e) : (d.order e == some .eq) = decide (a = b) := by
  obtain ⟨q, hq, rfl⟩ := h
  obtain ⟨r, hr, rfl⟩ := k
  have e0 : min (-(q : Int)) (-(r : Int)) = -((max q r : Nat) : Int) := by omega
  have e1 : (-(q : Int) - -((max q r : Nat) : Int)).toNat = max q r - q := by omega
  have e2 : (-(r : Int) - -((max q r : Nat) : Int)).toNat = max q r - r := by omega
  have p1 : 2 ^ q * 2 ^ (max q r - q) = 2 ^ max q r := by rw [← Nat.pow_add]; congr 1; omega
  have p2 : 2 ^ r * 2 ^ (max q r - r) = 2 ^ max q r := by rw [← Nat.pow_add]; congr 1; omega
  have hp : 0 < 2 ^ max q r := Nat.pow_pos (by omega)
  simp only [Datum.order, e0, e1, e2, signed, Bool.false_eq_true, if_false, Nat.shiftLeft_eq, Nat.mul_assoc, p1, p2]
  by_cases hab : a = b
  · subst hab; simp
  · have hne : a * 2 ^ max q r ≠ b * 2 ^ max q r := fun e => hab (Nat.eq_of_mul_eq_mul_right hp e)
    have : compare ((a * 2 ^ max q r : Nat) : Int) ((b * 2 ^ max q r : Nat) : Int) ≠ .eq := fun e => hne (by
      have := Int.compare_eq_eq.1 e; omega)
    simp only [hab, decide_false, beq_eq_false_iff_ne, ne_eq, Option.some.injEq]
    exact this

theorem nearest_exact {n : Nat} (h0 : n ≠ 0) (hn : n < 2 ^ 53) (q : Nat) (_hq : q ≤ 1074) :
    double.nearest false (n * 2 ^ q) (-(q : Int)) = (n.log2 + 1022) * 2 ^ 52 + n * 2 ^ (52 - n.log2) := by
  have hL : n.log2 ≤ 52 := by
    have := (Nat.log2_lt h0).2 hn; omega
  have hp : 0 < 2 ^ q := Nat.pow_pos (by omega)
  have hm : n * 2 ^ q ≠ 0 := Nat.mul_ne_zero h0 (by omega)
  unfold Format.nearest
  rw [if_neg hm, log2_mul_pow q h0]
  have hf : double.fractionBits = 52 := rfl
  have hlp : double.leastPlace = -1074 := by decide
  have hbn : double.binade = 2 ^ 52 := rfl
  have hinf : double.infRung = 2047 * 2 ^ 52 := by decide
  have hlast : max (-(q : Int) + ((n.log2 + q : Nat) : Int) - 52) (-1074) = (n.log2 : Int) - 52 := by omega
  simp only [hf, hlp, hbn, hinf]
  have hcast : ((52 : Nat) : Int) = 52 := rfl
  simp only [hcast, hlast]
  have hkept : Toward.even.cut false ((n * 2 ^ q) <<< (-(q : Int) - ((n.log2 : Int) - 52)).toNat) ((n.log2 : Int) - 52 - -(q : Int)).toNat = n * 2 ^ (52 - n.log2) := by
    rcases Nat.le_total q (52 - n.log2) with h | h
    · have e1 : (-(q : Int) - ((n.log2 : Int) - 52)).toNat = 52 - n.log2 - q := by omega
      have e2 : ((n.log2 : Int) - 52 - -(q : Int)).toNat = 0 := by omega
      rw [e1, e2, Nat.shiftLeft_eq, Nat.mul_assoc, ← Nat.pow_add]
      rw [show q + (52 - n.log2 - q) = 52 - n.log2 by omega]
      simp [Toward.cut, Nat.mod_one]
    · have e1 : (-(q : Int) - ((n.log2 : Int) - 52)).toNat = 0 := by omega
      have e2 : ((n.log2 : Int) - 52 - -(q : Int)).toNat = q - (52 - n.log2) := by omega
      rw [e1, e2, Nat.shiftLeft_zero]
      unfold Toward.cut
      rw [log2_mul_pow q h0]
      have : min (q - (52 - n.log2)) (n.log2 + q + 2) = q - (52 - n.log2) := by omega
      have hp2 : 0 < 2 ^ (q - (52 - n.log2)) := Nat.pow_pos (by omega)
      have hs : n * 2 ^ q = n * 2 ^ (52 - n.log2) * 2 ^ (q - (52 - n.log2)) := by
        rw [Nat.mul_assoc, ← Nat.pow_add]; congr 2; omega
      simp only [this, shift_one]
      rw [hs, Nat.mul_div_cancel _ hp2, Nat.mul_mod_left]
      simp
  rw [hkept]
  have e3 : ((n.log2 : Int) - 52 - -1074).toNat = n.log2 + 1022 := by omega
  rw [e3]
  have h1 := ((Nat.log2_eq_iff h0).1 rfl).2
  have hup : n * 2 ^ (52 - n.log2) ≤ 2 ^ 53 := by
    have : n * 2 ^ (52 - n.log2) ≤ 2 ^ (n.log2 + 1) * 2 ^ (52 - n.log2) := Nat.mul_le_mul_right _ (Nat.le_of_lt h1)
    rw [← Nat.pow_add, show n.log2 + 1 + (52 - n.log2) = 53 by omega] at this
    exact this
  simp only [Format.word, Bool.false_eq_true, if_false]
  refine Nat.min_eq_left ?_
  have h5 : (n.log2 + 1022) * 2 ^ 52 ≤ 1074 * 2 ^ 52 := Nat.mul_le_mul_right _ (by omega)
  have h6 : (2 : Nat) ^ 53 = 2 * 2 ^ 52 := rfl
  rw [h6] at hup
  generalize (2 : Nat) ^ 52 = B at *
  omega

theorem fe_zero : fe 0 = 0 := by rw [fe_eq]; decide
theorem fe_pos {n : Nat} (h0 : n ≠ 0) (hn : n < 2 ^ 53) : fe n = (n.log2 + 1022) * 2 ^ 52 + n * 2 ^ (52 - n.log2) := by
  have := nearest_exact h0 hn 0 (by omega)
  rw [fe_eq, ← this]; simp

theorem Is.zero (q : Nat) (hq : q ≤ 1074) : Is 0 (.number false 0 (-(q : Int))) := ⟨q, hq, by rw [Nat.zero_mul]⟩
set_option maxRecDepth 100000 in
theorem read_fe {n : Nat} (hn : n < 2 ^ 53) : Is n (double.read (fe n)) := by
  by_cases h0 : n = 0
  · subst h0
    rw [fe_zero]
    have h : double.read 0 = .number false 0 (-((1074 : Nat) : Int)) := rfl
    rw [h]; exact Is.zero 1074 (Nat.le_refl _)
  · have hL : n.log2 ≤ 52 := by
      have := (Nat.log2_lt h0).2 hn; omega
    have hb := (Nat.log2_eq_iff h0).1 rfl
    have lo : 2 ^ 52 ≤ n * 2 ^ (52 - n.log2) := by
      have : 2 ^ n.log2 * 2 ^ (52 - n.log2) ≤ n * 2 ^ (52 - n.log2) := Nat.mul_le_mul_right _ hb.1
      rw [← Nat.pow_add, show n.log2 + (52 - n.log2) = 52 by omega] at this
      exact this
    have hi : n * 2 ^ (52 - n.log2) < 2 ^ 53 := by
      have : n * 2 ^ (52 - n.log2) < 2 ^ (n.log2 + 1) * 2 ^ (52 - n.log2) := Nat.mul_lt_mul_of_pos_right hb.2 (Nat.pow_pos (by omega))
      rw [← Nat.pow_add, show n.log2 + 1 + (52 - n.log2) = 53 by omega] at this
      exact this
    refine ⟨52 - n.log2, by omega, ?_⟩
    rw [fe_pos h0 hn]
    generalize n * 2 ^ (52 - n.log2) = m at lo hi ⊢
    generalize n.log2 = L at hL ⊢
    have h53 : (2 : Nat) ^ 53 = 2 * 2 ^ 52 := rfl
    have h63 : (2 : Nat) ^ 63 = 2048 * 2 ^ 52 := rfl
    have hp : 0 < (2 : Nat) ^ 52 := Nat.pow_pos (by omega)
    have hsw : double.signWeight = 2048 * 2 ^ 52 := by rw [← h63]; rfl
    have hbn : double.binade = 2 ^ 52 := rfl
    have hinf : double.infRung = 2047 * 2 ^ 52 := by decide
    have hlp : double.leastPlace = -1074 := by decide
    rw [h53] at hi
    clear hn hb
    generalize (2 : Nat) ^ 52 = B at *
    clear h53 h63
    have hmul : (L + 1022) * B ≤ 1074 * B := Nat.mul_le_mul_right _ (by omega)
    have hlt : (L + 1022) * B + m < 2048 * B := by omega
    have hmul2 : 1022 * B ≤ (L + 1022) * B := Nat.mul_le_mul_right _ (by omega)
    have hdiv : ((L + 1022) * B + m) / B = L + 1023 := by
      rw [Nat.add_comm, Nat.add_mul_div_right _ _ hp]
      have : m / B = 1 := Nat.div_eq_of_lt_le (by omega) (by omega)
      omega
    have hmod : ((L + 1022) * B + m) % B = m - B := by
      rw [Nat.add_comm, Nat.add_mul_mod_self_right, Nat.mod_eq_sub_mod lo, Nat.mod_eq_of_lt (by omega)]
    unfold Format.read
    simp only [hsw, hbn, hinf, hlp, Nat.mod_eq_of_lt hlt, Nat.div_eq_of_lt hlt, hdiv, hmod]
    clear hsw hbn hinf hlp hdiv hmod
    rw [if_neg (by omega), if_pos (by omega)]
    congr 1
    · omega
    · omega

theorem write_is {n : Nat} {d : Datum} (hn : n < 2 ^ 53) (h : Is n d) : double.write d = fe n := by
  obtain ⟨q, hq, rfl⟩ := h
  by_cases h0 : n = 0
  · subst h0; rw [fe_zero, Nat.zero_mul]; rfl
  · rw [fe_pos h0 hn]; exact nearest_exact h0 hn q hq

theorem fe_add {a b : Nat} (h : a + b < 2 ^ 53) : floatBits .add .f64 (fe a) (fe b) = some (fe (a + b)) := by
  obtain ⟨s, h1, h2⟩ := (read_fe (n := a) (by omega)).sum (read_fe (n := b) (by omega))
  show ((double.read (fe a)).sum (double.read (fe b))).map double.write = _
  rw [h1, Option.map_some, write_is h h2]
theorem fe_order {a b : Nat} (ha : a < 2 ^ 53) (hb : b < 2 ^ 53) : (double.order (fe a) (fe b) == some .eq) = decide (a = b) := (read_fe ha).order (read_fe hb)
theorem fe_toInt {a : Nat} (ha : a < 2 ^ 53) : floatToIntVal .f64 (fe a) .i64 = some (a : Int) := by
  unfold floatToIntVal
  have : (FloatKind.f64.decode (fe a)).toInt .zero = some (a : Int) := (read_fe ha).toInt
  rw [this]
  have h2 : a < 9007199254740992 := ha
  have h1 : IntKind.i64.min ≤ (a : Int) ∧ (a : Int) ≤ IntKind.i64.max := by
    simp [IntKind.min, IntKind.max, IntKind.signed, IntKind.bits]; omega
  simp only [h1, and_self, if_true]

end Go.Sl
