/- The law CurrentYears: for every input it returns true. No conditions. -/
import Derived.Test.YtpigoegjoagbnaaPk6
import Derived.OwnWalk
set_option linter.all false
section
/- Losses of one period and the next, plain. No program is named here. -/
namespace Go.Sl.CY
open Go Go.RowKit
variable {L F : Int}
theorem first (hL : 1 ≤ L) (hL2 : L ≤ 100000) (hF : 1 ≤ F) (hF2 : F ≤ 5) : curE [] (-L) 0 0 500000 F 3 250000 = 0 ∧ incV (-L) 0 0 = -L ∧ curNew (-L) = L ∧ curVec [] (-L) 500000 3 = [] ∧ curTaxable [] (-L) 500000 3 = 0 ∧ curNext [] (-L) 500000 F 3 = [⟨3, 3 + F, L⟩] := by
  have hi : incOk (-L) 0 0 = true := by simp [incOk, money]; omega
  have hv : incV (-L) 0 0 = -L := by unfold incV; rw [if_pos hi]; omega
  have hA : vAddE [] 3 (3 + F) L = 0 := by
    unfold vAddE
    rw [if_neg (by simp [vOk, money]; omega), if_neg (by simp [money, sumC]; omega)]
    rfl
  have hx : vExp [] 3 = [] := rfl
  refine ⟨?_, hv, by unfold curNew; rw [if_pos (by omega)]; omega, by unfold curVec; rw [if_neg (by omega)], ?_, ?_⟩
  · unfold curE
    rw [if_neg (by simp [curArg, rightRate]; omega), if_neg (by simp [hi]), if_pos (by rw [hv]; omega), hv, hx, Int.neg_neg]
    exact hA
  · unfold curTaxable curVec curNew
    rw [if_neg (by omega), if_pos (by omega)]; simp; omega
  · unfold curNext
    rw [if_neg (by omega), if_pos (by omega), hx, Int.neg_neg]
    unfold vAdd
    rw [if_pos hA]
    simp [putV, put, getV, find]
theorem second (I T : Int) (hI : 0 ≤ I) (hI2 : I ≤ 200000) (hF : 1 ≤ F) (hF2 : F ≤ 5) (hT : 1 ≤ T) (hT2 : T ≤ 8) (l : List STri) : curE l I 0 0 500000 F (3 + T) 250000 = 0 ∧ incV I 0 0 = I ∧ curNew I = 0 := by
  have hi : incOk I 0 0 = true := by simp [incOk, money]; omega
  have hv : incV I 0 0 = I := by unfold incV; rw [if_pos hi]; omega
  refine ⟨?_, hv, by unfold curNew; rw [if_neg (by omega)]⟩
  unfold curE
  rw [if_neg (by simp [curArg, rightRate]; omega), if_neg (by simp [hi]), if_neg (by rw [hv]; omega)]
theorem late (I T : Int) (hI : 0 ≤ I) (h : F < T) : vGone [⟨3, 3 + F, L⟩] (3 + T) = L ∧ curVec [⟨3, 3 + F, L⟩] I 500000 (3 + T) = [] ∧ curTaxable [⟨3, 3 + F, L⟩] I 500000 (3 + T) = I ∧ curNext [⟨3, 3 + F, L⟩] I 500000 F (3 + T) = [] := by
  have hx : vExp [⟨3, 3 + F, L⟩] (3 + T) = [] := by simp [vExp, overV]; omega
  have hg : vGone [⟨3, 3 + F, L⟩] (3 + T) = L := by
    have : overV (3 + T) ⟨3, 3 + F, L⟩ = true := by simp [overV]; omega
    simp [vGone, this, sumC]
  have hv : curVec [⟨3, 3 + F, L⟩] I 500000 (3 + T) = [] := by unfold curVec; rw [hx]; split <;> rfl
  refine ⟨hg, hv, ?_, ?_⟩
  · unfold curTaxable curNew; rw [hv, if_neg (by omega)]; simp
  · unfold curNext
    rw [hv, hx]
    by_cases h0 : 0 < I
    · rw [if_pos h0]; rfl
    · rw [if_neg h0, if_neg (by omega)]
theorem soon (I T : Int) (h : T ≤ F) : vGone [⟨3, 3 + F, L⟩] (3 + T) = 0 ∧ vExp [⟨3, 3 + F, L⟩] (3 + T) = [⟨3, 3 + F, L⟩] := by
  have : overV (3 + T) ⟨3, 3 + F, L⟩ = false := by simp [overV]; omega
  simp [vGone, vExp, this, sumC]
theorem soon0 (T : Int) (h : T ≤ F) : curVec [⟨3, 3 + F, L⟩] 0 500000 (3 + T) = [] ∧ curTaxable [⟨3, 3 + F, L⟩] 0 500000 (3 + T) = 0 ∧ curNext [⟨3, 3 + F, L⟩] 0 500000 F (3 + T) = [⟨3, 3 + F, L⟩] := by
  have hv : curVec [⟨3, 3 + F, L⟩] 0 500000 (3 + T) = [] := rfl
  refine ⟨hv, ?_, ?_⟩
  · unfold curTaxable curNew; rw [hv]; rfl
  · unfold curNext; rw [if_neg (by decide), if_neg (by decide)]; exact (soon (L := L) 0 T h).2
theorem soon1 (I T u : Int) (h : T ≤ F) (hL : 1 ≤ L) (hI : 0 < I) (hI2 : I ≤ 200000) (h2 : I % 2 = 0) (hu : min L (I / 2) = u) :
    curVec [⟨3, 3 + F, L⟩] I 500000 (3 + T) = [u] ∧ curTaxable [⟨3, 3 + F, L⟩] I 500000 (3 + T) = I - u ∧ sumC (curNext [⟨3, 3 + F, L⟩] I 500000 F (3 + T)) = L - u := by
  have hr : roomV I 500000 = I / 2 := by
    have hO : floorOk I 500000 = true := by simp [floorOk]; omega
    unfold roomV floorV; rw [if_neg (by omega), hO, if_pos rfl, Int.tdiv_eq_ediv_of_nonneg (by omega)]; omega
  have hv : curVec [⟨3, 3 + F, L⟩] I 500000 (3 + T) = [u] := by
    unfold curVec
    rw [if_pos hI, (soon (L := L) I T h).2, hr]
    simp only [vecGo, useOf]
    rw [if_pos (by omega), show max 0 (I / 2) = I / 2 by omega, hu]
  refine ⟨hv, ?_, ?_⟩
  · unfold curTaxable curNew; rw [hv, if_neg (by omega)]; simp
  · unfold curNext
    rw [if_pos hI, hv, (soon (L := L) I T h).2]
    have hE : vTakeE [⟨3, 3 + F, L⟩] [u] = 0 := by
      unfold vTakeE; rw [if_pos]; simp [badU]; omega
    unfold vTake
    rw [if_pos hE, sumC_nz, sumC_less _ _ rfl]
    simp [sumC]
end Go.Sl.CY
namespace Go.Sl
def vecOf (i u : Int) : List Int := if i = 0 then [] else [u]
end Go.Sl
namespace Go.Sl.CY
open Go Go.RowKit
theorem both {L F T v : Int} (hL : 1 ≤ L) (hL2 : L ≤ 100000) (hF : 1 ≤ F) (hF2 : F ≤ 5) (hT : 1 ≤ T) (hT2 : T ≤ 8) (hv : 0 ≤ v) (hv2 : v < 100000) :
    ∃ (vg us tx : Int) (vec : List Int) (nx : List STri), vGone [⟨3, 3 + F, L⟩] (3 + T) = vg ∧ curVec [⟨3, 3 + F, L⟩] (2 * v) 500000 (3 + T) = vec ∧ vec.sum = us ∧ curTaxable [⟨3, 3 + F, L⟩] (2 * v) 500000 (3 + T) = tx ∧ curNext [⟨3, 3 + F, L⟩] (2 * v) 500000 F (3 + T) = nx ∧
      Hid ((F < T ∧ vg = L ∧ us = 0 ∧ tx = 2 * v ∧ sumC nx = 0) ∨ (T ≤ F ∧ vg = 0 ∧ us = min L v ∧ tx = 2 * v - min L v ∧ sumC nx = L - min L v ∧ vec = vecOf (2 * v) (min L v))) := by
  by_cases h : F < T
  · obtain ⟨h1, h2, h3, h4⟩ := late (L := L) (2 * v) T (by omega) h
    exact ⟨_, 0, _, _, _, h1, h2, rfl, h3, h4, .inl ⟨h, rfl, rfl, rfl, rfl⟩⟩
  · have h' : T ≤ F := by omega
    by_cases h0 : v = 0
    · subst h0
      obtain ⟨h2, h3, h4⟩ := soon0 (L := L) T h'
      have hm : min L 0 = 0 := by omega
      refine ⟨_, 0, _, _, _, (soon (L := L) 0 T h').1, h2, rfl, h3, h4, .inr ⟨h', rfl, hm.symm, by rw [hm]; rfl, ?_, ?_⟩⟩
      · rw [hm]; simp [sumC]
      · rw [hm]; rfl
    · have hu : min L (2 * v / 2) = min L v := by rw [Int.mul_ediv_cancel_left _ (by decide)]
      obtain ⟨h2, h3, h4⟩ := soon1 (2 * v) T (min L v) h' hL (by omega) (by omega) (by omega) hu
      refine ⟨_, min L v, _, _, _, (soon (L := L) 0 T h').1, h2, by simp, h3, rfl, .inr ⟨h', rfl, rfl, rfl, h4, ?_⟩⟩
      unfold vecOf; rw [if_neg (by omega)]
end Go.Sl.CY
end
section
/- The walk of law15.CurrentYears. -/
namespace Go.Proofs.Ytpigoegjoagbnaa
open Go.RowKit Go.Sl
set_option maxHeartbeats 2000000
set_option maxRecDepth 100000
theorem yvector_calls (i u : Int) (w0 w : World) (L : List Hp) (E : Env w0 w L) :
    Calls Try.prog 32 #[.int .i64 i, .int .i64 u] w fun e w' => ∃ A cap h', e = .returned (.slice A (vecOf i u).length cap) ∧ Sl kInt h' A cap (vecOf i u) ∧ Env w0 w' (L ++ [h']) := by
  by_cases h : i = 0
  · have HV : Hid (vecOf i u = []) := by unfold Hid vecOf; rw [if_pos h]
    have t1 : (i == 0) = true := by simpa using h
    clear h
    go_enter Try.func32, Try.ntmps32
    go_wp2
    go_ret
    exact ⟨none, 0, Hp.none, by rw [HV.out]; rfl, by rw [HV.out]; exact Sl.none _ _, E.new (Upd.of_below (Below.refl _ _))⟩
  · have HV : Hid (vecOf i u = [u]) := by unfold Hid vecOf; rw [if_neg h]
    have t1 : (i == 0) = false := by simpa using h
    clear h
    go_enter Try.func32, Try.ntmps32
    go_wp2
    go_ret
    refine ⟨some ⟨w.heap.size, 0, none⟩, 1, _, by rw [HV.out]; rfl, ?_, E.alloc (.cells #[.int .i64 u] 3)⟩
    rw [HV.out]
    exact (Ow.lit (cells := fun x : Int => [Value.int .i64 x]) (size := 1) (pos := by decide) (hl := fun _ => rfl) (h1 := fun x u h => by simp at h; subst h; rfl) (xs := [u]) (Hp.one_self _ _) (by simp [maxLen])).sl
theorem curYears_calls (x0 x1 x2 x3 : Int) (w : World) :
    Calls Try.prog 8 #[.int .i64 x0, .int .i64 x1, .int .i64 x2, .int .i64 x3] w fun e w' => e = .returned (.bool true) ∧ Below w.heap.size w w' := by
  have E0 := Env.start w
  have W0 := fun W => within_calls x0 100000 W (by omega) (by omega)
  have W1 := fun W => within_calls x1 100000 W (by omega) (by omega)
  have W2 := fun W => within_calls x2 5 W (by omega) (by omega)
  have W3 := fun W => within_calls x3 8 W (by omega) (by omega)
  have a0 := within_lo x0 (n := 100000) (by omega)
  have b0 := within_hi x0 (n := 100000) (by omega)
  have a1 := within_lo x1 (n := 100000) (by omega)
  have b1 := within_hi x1 (n := 100000) (by omega)
  have a2 := within_lo x2 (n := 5) (by omega)
  have b2 := within_hi x2 (n := 5) (by omega)
  have a3 := within_lo x3 (n := 8) (by omega)
  have b3 := within_hi x3 (n := 8) (by omega)
  generalize within x0 100000 = v0 at *
  generalize within x1 100000 = v at *
  generalize within x2 5 = v2 at *
  generalize within x3 8 = v3 at *
  obtain ⟨LL, hLL⟩ : ∃ y, 1 + v0 = y := ⟨_, rfl⟩
  obtain ⟨F, hF⟩ : ∃ y, 1 + v2 = y := ⟨_, rfl⟩
  obtain ⟨T, hT⟩ : ∃ y, 1 + v3 = y := ⟨_, rfl⟩
  have q1 : 1 ≤ LL ∧ LL ≤ 100000 := by omega
  have q2 : 1 ≤ F ∧ F ≤ 5 := by omega
  have q3 : 1 ≤ T ∧ T ≤ 8 := by omega
  have P1 := Lib.hid (CY.first q1.1 q1.2 q2.1 q2.2)
  obtain ⟨vg, us, tx, vec, nx, r2, r3, r4, r6, r8, HX⟩ := CY.both q1.1 q1.2 q2.1 q2.2 q3.1 q3.2 a1 b1
  have P2 := Lib.hid (CY.second (F := F) (2 * v) T (by omega) (by omega) q2.1 q2.2 q3.1 q3.2 [⟨3, 3 + F, LL⟩])
  have R2 := Lib.hid r2
  have R3 := Lib.hid r3
  have R4 := Lib.hid r4
  have R6 := Lib.hid r6
  have R8 := Lib.hid r8
  have hn : ∀ W, (binOp .neq 34 (.agg #[.int .i64 3, .int .i64 (3 + F), .int .i64 LL]) (.agg #[.int .i64 3, .int .i64 (3 + F), .int .i64 LL])).run Try.prog W = .ok (.bool false) W := fun W => by
    have := ne_vint ⟨3, 3 + F, LL⟩ ⟨3, 3 + F, LL⟩ W; rw [neB_f rfl] at this; exact this
  have hx0 : Hid (([⟨3, 3 + F, LL⟩] : List STri)[0]? = some ⟨3, 3 + F, LL⟩) := rfl
  have HSm : Hid (sumC ([⟨3, 3 + F, LL⟩] : List STri) = LL) := by unfold Hid; simp [sumC]
  clear r2 r3 r4 r6 r8
  obtain ⟨vn, hvn⟩ : ∃ n, vec.length = n := ⟨_, rfl⟩
  have RV := Lib.hid hvn
  clear hvn
  go_enter Try.func8, Try.ntmps8
  go_wp2_with fail
  refine (W0 _).mono ?_
  rintro e w' ⟨rfl, rfl⟩
  go_wp2_with fail
  refine (W1 _).mono ?_
  rintro e w' ⟨rfl, rfl⟩
  go_wp2_with fail
  refine (W2 _).mono ?_
  rintro e w' ⟨rfl, rfl⟩
  go_wp2_with fail
  refine (W3 _).mono ?_
  rintro e w' ⟨rfl, rfl⟩
  go_upto_region 2 with fail
  clear W0 W1 W2 W3
  clear hLL hF hT
  go_wp2_with fail
  refine (Vnt.new E0).mono ?_
  rintro e w1 ⟨h1, c1, rfl, S1, E1⟩
  try simp at E1
  go_wp2_with fail
  refine (Vnt.tax_ok S1 E1 0 rfl (-LL) 0 0 500000 F 3 250000 P1.out.1 P1.out.2.1 (show vGone [] 3 = (0 : Int) from rfl) P1.out.2.2.2.1 (show ([] : List Int).sum = 0 from rfl) P1.out.2.2.1 P1.out.2.2.2.2.1 (show ofVal 0 250000 = (0 : Int) by decide) P1.out.2.2.2.2.2 (show ([] : List Int).length = 0 from rfl)).mono ?_
  rintro e w2 ⟨h2, c2, hv2, V2, cp2, rfl, S2, o2, E2⟩
  simp at E2
  go_upto_region 3 with fail
  replace E2 := E2.alloc (.cells #[.int .i64 (-LL), .int .i64 0, .int .i64 0, .int .i64 LL, .int .i64 0, .int .i64 0, .slice V2 0 cp2] 51)
  simp at E2
  obtain ⟨W2, hW2⟩ : ∃ W2 : World, W2 = w2.alloc (.cells #[.int .i64 (-LL), .int .i64 0, .int .i64 0, .int .i64 LL, .int .i64 0, .int .i64 0, .slice V2 0 cp2] 51) := ⟨_, rfl⟩
  rw [← hW2] at E2
  rw [← hW2]
  clear hW2
  have y0 := E2.cell 3 rfl 0 rfl
  have y1 := E2.cell 3 rfl 1 rfl
  have y2 := E2.cell 3 rfl 2 rfl
  have y3 := E2.cell 3 rfl 3 rfl
  have y4 := E2.cell 3 rfl 4 rfl
  have y5 := E2.cell 3 rfl 5 rfl
  have y6 := E2.cell 3 rfl 6 rfl
  go_wp2_with fail
  refine (Vnt.left S2 E2 1 rfl HSm.out).mono ?_
  rintro e w3 ⟨rfl, E3⟩
  go_wp2_with fail
  refine (Vnt.rows S2 E3 1 rfl 1 rfl).mono ?_
  rintro e w4 ⟨C4, n4, h4, rfl, o4, E4⟩
  simp at E4
  go_wp2_with fail
  refine (Vnt.rows S2 E4 1 rfl 1 rfl).mono ?_
  rintro e w5 ⟨C5, n5, h5, rfl, o5, E5⟩
  simp at E5
  obtain ⟨bx, ox, rfl, d0, d1, d2⟩ := o5.sl.tri (E5.sub 5 rfl) hx0
  simp only [Nat.zero_mul, Nat.add_zero] at d0 d1 d2
  go_upto_region 5 with fail
  have E6 := (((E5.drop 5).drop 4).drop 3).drop 2
  simp at E6
  clear y0 y1 y2 y3 y4 y5 y6 d0 d1 d2 E2 E3 E4 E5 hn
  go_wp2_with fail
  refine (Vnt.tax_ok S2 E6 1 rfl (2 * v) 0 0 500000 F (3 + T) 250000 P2.out.1 P2.out.2.1 R2.out R3.out R4.out P2.out.2.2 R6.out rfl R8.out RV.out).mono ?_
  rintro e w7 ⟨h7, c7, hv7, V7, cp7, rfl, S7, o7, E7⟩
  simp at E7
  go_upto_region 6 with fail
  replace E7 := E7.alloc (.cells #[.int .i64 (2 * v), .int .i64 vg, .int .i64 us, .int .i64 0, .int .i64 tx, .int .i64 (ofVal tx 250000), .slice V7 vn cp7] 51)
  simp at E7
  obtain ⟨W7, hW7⟩ : ∃ W7 : World, W7 = w7.alloc (.cells #[.int .i64 (2 * v), .int .i64 vg, .int .i64 us, .int .i64 0, .int .i64 tx, .int .i64 (ofVal tx 250000), .slice V7 vn cp7] 51) := ⟨_, rfl⟩
  rw [← hW7] at E7
  rw [← hW7]
  clear hW7
  have z0 := E7.cell 4 rfl 0 rfl
  have z1 := E7.cell 4 rfl 1 rfl
  have z2 := E7.cell 4 rfl 2 rfl
  have z3 := E7.cell 4 rfl 3 rfl
  have z4 := E7.cell 4 rfl 4 rfl
  have z5 := E7.cell 4 rfl 5 rfl
  have z6 := E7.cell 4 rfl 6 rfl
  generalize w7.heap.size = bz at *
  rcases HX.out with ⟨g1, rfl, rfl, rfl, g5⟩ | ⟨g1, rfl, rfl, rfl, g5, g6⟩
  · have t8 : decide (F < T) = true := by simpa using g1
    have G5 := Lib.hid g5
    clear g5 HX
    go_wp2_with fail
    refine (Vnt.left S7 E7 2 rfl G5.out).mono ?_
    rintro e w8 ⟨rfl, E8⟩
    go_wp2_with fail
    refine (Vnt.left S2 E8 1 rfl HSm.out).mono ?_
    rintro e w9 ⟨rfl, E9⟩
    go_wp2_with fail
    refine (wakes15 _).mono ?_
    rintro e w10 ⟨rfl, B10⟩
    go_wp2
    go_ret
    exact ⟨rfl, (E9.below B10).low⟩
  · have t8 : decide (F < T) = false := by simp; omega
    obtain ⟨u, hu⟩ : ∃ u, min LL v = u := ⟨_, rfl⟩
    have hub : 0 ≤ u ∧ u ≤ LL ∧ u ≤ v := by omega
    rw [hu] at g5 g6
    simp only [hu] at E7 z2 z4 z5
    have hq : 2 * v / 2 = v := Int.mul_ediv_cancel_left _ (by decide)
    have G5 := Lib.hid g5
    have G6 := Lib.hid g6
    have hw1 : IntKind.i64.wrap (LL - u) = LL - u := by rw [IntKind.wrap_i64]; omega
    have hw2 : IntKind.i64.wrap (2 * v - u) = 2 * v - u := by rw [IntKind.wrap_i64]; omega
    have KC : ∀ V, Env w V [h1, h2, h7, hv7, Hp.box bz [.int .i64 (2 * v), .int .i64 0, .int .i64 u, .int .i64 0, .int .i64 (2 * v - u), .int .i64 (ofVal (2 * v - u) 250000), .slice V7 vn cp7] 51] → V.cell? ⟨bz, 1, none⟩ = some (.int .i64 0) ∧ V.cell? ⟨bz, 2, none⟩ = some (.int .i64 u) ∧ V.cell? ⟨bz, 4, none⟩ = some (.int .i64 (2 * v - u)) ∧ V.cell? ⟨bz, 6, none⟩ = some (.slice V7 vn cp7) := fun V E => ⟨E.cell 4 rfl 1 rfl, E.cell 4 rfl 2 rfl, E.cell 4 rfl 4 rfl, E.cell 4 rfl 6 rfl⟩
    clear g5 g6 HX
    go_upto_region 11 with fail
    clear hu hq
    refine wp_region_held_drew (S := (fun V => V.cell? ⟨bz, 1, none⟩ = some (.int .i64 0) ∧ V.cell? ⟨bz, 2, none⟩ = some (.int .i64 u) ∧ V.cell? ⟨bz, 4, none⟩ = some (.int .i64 (2 * v - u)) ∧ V.cell? ⟨bz, 6, none⟩ = some (.slice V7 vn cp7))) (by kernel_rfl) ?_ (fun hHeld => ?_)
    · (try dsimp only)
      first | (go_keep)
    refine take_on (i := 0) (by (simp only [List.getElem?_toArray, List.getElem?_cons_succ, List.getElem?_cons_zero]) <;> rfl) (by kernel_rfl) (by kernel_rfl) (by kernel_rfl) (by intro _ _ _ _ h; exact h) (by rfl) (by assumption) ?_
    apply Exists.intro
    refine ⟨?_, ?_⟩
    · intro W0 hSw
      try dsimp only at hSw
      go_simp
      try (with_reducible rfl)
    try simp only [Act.put, List.setIfInBounds_toArray, List.set_cons_zero, List.set_cons_succ]
    refine take_on (i := 1) (by (simp only [List.getElem?_toArray, List.getElem?_cons_succ, List.getElem?_cons_zero]) <;> rfl) (by kernel_rfl) (by kernel_rfl) (by kernel_rfl) (by intro _ _ _ _ h; exact h) (by rfl) (by assumption) ?_
    apply Exists.intro
    refine ⟨?_, ?_⟩
    · intro W0 hSw
      try dsimp only at hSw
      go_simp
      try (with_reducible rfl)
    try simp only [Act.put, List.setIfInBounds_toArray, List.set_cons_zero, List.set_cons_succ]
    refine take_on (i := 2) (by (simp only [List.getElem?_toArray, List.getElem?_cons_succ, List.getElem?_cons_zero]) <;> rfl) (by kernel_rfl) (by kernel_rfl) (by kernel_rfl) (by intro _ _ _ _ h; exact h) (by rfl) (by assumption) ?_
    apply Exists.intro
    refine ⟨?_, ?_⟩
    · intro W0 hSw
      try dsimp only at hSw
      go_simp
      try (with_reducible rfl)
    try simp only [Act.put, List.setIfInBounds_toArray, List.set_cons_zero, List.set_cons_succ]
    refine take_on (i := 3) (by (simp only [List.getElem?_toArray, List.getElem?_cons_succ, List.getElem?_cons_zero]) <;> rfl) (by kernel_rfl) (by kernel_rfl) (by kernel_rfl) (by intro _ _ _ _ h; exact h) (by rfl) (by assumption) ?_
    apply Exists.intro
    refine ⟨?_, ?_⟩
    · intro W0 hSw
      try dsimp only at hSw
      go_simp
      try (with_reducible rfl)
    try simp only [Act.put, List.setIfInBounds_toArray, List.set_cons_zero, List.set_cons_succ]
    refine take_on (i := 4) (by (simp only [List.getElem?_toArray, List.getElem?_cons_succ, List.getElem?_cons_zero]) <;> rfl) (by kernel_rfl) (by kernel_rfl) (by kernel_rfl) (by intro _ _ _ _ h; exact h) (by rfl) (by assumption) ?_
    apply Exists.intro
    refine ⟨?_, ?_⟩
    · intro W0 hSw
      try dsimp only at hSw
      go_simp
      try (with_reducible rfl)
    try simp only [Act.put, List.setIfInBounds_toArray, List.set_cons_zero, List.set_cons_succ]
    refine take_on (i := 5) (by (simp only [List.getElem?_toArray, List.getElem?_cons_succ, List.getElem?_cons_zero]) <;> rfl) (by kernel_rfl) (by kernel_rfl) (by kernel_rfl) (by intro _ _ _ _ h; exact h) (by rfl) (by assumption) ?_
    apply Exists.intro
    refine ⟨?_, ?_⟩
    · intro W0 hSw
      try dsimp only at hSw
      go_simp
      try (with_reducible rfl)
    try simp only [Act.put, List.setIfInBounds_toArray, List.set_cons_zero, List.set_cons_succ]
    refine take_on (i := 6) (by (simp only [List.getElem?_toArray, List.getElem?_cons_succ, List.getElem?_cons_zero]) <;> rfl) (by kernel_rfl) (by kernel_rfl) (by kernel_rfl) (by intro _ _ _ _ h; exact h) (by rfl) (by assumption) ?_
    apply Exists.intro
    refine ⟨?_, ?_⟩
    · intro W0 hSw
      try dsimp only at hSw
      go_simp
      try (with_reducible rfl)
    try simp only [Act.put, List.setIfInBounds_toArray, List.set_cons_zero, List.set_cons_succ]
    refine take_on (i := 7) (by (simp only [List.getElem?_toArray, List.getElem?_cons_succ, List.getElem?_cons_zero]) <;> rfl) (by kernel_rfl) (by kernel_rfl) (by kernel_rfl) (by intro _ _ _ _ h; exact h) (by rfl) (by assumption) ?_
    apply Exists.intro
    refine ⟨?_, ?_⟩
    · intro W0 hSw
      try dsimp only at hSw
      go_simp
      try (with_reducible rfl)
    try simp only [Act.put, List.setIfInBounds_toArray, List.set_cons_zero, List.set_cons_succ]
    refine take_on (i := 8) (by (simp only [List.getElem?_toArray, List.getElem?_cons_succ, List.getElem?_cons_zero]) <;> rfl) (by kernel_rfl) (by kernel_rfl) (by kernel_rfl) (by intro _ _ _ _ h; exact h) (by rfl) (by assumption) ?_
    apply Exists.intro
    refine ⟨?_, ?_⟩
    · intro W0 hSw
      try dsimp only at hSw
      go_simp
      try (with_reducible rfl)
    try simp only [Act.put, List.setIfInBounds_toArray, List.set_cons_zero, List.set_cons_succ]
    refine take_on (i := 9) (by (simp only [List.getElem?_toArray, List.getElem?_cons_succ, List.getElem?_cons_zero]) <;> rfl) (by kernel_rfl) (by kernel_rfl) (by kernel_rfl) (by intro _ _ _ _ h; exact h) (by rfl) (by assumption) ?_
    apply Exists.intro
    refine ⟨?_, ?_⟩
    · intro W0 hSw
      try dsimp only at hSw
      go_simp
      try (with_reducible rfl)
    try simp only [Act.put, List.setIfInBounds_toArray, List.set_cons_zero, List.set_cons_succ]
    refine take_on (i := 10) (by (simp only [List.getElem?_toArray, List.getElem?_cons_succ, List.getElem?_cons_zero]) <;> rfl) (by kernel_rfl) (by kernel_rfl) (by kernel_rfl) (by intro _ _ _ _ h; exact h) (by rfl) (by assumption) ?_
    apply Exists.intro
    refine ⟨?_, ?_⟩
    · intro W0 hSw
      try dsimp only at hSw
      go_simp
      try (with_reducible rfl)
    try simp only [Act.put, List.setIfInBounds_toArray, List.set_cons_zero, List.set_cons_succ]
    refine take_on (i := 11) (by (simp only [List.getElem?_toArray, List.getElem?_cons_succ, List.getElem?_cons_zero]) <;> rfl) (by kernel_rfl) (by kernel_rfl) (by kernel_rfl) (by intro _ _ _ _ h; exact h) (by rfl) (by assumption) ?_
    apply Exists.intro
    refine ⟨?_, ?_⟩
    · intro W0 hSw
      try dsimp only at hSw
      go_simp
      try (with_reducible rfl)
    try simp only [Act.put, List.setIfInBounds_toArray, List.set_cons_zero, List.set_cons_succ]
    refine take_on (i := 12) (by (simp only [List.getElem?_toArray, List.getElem?_cons_succ, List.getElem?_cons_zero]) <;> rfl) (by kernel_rfl) (by kernel_rfl) (by kernel_rfl) (by intro _ _ _ _ h; exact h) (by rfl) (by assumption) ?_
    apply Exists.intro
    refine ⟨?_, ?_⟩
    · intro W0 hSw
      try dsimp only at hSw
      go_simp
      try (with_reducible rfl)
    try simp only [Act.put, List.setIfInBounds_toArray, List.set_cons_zero, List.set_cons_succ]
    refine take_on (i := 13) (by (simp only [List.getElem?_toArray, List.getElem?_cons_succ, List.getElem?_cons_zero]) <;> rfl) (by kernel_rfl) (by kernel_rfl) (by kernel_rfl) (by intro _ _ _ _ h; exact h) (by rfl) (by assumption) ?_
    apply Exists.intro
    refine ⟨?_, ?_⟩
    · intro W0 hSw
      try dsimp only at hSw
      go_simp
      try (with_reducible rfl)
    try simp only [Act.put, List.setIfInBounds_toArray, List.set_cons_zero, List.set_cons_succ]
    refine take_on (i := 14) (by (simp only [List.getElem?_toArray, List.getElem?_cons_succ, List.getElem?_cons_zero]) <;> rfl) (by kernel_rfl) (by kernel_rfl) (by kernel_rfl) (by intro _ _ _ _ h; exact h) (by rfl) (by assumption) ?_
    apply Exists.intro
    refine ⟨?_, ?_⟩
    · intro W0 hSw
      try dsimp only at hSw
      go_simp
      try (with_reducible rfl)
    try simp only [Act.put, List.setIfInBounds_toArray, List.set_cons_zero, List.set_cons_succ]
    refine take_on (i := 15) (by (simp only [List.getElem?_toArray, List.getElem?_cons_succ, List.getElem?_cons_zero]) <;> rfl) (by kernel_rfl) (by kernel_rfl) (by kernel_rfl) (by intro _ _ _ _ h; exact h) (by rfl) (by assumption) ?_
    apply Exists.intro
    refine ⟨?_, ?_⟩
    · intro W0 hSw
      try dsimp only at hSw
      go_simp
      try (with_reducible rfl)
    try simp only [Act.put, List.setIfInBounds_toArray, List.set_cons_zero, List.set_cons_succ]
    refine take_on (i := 16) (by (simp only [List.getElem?_toArray, List.getElem?_cons_succ, List.getElem?_cons_zero]) <;> rfl) (by kernel_rfl) (by kernel_rfl) (by kernel_rfl) (by intro _ _ _ _ h; exact h) (by rfl) (by assumption) ?_
    apply Exists.intro
    refine ⟨?_, ?_⟩
    · intro W0 hSw
      try dsimp only at hSw
      go_simp
      try (with_reducible rfl)
    try simp only [Act.put, List.setIfInBounds_toArray, List.set_cons_zero, List.set_cons_succ]
    refine take_on (i := 17) (by (simp only [List.getElem?_toArray, List.getElem?_cons_succ, List.getElem?_cons_zero]) <;> rfl) (by kernel_rfl) (by kernel_rfl) (by kernel_rfl) (by intro _ _ _ _ h; exact h) (by rfl) (by assumption) ?_
    apply Exists.intro
    refine ⟨?_, ?_⟩
    · intro W0 hSw
      try dsimp only at hSw
      go_simp
      try (with_reducible rfl)
    try simp only [Act.put, List.setIfInBounds_toArray, List.set_cons_zero, List.set_cons_succ]
    refine take_on (i := 18) (by (simp only [List.getElem?_toArray, List.getElem?_cons_succ, List.getElem?_cons_zero]) <;> rfl) (by kernel_rfl) (by kernel_rfl) (by kernel_rfl) (by intro _ _ _ _ h; exact h) (by rfl) (by assumption) ?_
    apply Exists.intro
    refine ⟨?_, ?_⟩
    · intro W0 hSw
      try dsimp only at hSw
      go_simp
      try (with_reducible rfl)
    try simp only [Act.put, List.setIfInBounds_toArray, List.set_cons_zero, List.set_cons_succ]
    refine take_on (i := 20) (by (simp only [List.getElem?_toArray, List.getElem?_cons_succ, List.getElem?_cons_zero]) <;> rfl) (by kernel_rfl) (by kernel_rfl) (by kernel_rfl) (by intro _ _ _ _ h; exact h) (by rfl) (by assumption) ?_
    apply Exists.intro
    refine ⟨?_, ?_⟩
    · intro W0 hSw
      try dsimp only at hSw
      go_simp
      try (with_reducible rfl)
    try simp only [Act.put, List.setIfInBounds_toArray, List.set_cons_zero, List.set_cons_succ]
    refine take_on (i := 21) (by (simp only [List.getElem?_toArray, List.getElem?_cons_succ, List.getElem?_cons_zero]) <;> rfl) (by kernel_rfl) (by kernel_rfl) (by kernel_rfl) (by intro _ _ _ _ h; exact h) (by rfl) (by assumption) ?_
    apply Exists.intro
    refine ⟨?_, ?_⟩
    · intro W0 hSw
      try dsimp only at hSw
      go_simp
      try (with_reducible rfl)
    try simp only [Act.put, List.setIfInBounds_toArray, List.set_cons_zero, List.set_cons_succ]
    refine take_on (i := 22) (by (simp only [List.getElem?_toArray, List.getElem?_cons_succ, List.getElem?_cons_zero]) <;> rfl) (by kernel_rfl) (by kernel_rfl) (by kernel_rfl) (by intro _ _ _ _ h; exact h) (by rfl) (by assumption) ?_
    apply Exists.intro
    refine ⟨?_, ?_⟩
    · intro W0 hSw
      try dsimp only at hSw
      go_simp
      try (with_reducible rfl)
    try simp only [Act.put, List.setIfInBounds_toArray, List.set_cons_zero, List.set_cons_succ]
    refine wpAnyH_ready (rs := [19]) (by kernel_rfl) (by simp) ?_
    refine AllReadyH.cons (by (simp only [List.getElem?_toArray, List.getElem?_cons_succ, List.getElem?_cons_zero]) <;> rfl) (fun K hK => ?_) AllReadyH.nil
    go_simp
    refine (Vnt.left S7 (by repeat (first | (with_reducible exact E7) | (with_reducible apply Env.drew) | (with_reducible apply Env.drewN) | (with_reducible apply Env.alloc'))) 2 rfl G5.out).mono ?_
    rintro e w8 ⟨rfl, E8⟩
    have hkeep := KC _ E8
    go_wp2_with fail
    refine hK.out _ _ ?_ (fun hHeld => ?_)
    · (try dsimp only)
      first | (exact hkeep) | (go_keep)
    clear hK K
    try simp only [Act.put, List.setIfInBounds_toArray, List.set_cons_zero, List.set_cons_succ]
    refine take_on (i := 23) (by (simp only [List.getElem?_toArray, List.getElem?_cons_succ, List.getElem?_cons_zero]) <;> rfl) (by kernel_rfl) (by kernel_rfl) (by kernel_rfl) (by intro _ _ _ _ h; exact h) (by rfl) (by assumption) ?_
    apply Exists.intro
    refine ⟨?_, ?_⟩
    · intro W0 hSw
      try dsimp only at hSw
      go_simp
      try (with_reducible rfl)
    try simp only [Act.put, List.setIfInBounds_toArray, List.set_cons_zero, List.set_cons_succ]
    refine take_on (i := 24) (by (simp only [List.getElem?_toArray, List.getElem?_cons_succ, List.getElem?_cons_zero]) <;> rfl) (by kernel_rfl) (by kernel_rfl) (by kernel_rfl) (by intro _ _ _ _ h; exact h) (by rfl) (by assumption) ?_
    apply Exists.intro
    refine ⟨?_, ?_⟩
    · intro W0 hSw
      try dsimp only at hSw
      go_simp
      try (with_reducible rfl)
    try simp only [Act.put, List.setIfInBounds_toArray, List.set_cons_zero, List.set_cons_succ]
    refine take_on (i := 25) (by (simp only [List.getElem?_toArray, List.getElem?_cons_succ, List.getElem?_cons_zero]) <;> rfl) (by kernel_rfl) (by kernel_rfl) (by kernel_rfl) (by intro _ _ _ _ h; exact h) (by rfl) (by assumption) ?_
    apply Exists.intro
    refine ⟨?_, ?_⟩
    · intro W0 hSw
      try dsimp only at hSw
      go_simp
      try (with_reducible rfl)
    try simp only [Act.put, List.setIfInBounds_toArray, List.set_cons_zero, List.set_cons_succ]
    refine take_on (i := 26) (by (simp only [List.getElem?_toArray, List.getElem?_cons_succ, List.getElem?_cons_zero]) <;> rfl) (by kernel_rfl) (by kernel_rfl) (by kernel_rfl) (by intro _ _ _ _ h; exact h) (by rfl) (by assumption) ?_
    apply Exists.intro
    refine ⟨?_, ?_⟩
    · intro W0 hSw
      try dsimp only at hSw
      go_simp
      try (with_reducible rfl)
    try simp only [Act.put, List.setIfInBounds_toArray, List.set_cons_zero, List.set_cons_succ]
    refine take_on (i := 27) (by (simp only [List.getElem?_toArray, List.getElem?_cons_succ, List.getElem?_cons_zero]) <;> rfl) (by kernel_rfl) (by kernel_rfl) (by kernel_rfl) (by intro _ _ _ _ h; exact h) (by rfl) (by assumption) ?_
    apply Exists.intro
    refine ⟨?_, ?_⟩
    · intro W0 hSw
      try dsimp only at hSw
      go_simp
      try (with_reducible rfl)
    try simp only [Act.put, List.setIfInBounds_toArray, List.set_cons_zero, List.set_cons_succ]
    refine take_on (i := 28) (by (simp only [List.getElem?_toArray, List.getElem?_cons_succ, List.getElem?_cons_zero]) <;> rfl) (by kernel_rfl) (by kernel_rfl) (by kernel_rfl) (by intro _ _ _ _ h; exact h) (by rfl) (by assumption) ?_
    apply Exists.intro
    refine ⟨?_, ?_⟩
    · intro W0 hSw
      try dsimp only at hSw
      go_simp
      try (with_reducible rfl)
    try simp only [Act.put, List.setIfInBounds_toArray, List.set_cons_zero, List.set_cons_succ]
    refine take_on (i := 29) (by (simp only [List.getElem?_toArray, List.getElem?_cons_succ, List.getElem?_cons_zero]) <;> rfl) (by kernel_rfl) (by kernel_rfl) (by kernel_rfl) (by intro _ _ _ _ h; exact h) (by rfl) (by assumption) ?_
    apply Exists.intro
    refine ⟨?_, ?_⟩
    · intro W0 hSw
      try dsimp only at hSw
      go_simp
      try (with_reducible rfl)
    try simp only [Act.put, List.setIfInBounds_toArray, List.set_cons_zero, List.set_cons_succ]
    refine wpAnyH_ready (rs := [30]) (by kernel_rfl) (by simp) ?_
    refine AllReadyH.cons (by (simp only [List.getElem?_toArray, List.getElem?_cons_succ, List.getElem?_cons_zero]) <;> rfl) (fun K hK => ?_) AllReadyH.nil
    go_simp
    refine (yvector_calls (2 * v) u w w8 _ E8).mono ?_
    rintro e w9 ⟨A9, c9, h9, rfl, s9, E9⟩
    simp at E9
    have hkeep := KC _ (by simpa using E9.drop 5)
    go_wp2_with fail
    refine hK.out _ _ ?_ (fun hHeld => ?_)
    · (try dsimp only)
      first | (exact hkeep) | (go_keep)
    clear hK K
    try simp only [Act.put, List.setIfInBounds_toArray, List.set_cons_zero, List.set_cons_succ]
    refine wpAnyH_ready (rs := [31]) (by kernel_rfl) (by simp) ?_
    refine AllReadyH.cons (by (simp only [List.getElem?_toArray, List.getElem?_cons_succ, List.getElem?_cons_zero]) <;> rfl) (fun K hK => ?_) AllReadyH.nil
    go_simp
    have SB := same_int V7 A9 cp7 c9 vec (vecOf (2 * v) u) hv7 h9 w9 (E9.sub 3 rfl) (E9.sub 5 rfl) o7.sl s9
    rw [RV.out, eqB_t G6.out] at SB
    refine SB.mono ?_
    rintro e w10 ⟨rfl, B10⟩
    have E10 := E9.below B10
    have hkeep := KC _ (by simpa using E10.drop 5)
    go_wp2_with fail
    refine hK.out _ _ ?_ (fun hHeld => ?_)
    · (try dsimp only)
      first | (exact hkeep) | (go_keep)
    clear hK K
    try simp only [Act.put, List.setIfInBounds_toArray, List.set_cons_zero, List.set_cons_succ]
    refine take_on (i := 32) (by (simp only [List.getElem?_toArray, List.getElem?_cons_succ, List.getElem?_cons_zero]) <;> rfl) (by kernel_rfl) (by kernel_rfl) (by kernel_rfl) (by intro _ _ _ _ h; exact h) (by rfl) (by assumption) ?_
    apply Exists.intro
    refine ⟨?_, ?_⟩
    · intro W0 hSw
      try dsimp only at hSw
      go_simp
      try (with_reducible rfl)
    try simp only [Act.put, List.setIfInBounds_toArray, List.set_cons_zero, List.set_cons_succ]
    refine take_on (i := 33) (by (simp only [List.getElem?_toArray, List.getElem?_cons_succ, List.getElem?_cons_zero]) <;> rfl) (by kernel_rfl) (by kernel_rfl) (by kernel_rfl) (by intro _ _ _ _ h; exact h) (by rfl) (by assumption) ?_
    apply Exists.intro
    refine ⟨?_, ?_⟩
    · intro W0 hSw
      try dsimp only at hSw
      go_simp
      try (with_reducible rfl)
    try simp only [Act.put, List.setIfInBounds_toArray, List.set_cons_zero, List.set_cons_succ]
    refine wpAnyH_ready (rs := [34]) (by kernel_rfl) (by simp) ?_
    refine AllReadyH.cons (by (simp only [List.getElem?_toArray, List.getElem?_cons_succ, List.getElem?_cons_zero]) <;> rfl) (fun K hK => ?_) AllReadyH.nil
    go_simp
    refine (wakes15 _).mono ?_
    rintro e w11 ⟨rfl, B11⟩
    have E11 := E10.below B11
    have hkeep := KC _ (by simpa using E11.drop 5)
    go_wp2_with fail
    refine hK.out _ _ ?_ (fun hHeld => ?_)
    · (try dsimp only)
      first | (exact hkeep) | (go_keep)
    clear hK K
    try simp only [Act.put, List.setIfInBounds_toArray, List.set_cons_zero, List.set_cons_succ]
    refine take_on (i := 35) (by (simp only [List.getElem?_toArray, List.getElem?_cons_succ, List.getElem?_cons_zero]) <;> rfl) (by kernel_rfl) (by kernel_rfl) (by kernel_rfl) (by intro _ _ _ _ h; exact h) (by rfl) (by assumption) ?_
    apply Exists.intro
    refine ⟨?_, ?_⟩
    · intro W0 hSw
      try dsimp only at hSw
      go_simp
      try (with_reducible rfl)
    try simp only [Act.put, List.setIfInBounds_toArray, List.set_cons_zero, List.set_cons_succ]
    refine take_on (i := 36) (by (simp only [List.getElem?_toArray, List.getElem?_cons_succ, List.getElem?_cons_zero]) <;> rfl) (by kernel_rfl) (by kernel_rfl) (by kernel_rfl) (by intro _ _ _ _ h; exact h) (by rfl) (by assumption) ?_
    apply Exists.intro
    refine ⟨?_, ?_⟩
    · intro W0 hSw
      try dsimp only at hSw
      go_simp
      try (with_reducible rfl)
    try simp only [Act.put, List.setIfInBounds_toArray, List.set_cons_zero, List.set_cons_succ]
    refine wpAnyH_done (by kernel_rfl) ?_ _
    go_wp2
    go_ret
    exact ⟨rfl, E11.low⟩
end Go.Proofs.Ytpigoegjoagbnaa
end
namespace Go.Proofs.Ytpigoegjoagbnaa.currentYears
open Go.ChangeShapes Go.WideShapes Go.ChangeAt Go.RowKit Go.Sl
set_option linter.unusedVariables false
set_option maxRecDepth 100000
set_option maxHeartbeats 2000000
theorem lifted (os : Os) (started : os.Started) (H : Type) (enc : TypeId × Value → H) :
    ReturnsInHanded {} Try.checked os 8 .any (Rows.currentYearsSpec.pre6 enc Try.prog Try.f8 Rows.currentYearsRow.domain false) (Rows.currentYearsSpec.post enc Try.prog Try.f8 false true false false) := by
  refine returnsInHanded_of_change_sized (C := Try.checked) Lift.own started (by kernel_rfl) Try.func8
    (ChangeSpec.witness6 (enc := enc) (C := Try.checked) false ⟨#[], #[.int .i64 0, .int .i64 0, .int .i64 0, .int .i64 0], []⟩ 8 (by kernel_rfl) (by kernel_rfl) (by kernel_rfl) (by kernel_rfl)) ?_
  intro W base args ds gs before hval0 hW hcnd hsz0 _
  have hval : ∀ (j : Nat) t v, Try.f8.params[j]? = some t → args[j]? = some v → Value.okWide Try.prog W .any base t v := hval0
  have hW' := hW
  obtain ⟨p, q, hA0, hV, rfl, hfz, hnd⟩ := hW
  have hA : DataW.TrodAll enc Try.prog W 0 (fun _ => true) true Try.f8.params.toList args.toList ds p := hA0
  rw [Try.params8] at hA hval
  obtain ⟨v0, vs0, d0, ds0, p0, q0, hargs, rfl, rfl, h0, r0⟩ := trodAll_cons hA
  obtain ⟨v1, vs1, d1, ds1, p1, q1, rfl, rfl, rfl, h1, r1⟩ := trodAll_cons r0
  obtain ⟨v2, vs2, d2, ds2, p2, q2, rfl, rfl, rfl, h2, r2⟩ := trodAll_cons r1
  obtain ⟨v3, vs3, d3, ds3, p3, q3, rfl, rfl, rfl, h3, r3⟩ := trodAll_cons r2
  obtain ⟨rfl, rfl, rfl⟩ := trodAll_nil r3
  obtain rfl : args = #[v0, v1, v2, v3] := by cases args; simp_all
  obtain ⟨rfl, rfl⟩ := trodVars_none hV
  obtain ⟨a0, rfl, rfl, rfl, x0⟩ := open_int Try.underlying3 (hval 0 3 v0 rfl rfl) h0
  have w0 := I64.of_wf x0
  obtain ⟨a1, rfl, rfl, rfl, x1⟩ := open_int Try.underlying3 (hval 1 3 v1 rfl rfl) h1
  have w1 := I64.of_wf x1
  obtain ⟨a2, rfl, rfl, rfl, x2⟩ := open_int Try.underlying3 (hval 2 3 v2 rfl rfl) h2
  have w2 := I64.of_wf x2
  obtain ⟨a3, rfl, rfl, rfl, x3⟩ := open_int Try.underlying3 (hval 3 3 v3 rfl rfl) h3
  have w3 := I64.of_wf x3
  clear hA0 hval0 hsz0
  refine (curYears_calls a0 a1 a2 a3 W).mono fun e W' ⟨he, bel⟩ => ?_
  subst he
  exact ⟨_, rfl, _, _, _, [], _, [], hW', trodAll_mk1 (shut_bool Try.underlying4 _), (trodAll_cons_mk (shut_int Try.underlying3 x0) (trodAll_cons_mk (shut_int Try.underlying3 x1) (trodAll_cons_mk (shut_int Try.underlying3 x2) (trodAll_cons_mk (shut_int Try.underlying3 x3) trodAll_mk0)))), rfl, bel.frame _, fun h => by cases h⟩
theorem over : Rows.currentYearsRow.holds Try.pinned (OpenSpec.ofChange Rows.currentYearsSpec) :=
  OpenClaim.holds_of_wide 8 Try.f8 rfl rfl rfl rfl rfl rfl rfl ⟨rfl, rfl, rfl, rfl, rfl⟩ rfl rfl rfl rfl rfl (by kernel_rfl) Try.func8 (by kernel_rfl)
    (of_decide_eq_true (by kernel_rfl)) (by unfold Func.isWrapper; first | (rw [if_pos (by decide +kernel)]; kernel_rfl) | (rw [if_neg (by decide +kernel)]; exact ⟨rfl, rfl⟩))
    (fun os started H enc _ => lifted os started H enc)
end Go.Proofs.Ytpigoegjoagbnaa.currentYears
namespace Go.Proofs.Ytpigoegjoagbnaa
theorem currentYears_holds : Rows.CurrentYearsSaid := currentYears.over
#print axioms currentYears_holds
end Go.Proofs.Ytpigoegjoagbnaa
