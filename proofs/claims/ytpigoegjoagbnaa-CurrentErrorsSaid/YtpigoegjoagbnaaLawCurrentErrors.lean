/- The law CurrentErrors: for every input it returns true. No conditions. -/
import Derived.Test.YtpigoegjoagbnaaPk6
import Derived.OwnWalk
set_option linter.all false
section
/- The walk of law15.CurrentErrors. -/
namespace Go.Sl.CE
open Go Go.RowKit
def row (l : List Int) : Nat → Int := fun i => l.getD i 0
def table (n : Int) : List (Nat → Int) := [row [n, 0, 0, -1, 1, 1, 1, 1], row [n, 0, 0, 1000001, 1, 1, 1, 1], row [n, 0, 0, 1, -1, 1, 1, 1], row [n, 0, 0, 1, 1, 100, 1, 1], row [n, 0, 0, 1, 1, 1, -1, 1], row [100000000000, 1, 0, 1, 1, 1, 1, 6], row [100000000001, 0, 0, 1, 1, 1, 1, 6], row [-1 - n, 0, 0, 1, 60, 15, 1, 5], row [-100000000000, 0, 0, 1, 5, 15, 1, 6], row [n, 0, 0, 1, 1, 15, 1, 0]]
def evl (j : Nat) : List STri := (List.range j).map fun k : Nat => (⟨(k : Int), (k : Int) + 20, 5⟩ : STri)
theorem evl_next : ∀ j, j < 12 → vAddE (evl j) (j : Int) ((j : Int) + 20) 5 = 0 ∧ vAdd (evl j) (j : Int) ((j : Int) + 20) 5 = evl (j + 1) := by decide +kernel
theorem evl_exp : vExp (evl 12) 15 = evl 12 ∧ sumC (evl 12) = 60 ∧ (evl 12).length = 12 ∧ (evl 12).any (isV 15 75) = false ∧ (evl 12).any (isV 15 20) = false := by decide +kernel
theorem rows_ok {n : Int} (h0 : 0 ≤ n) (h1 : n < 1000) : ∀ j x, j < 9 → (table n)[j]? = some x → curE (evl 12) (x 0) (x 1) (x 2) (x 3) (x 4) (x 5) (x 6) = x 7 ∧ x 7 ≠ 0 ∧ 1 ≤ x 7 := by
  intro j x hj hx
  obtain ⟨e1, e2, e3, e4, e5⟩ := evl_exp
  have arg : ∀ {b p m most life year r : Int}, curArg most life year r = false → curE (evl 12) b p m most life year r = 1 := fun h => by unfold curE; rw [if_pos h]
  have inc : ∀ {b p m most life year r : Int}, curArg most life year r = true → incOk b p m = false → curE (evl 12) b p m most life year r = 6 := fun h h2 => by unfold curE; rw [if_neg (by rw [h]; decide), if_pos h2]
  have hcase : j = 0 ∨ j = 1 ∨ j = 2 ∨ j = 3 ∨ j = 4 ∨ j = 5 ∨ j = 6 ∨ j = 7 ∨ j = 8 := by omega
  rcases hcase with rfl | rfl | rfl | rfl | rfl | rfl | rfl | rfl | rfl <;> cases hx <;> simp only [row, List.getD_cons_zero, List.getD_cons_succ] <;> refine ⟨?_, by decide, by decide⟩
  · exact arg (by decide)
  · exact arg (by decide)
  · exact arg (by decide)
  · exact arg (by decide)
  · exact arg (by decide)
  · exact inc (by decide) (by decide)
  · exact inc (by decide) (by decide)
  · have hi : incOk (-1 - n) 0 0 = true := by simp [incOk, money]; omega
    have hv : incV (-1 - n) 0 0 = -1 - n := by unfold incV; rw [if_pos hi]; omega
    unfold curE
    rw [if_neg (by decide), if_neg (by rw [hi]; decide), hv, if_pos (by omega), e1]
    unfold vAddE
    rw [if_neg (by simp [vOk, money]; omega), e2, if_neg (by simp [money]; omega), show (15 : Int) + 60 = 75 from rfl, e4, if_neg (by decide), if_pos (by simp [e3])]
  · have hv : incV (-100000000000) 0 0 = -100000000000 := by decide
    unfold curE
    rw [if_neg (by decide), if_neg (by decide), hv, if_pos (by decide), e1]
    unfold vAddE
    rw [if_neg (by decide), e2, if_pos (by decide)]
theorem row_ok {n : Int} (h0 : 0 ≤ n) (h1 : n < 1000) : curE (evl 12) n 0 0 1 1 15 1 = 0 := by
  have hi : incOk n 0 0 = true := by simp [incOk, money]; omega
  have hv : incV n 0 0 = n := by unfold incV; rw [if_pos hi]; omega
  unfold curE
  rw [if_neg (by decide), if_neg (by rw [hi]; decide), hv, if_neg (by omega)]
theorem fn8 {pos : 0 < 8} {h : Hp} {A : Option Addr} {cap : Nat} {xs : List (Nat → Int)} {w : World} (s : Sl (kFun 8 pos) h A cap xs) (hs : h.sub w) {i : Nat} {x : Nat → Int} (hx : Hid (xs[i]? = some x)) :
    ∃ b off, A = some ⟨b, off, .none⟩ ∧ w.cell? ⟨b, off + i * 8, .none⟩ = some (.int .i64 (x 0)) ∧ w.cell? ⟨b, off + i * 8 + 1, .none⟩ = some (.int .i64 (x 1)) ∧ w.cell? ⟨b, off + i * 8 + 2, .none⟩ = some (.int .i64 (x 2)) ∧ w.cell? ⟨b, off + i * 8 + 3, .none⟩ = some (.int .i64 (x 3)) ∧ w.cell? ⟨b, off + i * 8 + 4, .none⟩ = some (.int .i64 (x 4)) ∧ w.cell? ⟨b, off + i * 8 + 5, .none⟩ = some (.int .i64 (x 5)) ∧ w.cell? ⟨b, off + i * 8 + 6, .none⟩ = some (.int .i64 (x 6)) ∧ w.cell? ⟨b, off + i * 8 + 7, .none⟩ = some (.int .i64 (x 7)) := by
  obtain ⟨b, off, e, hc⟩ := s.fn hs hx
  exact ⟨b, off, e, hc 0 (by omega), hc 1 (by omega), hc 2 (by omega), hc 3 (by omega), hc 4 (by omega), hc 5 (by omega), hc 6 (by omega), hc 7 (by omega)⟩
end Go.Sl.CE
namespace Go.Proofs.Ytpigoegjoagbnaa
open Go.RowKit Go.Sl
set_option maxHeartbeats 4000000
set_option maxRecDepth 100000
set_option linter.unusedSimpArgs false
theorem curErrors_calls (n0 : Int) (w : World) : Calls Try.prog 9 #[.int .i64 n0] w fun e w' => e = .returned (.bool true) ∧ Below w.heap.size w w' := by
  have E0 := Env.start w
  have W0 := fun W => within_calls n0 1000 W (by omega) (by omega)
  have a0 := within_lo n0 (n := 1000) (by omega)
  have b0 := within_hi n0 (n := 1000) (by omega)
  generalize within n0 1000 = n at *
  have RO := Lib.hid (CE.rows_ok a0 b0)
  have RK := Lib.hid (CE.row_ok a0 b0)
  have EV := Lib.hid CE.evl_next
  have HSum : Hid (sumC (CE.evl 12) = 60) := CE.evl_exp.2.1
  go_enter Try.func9, Try.ntmps9
  go_wp2_with fail
  refine (W0 _).mono ?_
  rintro e w' ⟨rfl, rfl⟩
  go_wp2_with fail
  refine (Vnt.new E0).mono ?_
  rintro e w1 ⟨h1, c, rfl, S1, E1⟩
  try simp at E1
  go_wp2_with fail
  go_loopw [4] (fun i wr => ∃ (j : Nat) (g : Hp), j ≤ 12 ∧ i = .int .i64 j ∧ Vnt g c (CE.evl j) ∧ Env w wr [g]) (fun i _ => 12 - (intOf i).toNat)
  case atStart => exact ⟨0, h1, by omega, rfl, S1, E1⟩
  case round =>
    clear S1 E1
    obtain ⟨j, g, hj, rfl, S, E⟩ := hrel
    by_cases hlt : j < 12
    · have i1 : (0 : Int) ≤ (j : Int) := by omega
      have i2 : (j : Int) < 12 := by omega
      have hE := EV.out j hlt
      have hE1 := Lib.hid hE.1
      have hE2 := Lib.hid hE.2
      clear hE
      go_wp2_with fail
      refine (Vnt.add S E 0 rfl _ _ _ ⟨hE1.out, hE2.out⟩).mono ?_
      rintro e w3 ⟨h3, rfl, S3, E3⟩
      simp only [List.set_cons_zero] at E3
      go_wp2
      go_roundw
      case rel => exact ⟨j + 1, h3, by omega, by go_num, S3, E3⟩
      case measure => simp [intOf]; omega
    · obtain rfl : j = 12 := by omega
      clear EV
      have hwn : IntKind.i64.wrap (-1 - n) = -1 - n := by rw [IntKind.wrap_i64]; omega
      rw [show ((12 : Nat) : Int) = 12 from rfl]
      go_upto_region 10 with fail
      have E2 := E.alloc (.cells ((CE.table n).flatMap fun x => (List.range 8).map fun i => Value.int .i64 (x i)).toArray 56)
      have st : Sl (kFun 8 (by decide)) (Hp.one wr.heap.size (.cells ((CE.table n).flatMap fun x => (List.range 8).map fun i => Value.int .i64 (x i)).toArray 56)) (some ⟨wr.heap.size, 0, none⟩) 10 (CE.table n) := Sl.lit (xs := CE.table n) (Hp.one_self _ _) (show 10 ≤ maxLen by unfold maxLen; decide)
      simp only [List.cons_append, List.nil_append] at E2
      generalize Hp.one wr.heap.size (.cells ((CE.table n).flatMap fun x => (List.range 8).map fun i => Value.int .i64 (x i)).toArray 56) = ht at *
      go_loopw [44] (fun i wr => ∃ (j : Nat), j ≤ 10 ∧ i = .int .i64 j ∧ Env w wr [g, ht]) (fun i _ => 10 - (intOf i).toNat)
      case atStart => exact ⟨0, by omega, rfl, E2⟩
      case round =>
        clear E2 E
        obtain ⟨j, hj, rfl, E⟩ := hrel
        by_cases hlt : j < 10
        · obtain ⟨x, hx⟩ := some_of_lt (show j < (CE.table n).length from hlt)
          obtain ⟨b1, o1, e1, d0, d1, d2, d3, d4, d5, d6, d7⟩ := CE.fn8 st (E.sub 1 rfl) hx
          cases e1
          rw [Nat.zero_add] at d0 d1 d2 d3 d4 d5 d6 d7
          have i1 : (0 : Int) ≤ (j : Int) := by omega
          have i2 : (j : Int) < 10 := by omega
          go_upto_region 12 with fail
          replace E := E.alloc (.cells #[.int .i64 (x 0), .int .i64 (x 1), .int .i64 (x 2), .int .i64 (x 3), .int .i64 (x 4), .int .i64 (x 5), .int .i64 (x 6), .int .i64 (x 7)] 56)
          simp at E
          obtain ⟨W, hW⟩ : ∃ W : World, W = wr.alloc (.cells #[.int .i64 (x 0), .int .i64 (x 1), .int .i64 (x 2), .int .i64 (x 3), .int .i64 (x 4), .int .i64 (x 5), .int .i64 (x 6), .int .i64 (x 7)] 56) := ⟨_, rfl⟩
          rw [← hW] at E
          rw [← hW]
          clear hW
          have q0 := E.cell 2 rfl 0 rfl
          have q1 := E.cell 2 rfl 1 rfl
          have q2 := E.cell 2 rfl 2 rfl
          have q3 := E.cell 2 rfl 3 rfl
          have q4 := E.cell 2 rfl 4 rfl
          have q5 := E.cell 2 rfl 5 rfl
          have q6 := E.cell 2 rfl 6 rfl
          have q7 := E.cell 2 rfl 7 rfl
          generalize wr.heap.size = bx at *
          by_cases h9 : j < 9
          · have ro := RO.out j x h9 hx.out
            have RE := Lib.hid ro.1
            have t1 : (x 7 == 0) = false := by simpa using ro.2.1
            have t2 : (x 7 != 0) = true := by simpa using ro.2.1
            have R0 := Lib.hid ro.2.1
            clear ro h9
            go_wp2_with fail
            refine (Vnt.tax_err S E 0 rfl (x 0) (x 1) (x 2) (x 3) (x 4) (x 5) (x 6) RE.out R0.out).mono ?_
            rintro e w3 ⟨rfl, E3⟩
            go_upto_region 13 with fail
            clear q0 q1 q2 q3 q4 q5 q6 q7
            replace E3 := E3.alloc (.cells #[.int .i64 0, .int .i64 0, .int .i64 0, .int .i64 0, .int .i64 0, .int .i64 0, .slice none 0 0] 51)
            simp at E3
            obtain ⟨W3, hW3⟩ : ∃ W3 : World, W3 = w3.alloc (.cells #[.int .i64 0, .int .i64 0, .int .i64 0, .int .i64 0, .int .i64 0, .int .i64 0, .slice none 0 0] 51) := ⟨_, rfl⟩
            rw [← hW3] at E3
            rw [← hW3]
            clear hW3
            have z0 := E3.cell 3 rfl 0 rfl
            have z1 := E3.cell 3 rfl 1 rfl
            have z2 := E3.cell 3 rfl 2 rfl
            have z3 := E3.cell 3 rfl 3 rfl
            have z4 := E3.cell 3 rfl 4 rfl
            have z5 := E3.cell 3 rfl 5 rfl
            have z6 := E3.cell 3 rfl 6 rfl
            have q7 := E3.cell 2 rfl 7 rfl
            have E5 := (E3.drop 3).drop 2
            simp at E5
            go_wp2
            go_roundw
            case rel => exact ⟨j + 1, by omega, by go_num, E5⟩
            case measure => simp [intOf]; omega
          · obtain rfl : j = 9 := by omega
            obtain rfl : CE.row [n, 0, 0, 1, 1, 15, 1, 0] = x := by have := hx.out; simpa [CE.table] using this
            simp only [CE.row, List.getD_cons_zero, List.getD_cons_succ] at E q0 q1 q2 q3 q4 q5 q6 q7
            go_wp2_with fail
            refine (Vnt.tax_ok S E 0 rfl n 0 0 1 1 15 1 RK.out rfl rfl rfl rfl rfl rfl rfl rfl rfl).mono ?_
            rintro e w3 ⟨h3, c3, hv3, V3, cp3, rfl, S3, o3, E3⟩
            simp at E3
            generalize incV n 0 0 = r0 at *
            generalize vGone (CE.evl 12) 15 = r1 at *
            generalize (curVec (CE.evl 12) r0 1 15).sum = r2 at *
            generalize curNew r0 = r3 at *
            generalize ofVal (curTaxable (CE.evl 12) r0 1 15) 1 = r5 at *
            generalize curTaxable (CE.evl 12) r0 1 15 = r4 at *
            generalize (curVec (CE.evl 12) r0 1 15).length = r6 at *
            go_upto_region 13 with fail
            clear q0 q1 q2 q3 q4 q5 q6 q7
            replace E3 := E3.alloc (.cells #[.int .i64 r0, .int .i64 r1, .int .i64 r2, .int .i64 r3, .int .i64 r4, .int .i64 r5, .slice V3 r6 cp3] 51)
            simp at E3
            obtain ⟨W3, hW3⟩ : ∃ W3 : World, W3 = w3.alloc (.cells #[.int .i64 r0, .int .i64 r1, .int .i64 r2, .int .i64 r3, .int .i64 r4, .int .i64 r5, .slice V3 r6 cp3] 51) := ⟨_, rfl⟩
            rw [← hW3] at E3
            rw [← hW3]
            clear hW3
            have z0 := E3.cell 5 rfl 0 rfl
            have z1 := E3.cell 5 rfl 1 rfl
            have z2 := E3.cell 5 rfl 2 rfl
            have z3 := E3.cell 5 rfl 3 rfl
            have z4 := E3.cell 5 rfl 4 rfl
            have z5 := E3.cell 5 rfl 5 rfl
            have z6 := E3.cell 5 rfl 6 rfl
            have q7 := E3.cell 2 rfl 7 rfl
            have E5 := (((E3.drop 5).drop 4).drop 3).drop 2
            simp at E5
            go_wp2
            go_roundw
            case rel => exact ⟨10, by omega, by go_num, E5⟩
            case measure => simp [intOf]
        · obtain rfl : j = 10 := by omega
          go_wp2_with fail
          refine (Vnt.left S E 0 rfl HSum.out).mono ?_
          rintro e w4 ⟨rfl, E4⟩
          try simp at E4
          go_wp2_with fail
          refine (wakes15 _).mono ?_
          rintro e w5 ⟨rfl, B5⟩
          go_wp2
          go_ret
          exact ⟨rfl, (E4.below B5).low⟩
end Go.Proofs.Ytpigoegjoagbnaa
end
namespace Go.Proofs.Ytpigoegjoagbnaa.currentErrors
open Go.ChangeShapes Go.WideShapes Go.ChangeAt Go.RowKit Go.Sl
set_option linter.unusedVariables false
set_option maxRecDepth 100000
set_option maxHeartbeats 2000000
theorem lifted (os : Os) (started : os.Started) (H : Type) (enc : TypeId × Value → H) :
    ReturnsInHanded {} Try.checked os 9 .any (Rows.currentErrorsSpec.pre6 enc Try.prog Try.f9 Rows.currentErrorsRow.domain false) (Rows.currentErrorsSpec.post enc Try.prog Try.f9 false true false false) := by
  refine returnsInHanded_of_change_sized (C := Try.checked) Lift.own started (by kernel_rfl) Try.func9
    (ChangeSpec.witness6 (enc := enc) (C := Try.checked) false ⟨#[], #[.int .i64 0], []⟩ 8 (by kernel_rfl) (by kernel_rfl) (by kernel_rfl) (by kernel_rfl)) ?_
  intro W base args ds gs before hval0 hW hcnd hsz0 _
  have hval : ∀ (j : Nat) t v, Try.f9.params[j]? = some t → args[j]? = some v → Value.okWide Try.prog W .any base t v := hval0
  have hW' := hW
  obtain ⟨p, q, hA0, hV, rfl, hfz, hnd⟩ := hW
  have hA : DataW.TrodAll enc Try.prog W 0 (fun _ => true) true Try.f9.params.toList args.toList ds p := hA0
  rw [Try.params9] at hA hval
  obtain ⟨v0, vs0, d0, ds0, p0, q0, hargs, rfl, rfl, h0, r0⟩ := trodAll_cons hA
  obtain ⟨rfl, rfl, rfl⟩ := trodAll_nil r0
  obtain rfl : args = #[v0] := by cases args; simp_all
  obtain ⟨rfl, rfl⟩ := trodVars_none hV
  obtain ⟨a0, rfl, rfl, rfl, x0⟩ := open_int Try.underlying3 (hval 0 3 v0 rfl rfl) h0
  have w0 := I64.of_wf x0
  clear hA0 hval0 hsz0
  refine (curErrors_calls a0 W).mono fun e W' ⟨he, bel⟩ => ?_
  subst he
  exact ⟨_, rfl, _, _, _, [], _, [], hW', trodAll_mk1 (shut_bool Try.underlying4 _), (trodAll_cons_mk (shut_int Try.underlying3 x0) trodAll_mk0), rfl, bel.frame _, fun h => by cases h⟩
theorem over : Rows.currentErrorsRow.holds Try.pinned (OpenSpec.ofChange Rows.currentErrorsSpec) :=
  OpenClaim.holds_of_wide 9 Try.f9 rfl rfl rfl rfl rfl rfl rfl ⟨rfl, rfl, rfl, rfl, rfl⟩ rfl rfl rfl rfl rfl (by kernel_rfl) Try.func9 (by kernel_rfl)
    (of_decide_eq_true (by kernel_rfl)) (by unfold Func.isWrapper; first | (rw [if_pos (by decide +kernel)]; kernel_rfl) | (rw [if_neg (by decide +kernel)]; exact ⟨rfl, rfl⟩))
    (fun os started H enc _ => lifted os started H enc)
end Go.Proofs.Ytpigoegjoagbnaa.currentErrors
namespace Go.Proofs.Ytpigoegjoagbnaa
theorem currentErrors_holds : Rows.CurrentErrorsSaid := currentErrors.over
#print axioms currentErrors_holds
end Go.Proofs.Ytpigoegjoagbnaa
