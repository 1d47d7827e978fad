/- The law VintageYears: for every input it returns true, and its arguments read behind the call as before it. No conditions. -/
import Derived.Test.YtpigoegjoagbnaaPk5
import Derived.OwnWalk
import Derived.Deep.DeepCutAuto
section
/- The walk of law13.VintageYears. -/
namespace Go.Sl.VY
variable {l : List STri}
theorem again (y : Int) : vGone (vExp l y) y = 0 ∧ vExp (vExp l y) y = vExp l y := by
  unfold vGone vExp
  have h1 : (l.filter fun x => !overV y x).filter (overV y) = [] := List.filter_eq_nil_iff.2 fun x hx h => by
    have := (List.mem_filter.1 hx).2
    rw [h] at this; cases this
  have h2 : (l.filter fun x => !overV y x).filter (fun x => !overV y x) = l.filter fun x => !overV y x := List.filter_eq_self.2 fun x hx => (List.mem_filter.1 hx).2
  rw [h1, h2]; exact ⟨rfl, rfl⟩
theorem later (y : Int) : vGone l (y + 1) = vGone l y + vGone (vExp l y) (y + 1) ∧ vExp (vExp l y) (y + 1) = vExp l (y + 1) := by
  unfold vGone vExp
  constructor
  · induction l with
    | nil => rfl
    | cons x l ih =>
      have e : ∀ m, sumC (x :: m) = x.c + sumC m := fun m => by simp [sumC]
      simp only [List.filter_cons]
      by_cases h1 : overV y x = true
      · have h2 : overV (y + 1) x = true := by simp [overV] at h1 ⊢; omega
        simp only [h1, h2, if_true, Bool.not_true, Bool.false_eq_true, if_false, e]
        omega
      · have h1' : overV y x = false := by simpa using h1
        by_cases h2 : overV (y + 1) x = true
        · simp only [h1', h2, if_true, Bool.not_false, Bool.false_eq_true, if_false, List.filter_cons, e]
          omega
        · have h2' : overV (y + 1) x = false := by simpa using h2
          simp only [h1', h2', if_true, Bool.not_false, Bool.false_eq_true, if_false, List.filter_cons]
          exact ih
  · rw [List.filter_filter]
    congr 1; funext x
    cases h1 : overV y x with
    | false => simp
    | true =>
      have h2 : overV (y + 1) x = true := by simp [overV] at h1 ⊢; omega
      simp [h2]
theorem gone_pos (g : GoodV l) (y : Int) : 0 ≤ vGone l y ∧ vGone l y ≤ 100000000000 := by
  have h1 := sumC_pos (l := l.filter (overV y)) fun x hx => g.lo x (List.mem_filter.1 hx).1
  have h2 := sumC_pos (l := l.filter fun x => !overV y x) fun x hx => g.lo x (List.mem_filter.1 hx).1
  have h3 := sumC_filter (l := l) (overV y)
  have h4 := g.mon
  unfold vGone; omega
end Go.Sl.VY
namespace Go.Proofs.Ytpigoegjoagbnaa
open Go.RowKit Go.Sl
set_option maxHeartbeats 4000000
set_option maxRecDepth 100000
theorem vintYears_calls (A : Option Addr) (ca : Nat) (xs : List SVA) (y0 : Int) (k1 : Hp) (w : World) (hs1 : k1.sub w) (s1 : Sl kVA k1 A ca xs) :
    Calls Try.prog 3 #[.slice A xs.length ca, .int .i64 y0] w fun e w' => e = .returned (.bool true) ∧ Below w.heap.size w w' := by
  have E0 := Env.start w
  have m1 := s1.small
  have WY := fun W => within_calls y0 12 W (by omega) (by omega)
  have y1 := within_lo y0 (n := 12) (by omega)
  have y2 := within_hi y0 (n := 12) (by omega)
  generalize within y0 12 = y at *
  go_enter Try.func3, Try.ntmps3
  go_wp2_with fail
  refine (Vnt.new E0).mono ?_
  rintro e w1 ⟨h1, c1, rfl, S1, E1⟩
  try simp at E1
  go_wp2_with fail
  refine (Vnt.new E1).mono ?_
  rintro e w2 ⟨h2, c2, rfl, S2, E2⟩
  try simp at E2
  go_wp2_with fail
  go_loopw [7] (fun i wr => ∃ (j : Nat) (g1 g2 : Hp) (l : List STri), j ≤ 10 ∧ j ≤ xs.length ∧ i = .int .i64 j ∧ Vnt g1 c1 l ∧ Vnt g2 c2 l ∧ Env w wr [g1, g2]) (fun i _ => 10 - (intOf i).toNat)
  case atStart => exact ⟨0, _, _, _, by omega, by omega, rfl, S1, S2, E2⟩
  case round =>
    clear S1 S2 E1 E2
    obtain ⟨j, g1, g2, l, hj, hjl, rfl, S, P, E⟩ := hrel
    by_cases hlt : j < xs.length ∧ j < 10
    · obtain ⟨hlt, hl2⟩ := hlt
      obtain ⟨x, hx⟩ := some_of_lt hlt
      obtain ⟨ba, oa, U, cu, rfl, su, d0, d1, d2, d3, d4⟩ := s1.va (hs1.of_below E.low) hx
      have i1 : (0 : Int) ≤ (j : Int) := by omega
      have i2 : (j : Int) < (xs.length : Int) := by omega
      have i3 : (j : Int) < 10 := by omega
      have b1 := within_lo (x.f 1) (n := 6) (by omega)
      have b2 := within_hi (x.f 1) (n := 6) (by omega)
      have b3 := within_lo (x.f 2) (n := 5) (by omega)
      have b4 := within_hi (x.f 2) (n := 5) (by omega)
      have b5 := within_lo (x.f 3) (n := 5000) (by omega)
      have b6 := within_hi (x.f 3) (n := 5000) (by omega)
      have W1 := fun W => within_calls (x.f 1) 6 W (by omega) (by omega)
      have W2 := fun W => within_calls (x.f 2) 5 W (by omega) (by omega)
      have W3 := fun W => within_calls (x.f 3) 5000 W (by omega) (by omega)
      generalize within (x.f 1) 6 = o at *
      generalize within (x.f 2) 5 = v2 at *
      generalize within (x.f 3) 5000 = v3 at *
      go_wp2_with fail
      refine (W1 _).mono ?_
      rintro e w' ⟨rfl, rfl⟩
      go_upto_region 8 with fail
      go_quiet (first | (go_at_call 13; (first | (with_reducible exact quiet_one (W2 _)) | (with_reducible exact quiet_more (W2 _)) | (with_reducible exact quiet_one (W3 _)) | (with_reducible exact quiet_more (W3 _)))))
      have EQ := E.drewN nq
      go_wp2_with fail
      refine (Vnt.add S EQ 0 rfl _ _ _ ⟨rfl, rfl⟩).mono ?_
      rintro e w3 ⟨h3, rfl, S3, E3⟩
      simp only [List.set_cons_zero] at E3
      go_wp2_with fail
      refine (Vnt.add P E3 1 rfl _ _ _ ⟨rfl, rfl⟩).mono ?_
      rintro e w4 ⟨h4, rfl, S4, E4⟩
      simp at E4
      go_wp2
      go_roundw
      case rel => exact ⟨j + 1, h3, h4, _, by omega, by omega, by go_num, S3, S4, E4⟩
      case measure => simp [intOf]; omega
    · rcases (show xs.length ≤ j ∨ (j < xs.length ∧ j = 10) by omega) with g | ⟨g, rfl⟩
      all_goals
        have gS := S.good
        have lS := gS.len
        have hpos := VY.gone_pos gS y
        have AG := Lib.hid (VY.again (l := l) y)
        have LA := Lib.hid (VY.later (l := l) y)
        have hpos2 := VY.gone_pos (gS.exp y) (y + 1)
        have hwy : IntKind.i64.wrap (y + 1) = y + 1 := by rw [IntKind.wrap_i64]; omega
        go_wp2_with fail
        refine (WY _).mono ?_
        rintro e w' ⟨rfl, rfl⟩
        go_wp2_with fail
        refine (Vnt.rows S E 0 rfl l.length rfl).mono ?_
        rintro e w3 ⟨C3, n3, h3, rfl, o3, E3⟩
        simp at E3
        have E4 := E3.new (Upd.of_below (Below.refl _ _))
        simp at E4
        have lm := o3.small
        clear E E3
        go_wp2_with fail
        go_loopw [11, 12, 71] (fun s v i wr => ∃ (q cap m : Nat) (C : Option Addr) (h4 : Hp) (fs : List STri), q ≤ l.length ∧ i = .int .i64 q ∧ s = .int .i64 (sumC ((l.take q).filter (overV y))) ∧ v = .slice C m cap ∧ Hid (fs.length = m) ∧ m ≤ q ∧ Hid (fs = (l.take q).filter fun x => !overV y x) ∧ Ow kTri h4 C cap fs ∧ Env w wr [g1, g2, h3, h4]) (fun _ _ i _ => l.length - (intOf i).toNat)
        case atStart => exact ⟨0, 0, 0, none, Hp.none, [], by omega, rfl, rfl, rfl, rfl, by omega, by unfold Hid; simp, Ow.none _ _, E4⟩
        case round =>
          clear E4
          obtain ⟨q, cap, m, C, h4, fs, hq, rfl, rfl, rfl, hm, hmq, hfs, o4, E⟩ := hrel
          by_cases hlq : q < l.length
          · obtain ⟨x, hx⟩ := some_of_lt hlq
            obtain ⟨bx, ox, rfl, d0, d1, d2⟩ := o3.sl.tri (E.sub 2 rfl) hx
            have i1 : (0 : Int) ≤ (q : Int) := by omega
            have i2 : (q : Int) < (l.length : Int) := by omega
            have hsp : 0 ≤ sumC ((l.take q).filter (overV y)) ∧ sumC ((l.take q).filter (overV y)) ≤ 100000000000 := by
              have h1 := sumC_pos (l := (l.take q).filter (overV y)) fun z hz => gS.lo z (List.mem_of_mem_take (List.mem_filter.1 hz).1)
              have h2 := sumC_pos (l := (l.take q).filter fun z => !overV y z) fun z hz => gS.lo z (List.mem_of_mem_take (List.mem_filter.1 hz).1)
              have h3 := sumC_filter (l := l.take q) (overV y)
              have h4 := sumC_take_le gS.lo q
              have h5 := gS.mon
              omega
            have hxc : 1 ≤ x.c ∧ x.c ≤ 100000000000 := by
              have h1 := gS.lo x (List.mem_of_getElem? hx.out)
              have h2 := le_sumC gS.lo (List.mem_of_getElem? hx.out)
              have h3 := gS.mon
              omega
            have ht : ∀ p : STri → Bool, (l.take (q + 1)).filter p = (l.take q).filter p ++ (if p x then [x] else []) := fun p => by
              rw [take_next hx, List.filter_append]; cases h : p x <;> simp [h]
            by_cases hb : x.b < y
            · have t1 : decide (x.b < y) = true := by simpa using hb
              have ho : overV y x = true := t1
              have hs1 : Hid (sumC ((l.take (q + 1)).filter (overV y)) = sumC ((l.take q).filter (overV y)) + x.c) := by
                unfold Hid; rw [ht, ho, if_pos rfl, sumC_snoc]
              have hs2 : Hid (fs = (l.take (q + 1)).filter fun z => !overV y z) := by unfold Hid; rw [ht, ho]; simpa using hfs.out
              clear hb ho ht
              generalize sumC ((l.take q).filter (overV y)) = sq at *
              go_wp2
              go_roundw
              case rel => exact ⟨q + 1, cap, m, C, h4, fs, by omega, by go_num, by rw [hs1.out], rfl, hm, by omega, hs2, o4, E.alloc' _⟩
              case measure => simp [intOf]; omega
            · have t1 : decide (x.b < y) = false := by simpa using hb
              have ho : overV y x = false := t1
              have hs1 : Hid (sumC ((l.take (q + 1)).filter (overV y)) = sumC ((l.take q).filter (overV y))) := by
                unfold Hid; rw [ht, ho]; simp
              have hs2 : Hid (fs ++ [x] = (l.take (q + 1)).filter fun z => !overV y z) := by unfold Hid; rw [ht, ho, hfs.out]; rfl
              clear hb ho ht
              generalize sumC ((l.take q).filter (overV y)) = sq at *
              go_wp2_with (at_builtin; refine wpList_eapp 3 x Try.underlying31 info_vint (by repeat (first | (with_reducible exact E) | (with_reducible apply Env.drew) | (with_reducible apply Env.drewN) | (with_reducible apply Env.alloc'))) (by rfl) o4 m hm.out (by rfl) (by rfl) rfl 1 (by rfl) (by rfl) (heap_new_at (by simp)) (by rfl) (by omega) (by omega) ?_; intro C5 n5 w5 h5 o5 E5)
              simp at E5
              go_roundw
              case rel => exact ⟨q + 1, n5, m + 1, C5, h5, fs ++ [x], by omega, by go_num, by rw [hs1.out], rfl, by unfold Hid; rw [List.length_append, hm.out]; rfl, by omega, hs2, o5, E5⟩
              case measure => simp [intOf]; omega
          · obtain rfl : q = l.length := by omega
            rw [List.take_length]
            have hfs' : Hid (fs = vExp l y) := by
              unfold Hid; rw [hfs.out, List.take_length]; rfl
            have hgg : Hid (sumC (l.filter (overV y)) = vGone l y) := rfl
            rw [hgg.out]
            clear hfs hgg
            generalize hG : vGone l y = G at *
            generalize hX : vExp l y = X at *
            generalize hG1 : vGone X (y + 1) = G1 at *
            have E3 := E.drop 2
            simp at E3
            clear E
            go_wp2_with fail
            refine (Vnt.exp S E3 0 rfl y ⟨hG, hX⟩).mono ?_
            rintro e w4 ⟨k1, rfl, S4, E4⟩
            simp only [List.set_cons_zero] at E4
            go_wp2_with fail
            refine (Vnt.rows S4 E4 0 rfl X.length rfl).mono ?_
            rintro e w5 ⟨C5, n5, h5, rfl, o5, E5⟩
            simp at E5
            have SB := same_vint C5 C n5 cap X fs h5 h4 w5 (E5.sub 3 rfl) (E5.sub 2 rfl) o5.sl o4.sl
            rw [eqB_t hfs'.out.symm, hm.out] at SB
            go_wp2_with fail
            refine SB.mono ?_
            rintro e w6 ⟨rfl, b6⟩
            have E6 := ((E5.below b6).drop 3).drop 2
            simp at E6
            clear SB E3 E4 E5
            go_wp2_with fail
            refine (Vnt.exp S4 E6 0 rfl y AG.out).mono ?_
            rintro e w7 ⟨k2, rfl, S7, E7⟩
            simp only [List.set_cons_zero] at E7
            go_wp2_with fail
            refine (Vnt.exp P E7 1 rfl (y + 1) ⟨LA.out.1, LA.out.2.symm⟩).mono ?_
            rintro e w8 ⟨k3, rfl, S8, E8⟩
            simp at E8
            have tge : decide (G ≤ G + G1) = true := by simp; omega
            have hwg : IntKind.i64.wrap (G + G1) = G + G1 := by rw [IntKind.wrap_i64]; omega
            go_wp2_with fail
            refine (Vnt.exp S7 E8 0 rfl (y + 1) ⟨hG1, rfl⟩).mono ?_
            rintro e w9 ⟨k4, rfl, S9, E9⟩
            simp only [List.set_cons_zero] at E9
            generalize vExp X (y + 1) = Y at *
            go_wp2_with fail
            refine (Vnt.rows S9 E9 0 rfl Y.length rfl).mono ?_
            rintro e w10 ⟨C10, n10, h10, rfl, o10, E10⟩
            simp at E10
            go_wp2_with fail
            refine (Vnt.rows S8 E10 1 rfl Y.length rfl).mono ?_
            rintro e w11 ⟨C11, n11, h11, rfl, o11, E11⟩
            simp at E11
            have SB := same_vint C10 C11 n10 n11 Y Y h10 h11 w11 (E11.sub 2 rfl) (E11.sub 3 rfl) o10.sl o11.sl
            rw [eqB_t rfl] at SB
            go_wp2_with fail
            refine SB.mono ?_
            rintro e w12 ⟨rfl, b12⟩
            go_wp2_with fail
            refine (wakes13 _).mono ?_
            rintro e w13 ⟨rfl, B13⟩
            go_wp2
            go_ret
            exact ⟨rfl, ((E11.below b12).below B13).low⟩
end Go.Proofs.Ytpigoegjoagbnaa
end
namespace Go.Proofs.Ytpigoegjoagbnaa.vintageYears
open Go.ChangeShapes Go.WideShapes Go.ChangeAt Go.RowKit Go.Sl
set_option linter.unusedVariables false
set_option maxRecDepth 100000
set_option maxHeartbeats 2000000
theorem lifted (os : Os) (started : os.Started) (H : Type) (enc : TypeId × Value → H) :
    ReturnsInHanded {} Try.checked os 3 .any (Rows.vintageYearsSpec.pre6 enc Try.prog Try.f3 Rows.vintageYearsRow.domain false) (Rows.vintageYearsSpec.post enc Try.prog Try.f3 false true false false) := by
  refine returnsInHanded_of_change_sized (C := Try.checked) Lift.own started (by kernel_rfl) Try.func3
    (ChangeSpec.witness6 (enc := enc) (C := Try.checked) false ⟨#[], #[.slice none 0 0, .int .i64 0], []⟩ 8 (by kernel_rfl) (by kernel_rfl) (by kernel_rfl) (by kernel_rfl)) ?_
  intro W base args ds gs before hval0 hW hcnd hsz0 _
  have hval : ∀ (j : Nat) t v, Try.f3.params[j]? = some t → args[j]? = some v → Value.okWide Try.prog W .any base t v := hval0
  have hW' := hW
  obtain ⟨p, q, hA0, hV, rfl, hfz, hnd⟩ := hW
  have hA : DataW.TrodAll enc Try.prog W 0 (fun _ => true) true Try.f3.params.toList args.toList ds p := hA0
  rw [Try.params3] at hA hval
  obtain ⟨v0, vs0, d0, ds0, p0, q0, hargs, rfl, rfl, h0, r0⟩ := trodAll_cons hA
  obtain ⟨v1, vs1, d1, ds1, p1, q1, rfl, rfl, rfl, h1, r1⟩ := trodAll_cons r0
  obtain ⟨rfl, rfl, rfl⟩ := trodAll_nil r1
  obtain rfl : args = #[v0, v1] := by cases args; simp_all
  obtain ⟨rfl, rfl⟩ := trodVars_none hV
  have k0 := h0
  have lt0 : ∀ x ∈ p0, x.block < W.heap.size := by obtain ⟨m, hm⟩ := k0; exact DataW.trod_lt m _ _ _ hm
  obtain ⟨a0_0, len0_0, cap0_0, rfl⟩ := okWide_slice Try.underlying22 (hval 0 22 v0 rfl rfl)
  obtain ⟨fuel0, hf0⟩ := h0
  obtain ⟨A0, c0, z0, hcs0, s0, w0⟩ := open_vacts Try.underlying22 Try.underlying28 (by kernel_rfl) (fun i hi => match i, hi with | 0, _ => ⟨_, rfl, rfl, Try.underlying3, by kernel_rfl⟩ | 1, _ => ⟨_, rfl, rfl, Try.underlying3, by kernel_rfl⟩ | 2, _ => ⟨_, rfl, rfl, Try.underlying3, by kernel_rfl⟩ | 3, _ => ⟨_, rfl, rfl, Try.underlying3, by kernel_rfl⟩ | k + 4, h => absurd h (by omega)) ⟨_, rfl, rfl, rfl, by kernel_rfl⟩ Try.underlying26 Try.underlying3 (by kernel_rfl) hf0
  simp [Value.cells] at hcs0
  obtain ⟨rfl, rfl, rfl⟩ := hcs0
  obtain ⟨a1, rfl, rfl, rfl, x1⟩ := open_int Try.underlying3 (hval 1 3 v1 rfl rfl) h1
  have w1 := I64.of_wf x1
  clear hA0 hval0 hsz0
  refine (vintYears_calls a0_0 cap0_0 z0 a1 (Hp.all W) W (Hp.all_sub W) s0).mono fun e W' ⟨he, bel⟩ => ?_
  subst he
  exact ⟨_, rfl, _, _, _, [], _, [], hW', trodAll_mk1 (shut_bool Try.underlying4 _), (trodAll_cons_mk (Below.trod Lift.laidOut (by kernel_rfl) (of_decide_eq_true (by kernel_rfl)) k0 bel lt0) (trodAll_cons_mk (shut_int Try.underlying3 x1) trodAll_mk0)), rfl, bel.frame _, fun h => by cases h⟩
theorem over : Rows.vintageYearsRow.holds Try.pinned (OpenSpec.ofChange Rows.vintageYearsSpec) :=
  OpenClaim.holds_of_wide 3 Try.f3 rfl rfl rfl rfl rfl rfl rfl ⟨rfl, rfl, rfl, rfl, rfl⟩ rfl rfl rfl rfl rfl (by kernel_rfl) Try.func3 (by kernel_rfl)
    (of_decide_eq_true (by kernel_rfl)) (by unfold Func.isWrapper; first | (rw [if_pos (by decide +kernel)]; kernel_rfl) | (rw [if_neg (by decide +kernel)]; exact ⟨rfl, rfl⟩))
    (fun os started H enc _ => lifted os started H enc)
end Go.Proofs.Ytpigoegjoagbnaa.vintageYears
namespace Go.Proofs.Ytpigoegjoagbnaa
theorem vintageYears_holds : Rows.VintageYearsSaid := vintageYears.over
#print axioms vintageYears_holds
end Go.Proofs.Ytpigoegjoagbnaa
