/- The law BucketOver: for every input it returns true, and its arguments read behind the call as before it. No conditions. -/
import Derived.Test.YtdcfojohgcmpcaaPk5
import Derived.OwnWalk
section
/- What law10.BucketOver asks of registers, plain. No program is named here. -/
namespace Go.Sl.BO
theorem a1 : moveE [] 1 1 100000000000 = 0 ∧ moveR [] 1 1 100000000000 = [⟨1, 1, 100000000000⟩] := by decide
variable {n : Int}
theorem a2 (h1 : 1 ≤ n) (h2 : n ≤ 1000) : moveE [⟨1, 1, 100000000000⟩] 1 1 n = 6 ∧ moveR [⟨1, 1, 100000000000⟩] 1 1 n = [⟨1, 1, 100000000000⟩] := by
  have e : moveE [⟨1, 1, 100000000000⟩] 1 1 n = 6 := by
    simp [moveE, getB, find, rkey, bucketOk, money, sumC]; omega
  exact ⟨e, by unfold moveR; rw [e]; rfl⟩
theorem a3 (h1 : 1 ≤ n) (h2 : n ≤ 1000) : moveE [⟨1, 1, 100000000000⟩] 2 2 n = 6 ∧ moveR [⟨1, 1, 100000000000⟩] 2 2 n = [⟨1, 1, 100000000000⟩] := by
  have e : moveE [⟨1, 1, 100000000000⟩] 2 2 n = 6 := by
    simp [moveE, getB, find, rkey, bucketOk, money, sumC]; omega
  exact ⟨e, by unfold moveR; rw [e]; rfl⟩
theorem a4 (h1 : 1 ≤ n) (h2 : n ≤ 1000) : moveE [⟨1, 1, 100000000000⟩] 2 2 (-n) = 0 ∧ moveR [⟨1, 1, 100000000000⟩] 2 2 (-n) = [⟨1, 1, 100000000000⟩, ⟨2, 2, -n⟩] := by
  have g : getB [⟨1, 1, 100000000000⟩] 2 2 + -n = -n := by simp [getB, find, rkey]
  have s : setB [⟨1, 1, 100000000000⟩] 2 2 (-n) = [⟨1, 1, 100000000000⟩, ⟨2, 2, -n⟩] := by
    unfold setB; rw [if_neg (by omega)]; rfl
  have e : moveE [⟨1, 1, 100000000000⟩] 2 2 (-n) = 0 := by
    unfold moveE; rw [g, s]; simp [bucketOk, money, sumC]; omega
  exact ⟨e, by unfold moveR; rw [e, g, s]; rfl⟩
theorem a5 (h1 : 1 ≤ n) (h2 : n ≤ 1000) : moveE [⟨1, 1, 100000000000⟩, ⟨2, 2, -n⟩] 3 3 n = 0 ∧ moveR [⟨1, 1, 100000000000⟩, ⟨2, 2, -n⟩] 3 3 n = [⟨1, 1, 100000000000⟩, ⟨2, 2, -n⟩, ⟨3, 3, n⟩] := by
  have g : getB [⟨1, 1, 100000000000⟩, ⟨2, 2, -n⟩] 3 3 + n = n := by simp [getB, find, rkey]
  have s : setB [⟨1, 1, 100000000000⟩, ⟨2, 2, -n⟩] 3 3 n = [⟨1, 1, 100000000000⟩, ⟨2, 2, -n⟩, ⟨3, 3, n⟩] := by
    unfold setB; rw [if_neg (by omega)]; rfl
  have e : moveE [⟨1, 1, 100000000000⟩, ⟨2, 2, -n⟩] 3 3 n = 0 := by
    unfold moveE; rw [g, s]; simp [bucketOk, money, sumC]; omega
  exact ⟨e, by unfold moveR; rw [e, g, s]; rfl⟩
theorem a6 : sumC [⟨1, 1, 100000000000⟩, ⟨2, 2, -n⟩, ⟨3, 3, n⟩] = 100000000000 := by simp [sumC]; omega
theorem a7 (h1 : 1 ≤ n) (h2 : n ≤ 1000) : reclE [⟨1, 1, 100000000000⟩, ⟨2, 2, -n⟩, ⟨3, 3, n⟩] 3 3 1 1 n = 6 ∧ reclR [⟨1, 1, 100000000000⟩, ⟨2, 2, -n⟩, ⟨3, 3, n⟩] 3 3 1 1 n = [⟨1, 1, 100000000000⟩, ⟨2, 2, -n⟩, ⟨3, 3, n⟩] := by
  have e : reclE [⟨1, 1, 100000000000⟩, ⟨2, 2, -n⟩, ⟨3, 3, n⟩] 3 3 1 1 n = 6 := by
    simp [reclE, getB, find, rkey, bucketOk, money]; omega
  exact ⟨e, by unfold reclR; rw [e]; rfl⟩
theorem a8 (h1 : 1 ≤ n) : reclE [⟨1, 1, 100000000000⟩, ⟨2, 2, -n⟩, ⟨3, 3, n⟩] 1 1 3 3 100000000000 = 6 ∧ reclR [⟨1, 1, 100000000000⟩, ⟨2, 2, -n⟩, ⟨3, 3, n⟩] 1 1 3 3 100000000000 = [⟨1, 1, 100000000000⟩, ⟨2, 2, -n⟩, ⟨3, 3, n⟩] := by
  have e : reclE [⟨1, 1, 100000000000⟩, ⟨2, 2, -n⟩, ⟨3, 3, n⟩] 1 1 3 3 100000000000 = 6 := by
    simp [reclE, getB, find, rkey, bucketOk, money]; omega
  exact ⟨e, by unfold reclR; rw [e]; rfl⟩
theorem a9 (h1 : 1 ≤ n) (h2 : n ≤ 1000) : reclE [⟨1, 1, 100000000000⟩, ⟨2, 2, -n⟩, ⟨3, 3, n⟩] 1 1 2 2 100000000000 = 0 ∧ reclR [⟨1, 1, 100000000000⟩, ⟨2, 2, -n⟩, ⟨3, 3, n⟩] 1 1 2 2 100000000000 = [⟨2, 2, -n + 100000000000⟩, ⟨3, 3, n⟩] := by
  have g : getB [⟨1, 1, 100000000000⟩, ⟨2, 2, -n⟩, ⟨3, 3, n⟩] 1 1 - 100000000000 = 0 := by simp [getB, find, rkey]
  have g2 : getB [⟨1, 1, 100000000000⟩, ⟨2, 2, -n⟩, ⟨3, 3, n⟩] 2 2 = -n := by simp [getB, find, rkey]
  have s : setB [⟨1, 1, 100000000000⟩, ⟨2, 2, -n⟩, ⟨3, 3, n⟩] 1 1 0 = [⟨2, 2, -n⟩, ⟨3, 3, n⟩] := rfl
  have s2 : setB [⟨2, 2, -n⟩, ⟨3, 3, n⟩] 2 2 (-n + 100000000000) = [⟨2, 2, -n + 100000000000⟩, ⟨3, 3, n⟩] := by
    unfold setB; rw [if_neg (by omega)]; rfl
  have e : reclE [⟨1, 1, 100000000000⟩, ⟨2, 2, -n⟩, ⟨3, 3, n⟩] 1 1 2 2 100000000000 = 0 := by
    unfold reclE; rw [g, g2, s, s2]; simp [bucketOk, money]; omega
  exact ⟨e, by unfold reclR; rw [e, g, g2, s, s2]; rfl⟩
theorem b1 : getB [⟨2, 2, -n + 100000000000⟩, ⟨3, 3, n⟩] 2 2 = -n + 100000000000 := rfl
theorem b2 : getB [⟨2, 2, -n + 100000000000⟩, ⟨3, 3, n⟩] 1 1 = 0 := rfl
theorem b3 : sumC [⟨2, 2, -n + 100000000000⟩, ⟨3, 3, n⟩] = 100000000000 := by simp [sumC]; omega
end Go.Sl.BO
end
section
/- The walk of law10.BucketOver. -/
namespace Go.Proofs.Ytdcfojohgcmpcaa
open Go.RowKit Go.Sl
set_option maxHeartbeats 4000000
set_option maxRecDepth 100000
theorem bucketOver_calls (n0 : Int) (w : World) :
    Calls Try.prog 10 #[.int .i64 n0] w fun e w' => e = .returned (.bool true) ∧ Below w.heap.size w w' := by
  have E0 := Env.start w
  have l1 := within_lo n0 (n := 1000) (by omega)
  have l2 := within_hi n0 (n := 1000) (by omega)
  have WA := fun W => within_calls n0 1000 W (by omega) (by omega)
  generalize within n0 1000 = r at *
  obtain ⟨n, hn⟩ : ∃ n, n = 1 + r := ⟨_, rfl⟩
  have g1 : 1 ≤ n := by omega
  have g2 : n ≤ 1000 := by omega
  have hr : r = n - 1 := by omega
  subst hr
  have t9 : ((-n + 100000000000) == (100000000000 - n)) = true := by simp; omega
  clear hn
  have hx : 1 + (n - 1) = n := by omega
  go_enter Try.func10, Try.ntmps10
  go_wp2_with fail
  refine (Regi.new E0).mono ?_
  rintro e w1 ⟨h1, c, rfl, S1, E1⟩
  try simp at E1
  go_wp2_with fail
  refine (WA _).mono ?_
  rintro e w' ⟨rfl, rfl⟩
  go_wp2_with fail
  refine (Regi.move S1 E1 0 rfl _ _ _ BO.a1).mono ?_
  rintro e w2 ⟨h2, rfl, S2, E2⟩
  simp only [List.set_cons_zero] at E2
  go_wp2_with fail
  refine (Regi.move S2 E2 0 rfl _ _ _ (BO.a2 g1 g2)).mono ?_
  rintro e w3 ⟨h3, rfl, S3, E3⟩
  simp only [List.set_cons_zero] at E3
  go_wp2_with fail
  refine (Regi.move S3 E3 0 rfl _ _ _ (BO.a3 g1 g2)).mono ?_
  rintro e w4 ⟨h4, rfl, S4, E4⟩
  simp only [List.set_cons_zero] at E4
  go_wp2_with fail
  refine (Regi.move S4 E4 0 rfl _ _ _ (BO.a4 g1 g2)).mono ?_
  rintro e w5 ⟨h5, rfl, S5, E5⟩
  simp only [List.set_cons_zero] at E5
  go_wp2_with fail
  refine (Regi.move S5 E5 0 rfl _ _ _ (BO.a5 g1 g2)).mono ?_
  rintro e w6 ⟨h6, rfl, S6, E6⟩
  simp only [List.set_cons_zero] at E6
  go_wp2_with fail
  refine (Regi.total S6 E6 0 rfl BO.a6).mono ?_
  rintro e w7 ⟨rfl, E7⟩
  go_wp2_with fail
  refine (Regi.recl S6 E7 0 rfl _ _ _ _ _ (BO.a7 g1 g2)).mono ?_
  rintro e w8 ⟨h8, rfl, S8, E8⟩
  simp only [List.set_cons_zero] at E8
  go_wp2_with fail
  refine (Regi.recl S8 E8 0 rfl _ _ _ _ _ (BO.a8 g1)).mono ?_
  rintro e w9 ⟨h9, rfl, S9, E9⟩
  simp only [List.set_cons_zero] at E9
  go_wp2_with fail
  refine (Regi.recl S9 E9 0 rfl _ _ _ _ _ (BO.a9 g1 g2)).mono ?_
  rintro e w10 ⟨h10, rfl, S10, E10⟩
  simp only [List.set_cons_zero] at E10
  go_wp2_with fail
  refine (Regi.get S10 E10 0 rfl _ _ BO.b1).mono ?_
  rintro e w11 ⟨rfl, E11⟩
  go_wp2_with fail
  refine (Regi.get S10 E11 0 rfl _ _ BO.b2).mono ?_
  rintro e w12 ⟨rfl, E12⟩
  go_wp2_with fail
  refine (Regi.total S10 E12 0 rfl BO.b3).mono ?_
  rintro e w13 ⟨rfl, E13⟩
  go_wp2_with fail
  refine (Regi.rows S10 E13 0 rfl 2 rfl).mono ?_
  rintro e w14 ⟨C, cap, hr, rfl, oR, E14⟩
  go_wp2_with fail
  refine (wakes10 _).mono ?_
  rintro e w15 ⟨rfl, B15⟩
  go_wp2
  go_ret
  exact ⟨rfl, (E14.below B15).low⟩
end Go.Proofs.Ytdcfojohgcmpcaa
end
namespace Go.Proofs.Ytdcfojohgcmpcaa.bucketOver
open Go.ChangeShapes Go.WideShapes Go.ChangeAt Go.RowKit Go.Sl
set_option linter.unusedVariables false
set_option maxRecDepth 100000
theorem lifted (os : Os) (started : os.Started) (H : Type) (enc : TypeId × Value → H) :
    ReturnsInHanded {} Try.checked os 10 .any (Rows.bucketOverSpec.pre6 enc Try.prog Try.f10 Rows.bucketOverRow.domain false) (Rows.bucketOverSpec.post enc Try.prog Try.f10 false true false false) := by
  refine returnsInHanded_of_change_sized (C := Try.checked) Lift.own started (by kernel_rfl) Try.func10
    (ChangeSpec.witness6 (enc := enc) (C := Try.checked) false ⟨#[], #[.int .i64 0], []⟩ 8 (by kernel_rfl) (by kernel_rfl) (by kernel_rfl) (by kernel_rfl)) ?_
  intro W base args ds gs before hval0 hW hcnd hsz0 _
  have hval : ∀ (j : Nat) t v, Try.f10.params[j]? = some t → args[j]? = some v → Value.okWide Try.prog W .any base t v := hval0
  have hW' := hW
  obtain ⟨p, q, hA0, hV, rfl, hfz, hnd⟩ := hW
  have hA : DataW.TrodAll enc Try.prog W 0 (fun _ => true) true Try.f10.params.toList args.toList ds p := hA0
  rw [Try.params10] at hA hval
  obtain ⟨v0, vs0, d0, ds0, p0, q0, hargs, rfl, rfl, h0, r0⟩ := trodAll_cons hA
  obtain ⟨rfl, rfl, rfl⟩ := trodAll_nil r0
  obtain rfl : args = #[v0] := by cases args; simp_all
  obtain ⟨rfl, rfl⟩ := trodVars_none hV
  obtain ⟨a0, rfl, rfl, rfl, x0⟩ := open_int Try.underlying3 (hval 0 3 v0 rfl rfl) h0
  have w0 := I64.of_wf x0
  clear hA0 hval0 hsz0
  refine (bucketOver_calls a0 W).mono fun e W' ⟨he, bel⟩ => ?_
  subst he
  exact ⟨_, rfl, _, _, _, [], _, [], hW', trodAll_mk1 (shut_bool Try.underlying4 _), (trodAll_cons_mk (shut_int Try.underlying3 x0) trodAll_mk0), rfl, bel.frame _, fun h => by cases h⟩
theorem over : Rows.bucketOverRow.holds Try.pinned (OpenSpec.ofChange Rows.bucketOverSpec) :=
  OpenClaim.holds_of_wide 10 Try.f10 rfl rfl rfl rfl rfl rfl rfl ⟨rfl, rfl, rfl, rfl, rfl⟩ rfl rfl rfl rfl rfl (by kernel_rfl) Try.func10 (by kernel_rfl)
    (of_decide_eq_true (by kernel_rfl)) (by unfold Func.isWrapper; first | (rw [if_pos (by decide +kernel)]; kernel_rfl) | (rw [if_neg (by decide +kernel)]; exact ⟨rfl, rfl⟩))
    (fun os started H enc _ => lifted os started H enc)
end Go.Proofs.Ytdcfojohgcmpcaa.bucketOver
namespace Go.Proofs.Ytdcfojohgcmpcaa
theorem bucketOver_holds : Rows.BucketOverSaid := bucketOver.over
#print axioms bucketOver_holds
end Go.Proofs.Ytdcfojohgcmpcaa
