/- The law BucketLimits: for every input it returns true, and its arguments read behind the call as before it. No conditions. -/
import Derived.Test.YtdcfojohgcmpcaaPk5
import Derived.OwnWalk
section
/- The walk of law10.BucketLimits. -/
namespace Go.Sl.BL
/-- The register behind j moves. -/
def L (j : Nat) : List STri := (List.range j).foldl (fun l (i : Nat) => moveR l (1 + Int.tmod i 9) i 5) []
theorem L_succ (j : Nat) : L (j + 1) = moveR (L j) (1 + Int.tmod j 9) j 5 := by unfold L; rw [List.range_succ, List.foldl_append]; rfl
theorem aL : ∀ j : Nat, j < 12 → moveE (L j) (1 + Int.tmod j 9) j 5 = 0 := by decide +kernel
theorem l1 : moveE (L 12) 1 50 1 = 5 := by decide +kernel
theorem l2 : ∀ k : Nat, k < 12 → reclE (L 12) (1 + Int.tmod k 9) k 1 50 2 = 5 := by decide +kernel
theorem l3 : ∀ k : Nat, k < 12 → reclE (L 12) (1 + Int.tmod k 9) k 1 50 5 = 0 := by decide +kernel
def M (k : Nat) : List STri := reclR (L 12) (1 + Int.tmod k 9) k 1 50 5
theorem m1 : ∀ k : Nat, k < 12 → getB (M k) 1 50 = 5 := by decide +kernel
theorem m2 : ∀ k : Nat, k < 12 → getB (M k) (1 + Int.tmod k 9) k = 0 := by decide +kernel
theorem m3 : ∀ k : Nat, k < 12 → (M k).length = 12 := by decide +kernel
theorem m4 : ∀ k : Nat, k < 12 → moveE (M k) 2 60 1 = 5 := by decide +kernel
theorem m5 : ∀ k : Nat, k < 12 → moveE (M k) 1 50 (-5) = 0 := by decide +kernel
def N (k : Nat) : List STri := moveR (M k) 1 50 (-5)
theorem n1 : ∀ k : Nat, k < 12 → moveE (N k) 2 60 1 = 0 := by decide +kernel
def O (k : Nat) : List STri := moveR (N k) 2 60 1
theorem no {l : List STri} {c y n : Int} (h : (bucketOk c y && money n) = false) : moveE l c y n = 1 ∧ moveR l c y n = l := by
  have e : moveE l c y n = 1 := by unfold moveE; rw [if_pos h]
  exact ⟨e, by unfold moveR; rw [e]; rfl⟩
theorem no2 (l : List STri) : reclE l 1 1 1 1 1 = 1 := by unfold reclE; rw [if_pos (by decide)]
theorem stay {l : List STri} {c y n q : Int} (h : moveE l c y n = q) (h0 : q ≠ 0) : moveE l c y n = q ∧ moveR l c y n = l := ⟨h, by unfold moveR; rw [if_neg (by rw [h]; exact h0)]⟩
theorem stay2 {l : List STri} {c y c2 y2 n q : Int} (h : reclE l c y c2 y2 n = q) (h0 : q ≠ 0) : reclE l c y c2 y2 n = q ∧ reclR l c y c2 y2 n = l := ⟨h, by unfold reclR; rw [if_neg (by rw [h]; exact h0)]⟩
end Go.Sl.BL
namespace Go.Proofs.Ytdcfojohgcmpcaa
open Go.RowKit Go.Sl
set_option maxHeartbeats 4000000
set_option maxRecDepth 100000
theorem bucketLimits_calls (n0 : Int) (w : World) :
    Calls Try.prog 13 #[.int .i64 n0] w fun e w' => e = .returned (.bool true) ∧ Below w.heap.size w w' := by
  have E0 := Env.start w
  have l1 := within_lo n0 (n := 12) (by omega)
  have l2 := within_hi n0 (n := 12) (by omega)
  have WA := fun W => within_calls n0 12 W (by omega) (by omega)
  obtain ⟨k, hk⟩ : ∃ k : Nat, within n0 12 = k := ⟨(within n0 12).toNat, by omega⟩
  rw [hk] at WA
  have hk12 : k < 12 := by omega
  clear l1 l2 hk
  go_enter Try.func13, Try.ntmps13
  go_wp2_with fail
  refine (Regi.new E0).mono ?_
  rintro e w1 ⟨h1, c, rfl, S1, E1⟩
  try simp at E1
  go_wp2_with fail
  go_loopw [4] (fun i wr => ∃ (j : Nat) (h' : Hp), j ≤ 12 ∧ i = .int .i64 j ∧ Regi h' c (BL.L j) ∧ Env w wr [h']) (fun i _ => 12 - (intOf i).toNat)
  case atStart => exact ⟨0, _, by omega, rfl, S1, E1⟩
  case round =>
    clear S1 E1
    obtain ⟨j, h', hj, rfl, S, E⟩ := hrel
    by_cases hlt : j < 12
    · have i1 : (0 : Int) ≤ (j : Int) := by omega
      have i2 : (j : Int) < 12 := by omega
      have HA := BL.aL j hlt
      have HB := (BL.L_succ j).symm
      go_wp2_with fail
      refine (Regi.move S E 0 rfl _ _ _ ⟨HA, HB⟩).mono ?_
      rintro e w2 ⟨h2, rfl, S2, E2⟩
      simp only [List.set_cons_zero] at E2
      go_wp2
      go_roundw
      case rel => exact ⟨j + 1, _, by omega, by go_num, S2, E2⟩
      case measure => simp [intOf]; omega
    · obtain rfl : j = 12 := by omega
      have c2 := BL.stay2 (BL.l2 k hk12) (by decide)
      have c3 := BL.l3 k hk12
      have c4 := BL.m1 k hk12
      have c5 := BL.m2 k hk12
      have c6 := BL.m3 k hk12
      have c7 := BL.stay (BL.m4 k hk12) (by decide)
      have c8 := BL.m5 k hk12
      have c9 := BL.n1 k hk12
      go_wp2_with fail
      refine (WA _).mono ?_
      rintro e w' ⟨rfl, rfl⟩
      go_wp2_with fail
      refine (Regi.move S E 0 rfl _ _ _ (BL.stay BL.l1 (by decide))).mono ?_
      rintro e w2 ⟨h2, rfl, S2, E2⟩
      simp only [List.set_cons_zero] at E2
      go_wp2_with fail
      refine (Regi.recl S2 E2 0 rfl _ _ _ _ _ c2).mono ?_
      rintro e w3 ⟨h3, rfl, S3, E3⟩
      simp only [List.set_cons_zero] at E3
      go_wp2_with fail
      refine (Regi.recl (ys := BL.M k) S3 E3 0 rfl _ _ _ _ _ ⟨c3, rfl⟩).mono ?_
      rintro e w4 ⟨h4, rfl, S4, E4⟩
      simp only [List.set_cons_zero] at E4
      go_wp2_with fail
      refine (Regi.get S4 E4 0 rfl _ _ c4).mono ?_
      rintro e w5 ⟨rfl, E5⟩
      go_wp2_with fail
      refine (Regi.get S4 E5 0 rfl _ _ c5).mono ?_
      rintro e w6 ⟨rfl, E6⟩
      go_wp2_with fail
      refine (Regi.rows S4 E6 0 rfl 12 c6).mono ?_
      rintro e w7 ⟨C, cap, hr, rfl, oR, E7⟩
      go_wp2_with fail
      refine (Regi.move S4 E7 0 rfl _ _ _ c7).mono ?_
      rintro e w8 ⟨h8, rfl, S8, E8⟩
      simp at E8
      go_wp2_with fail
      refine (Regi.move (ys := BL.N k) S8 E8 0 rfl _ _ _ ⟨c8, rfl⟩).mono ?_
      rintro e w9 ⟨h9, rfl, S9, E9⟩
      simp at E9
      go_wp2_with fail
      refine (Regi.move (ys := BL.O k) S9 E9 0 rfl _ _ _ ⟨c9, rfl⟩).mono ?_
      rintro e w10 ⟨h10, rfl, S10, E10⟩
      simp at E10
      go_wp2_with fail
      refine (Regi.move S10 E10 0 rfl _ _ _ (BL.no (by decide))).mono ?_
      rintro e w11 ⟨h11, rfl, S11, E11⟩
      simp at E11
      go_wp2_with fail
      refine (Regi.move S11 E11 0 rfl _ _ _ (BL.no (by decide))).mono ?_
      rintro e w12 ⟨h12, rfl, S12, E12⟩
      simp at E12
      go_wp2_with fail
      refine (Regi.move S12 E12 0 rfl _ _ _ (BL.no (by decide))).mono ?_
      rintro e w13 ⟨h13, rfl, S13, E13⟩
      simp at E13
      go_wp2_with fail
      refine (Regi.recl S13 E13 0 rfl _ _ _ _ _ (BL.stay2 (BL.no2 _) (by decide))).mono ?_
      rintro e w14 ⟨h14, rfl, S14, E14⟩
      simp at E14
      go_wp2_with fail
      refine (wakes10 _).mono ?_
      rintro e w15 ⟨rfl, B15⟩
      go_wp2
      go_ret
      exact ⟨rfl, (E14.below B15).low⟩
end Go.Proofs.Ytdcfojohgcmpcaa
end
namespace Go.Proofs.Ytdcfojohgcmpcaa.bucketLimits
open Go.ChangeShapes Go.WideShapes Go.ChangeAt Go.RowKit Go.Sl
set_option linter.unusedVariables false
set_option maxRecDepth 100000
theorem lifted (os : Os) (started : os.Started) (H : Type) (enc : TypeId × Value → H) :
    ReturnsInHanded {} Try.checked os 13 .any (Rows.bucketLimitsSpec.pre6 enc Try.prog Try.f13 Rows.bucketLimitsRow.domain false) (Rows.bucketLimitsSpec.post enc Try.prog Try.f13 false true false false) := by
  refine returnsInHanded_of_change_sized (C := Try.checked) Lift.own started (by kernel_rfl) Try.func13
    (ChangeSpec.witness6 (enc := enc) (C := Try.checked) false ⟨#[], #[.int .i64 0], []⟩ 8 (by kernel_rfl) (by kernel_rfl) (by kernel_rfl) (by kernel_rfl)) ?_
  intro W base args ds gs before hval0 hW hcnd hsz0 _
  have hval : ∀ (j : Nat) t v, Try.f13.params[j]? = some t → args[j]? = some v → Value.okWide Try.prog W .any base t v := hval0
  have hW' := hW
  obtain ⟨p, q, hA0, hV, rfl, hfz, hnd⟩ := hW
  have hA : DataW.TrodAll enc Try.prog W 0 (fun _ => true) true Try.f13.params.toList args.toList ds p := hA0
  rw [Try.params13] at hA hval
  obtain ⟨v0, vs0, d0, ds0, p0, q0, hargs, rfl, rfl, h0, r0⟩ := trodAll_cons hA
  obtain ⟨rfl, rfl, rfl⟩ := trodAll_nil r0
  obtain rfl : args = #[v0] := by cases args; simp_all
  obtain ⟨rfl, rfl⟩ := trodVars_none hV
  obtain ⟨a0, rfl, rfl, rfl, x0⟩ := open_int Try.underlying3 (hval 0 3 v0 rfl rfl) h0
  have w0 := I64.of_wf x0
  clear hA0 hval0 hsz0
  refine (bucketLimits_calls a0 W).mono fun e W' ⟨he, bel⟩ => ?_
  subst he
  exact ⟨_, rfl, _, _, _, [], _, [], hW', trodAll_mk1 (shut_bool Try.underlying4 _), (trodAll_cons_mk (shut_int Try.underlying3 x0) trodAll_mk0), rfl, bel.frame _, fun h => by cases h⟩
theorem over : Rows.bucketLimitsRow.holds Try.pinned (OpenSpec.ofChange Rows.bucketLimitsSpec) :=
  OpenClaim.holds_of_wide 13 Try.f13 rfl rfl rfl rfl rfl rfl rfl ⟨rfl, rfl, rfl, rfl, rfl⟩ rfl rfl rfl rfl rfl (by kernel_rfl) Try.func13 (by kernel_rfl)
    (of_decide_eq_true (by kernel_rfl)) (by unfold Func.isWrapper; first | (rw [if_pos (by decide +kernel)]; kernel_rfl) | (rw [if_neg (by decide +kernel)]; exact ⟨rfl, rfl⟩))
    (fun os started H enc _ => lifted os started H enc)
end Go.Proofs.Ytdcfojohgcmpcaa.bucketLimits
namespace Go.Proofs.Ytdcfojohgcmpcaa
theorem bucketLimits_holds : Rows.BucketLimitsSaid := bucketLimits.over
#print axioms bucketLimits_holds
end Go.Proofs.Ytdcfojohgcmpcaa
