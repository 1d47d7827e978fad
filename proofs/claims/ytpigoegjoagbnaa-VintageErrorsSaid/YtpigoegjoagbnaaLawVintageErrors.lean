/- The law VintageErrors: for every input it returns true, and its arguments read behind the call as before it. No conditions. -/
import Derived.Test.YtpigoegjoagbnaaPk4
import Derived.OwnWalk
section
/- The walk of law13.VintageErrors. -/
namespace Go.Sl.VE
theorem add_front {l : List STri} (g : GoodV l) {o e n : Int} (hx : ∀ y ∈ l, ordPair.lt (e, o) (vkey y) = true) (h1 : vOk o e = true) (h2 : 1 ≤ n) (h3 : n ≤ 1000) (h4 : sumC l + n ≤ 100000000000) (h5 : l.length < 12) :
    vAddE l o e n = 0 ∧ vAdd l o e n = ⟨o, e, n⟩ :: l := by
  have ha : l.any (isV o e) = false := by
    rw [List.any_eq_false]; intro y hy h
    have := hx y hy
    rw [isV_key.1 h, ordPair.irrefl] at this; cases this
  have hs := sumC_pos g.lo
  have hE : vAddE l o e n = 0 := by
    unfold vAddE
    rw [if_neg (by simp [h1, h2, money]; omega), if_neg (by simp [money]; omega), if_neg (by simp [ha]), if_neg (by omega)]
  refine ⟨hE, ?_⟩
  unfold vAdd
  rw [if_pos hE, getV_any ha, Int.zero_add]
  have f1 : l.filter (fun y => ordPair.lt (vkey y) (vkey ⟨o, e, n⟩)) = [] := List.filter_eq_nil_iff.2 fun y hy h => by
    have h1 := hx y hy
    have h2 : ordPair.lt (vkey y) (e, o) = true := h
    rw [ordPair.asymm h1] at h2
    cases h2
  have f2 : l.filter (fun y => ordPair.lt (vkey ⟨o, e, n⟩) (vkey y)) = l := List.filter_eq_self.2 fun y hy => hx y hy
  unfold putV put
  rw [f1, f2]; rfl
/-- The losses behind j of them. -/
def L (n : Int) (j : Nat) : List STri := (List.range j).reverse.map fun (i : Nat) => ⟨i, 50 - i, n⟩
theorem L_succ (n : Int) (j : Nat) : L n (j + 1) = ⟨j, 50 - j, n⟩ :: L n j := by unfold L; rw [List.range_succ, List.reverse_append]; rfl
theorem L_sum (n : Int) : ∀ j : Nat, sumC (L n j) = j * n
  | 0 => by simp [L, sumC]
  | j + 1 => by
    rw [L_succ]
    have e : ∀ (x : STri) m, sumC (x :: m) = x.c + sumC m := fun x m => by simp [sumC]
    rw [e, L_sum n j]; simp [Int.add_mul]; omega
theorem L_len (n : Int) (j : Nat) : (L n j).length = j := by simp [L]
theorem aL {n : Int} (h1 : 1 ≤ n) (h2 : n ≤ 1000) {j : Nat} (hj : j < 12) (g : GoodV (L n j)) : vAddE (L n j) j (50 - j) n = 0 ∧ vAdd (L n j) j (50 - j) n = L n (j + 1) := by
  rw [L_succ]
  refine add_front g (fun y hy => ?_) (by simp [vOk]; omega) h1 h2 ?_ (by rw [L_len]; exact hj)
  · unfold L at hy
    obtain ⟨i, hi, rfl⟩ := List.mem_map.1 hy
    have := List.mem_range.1 (List.mem_reverse.1 hi)
    simp [ordPair, vkey]; omega
  · rw [L_sum]
    have : (j : Int) * n ≤ 12 * 1000 := Int.mul_le_mul (by omega) h2 (by omega) (by omega)
    omega
theorem no {l : List STri} {o e n : Int} (h : (vOk o e && (decide (1 ≤ n) && money n)) = false) : vAddE l o e n = 1 ∧ vAdd l o e n = l := by
  have hE : vAddE l o e n = 1 := by unfold vAddE; rw [if_pos h]
  exact ⟨hE, by unfold vAdd; rw [if_neg (by rw [hE]; decide)]⟩
/-- The twelve, rising, one of them one more. -/
def K (n : Int) : List STri := [⟨11, 39, n⟩, ⟨10, 40, n⟩, ⟨9, 41, n⟩, ⟨8, 42, n⟩, ⟨7, 43, n⟩, ⟨6, 44, n⟩, ⟨5, 45, n⟩, ⟨4, 46, n⟩, ⟨3, 47, n + 1⟩, ⟨2, 48, n⟩, ⟨1, 49, n⟩, ⟨0, 50, n⟩]
theorem L12 (n : Int) : L n 12 = [⟨11, 39, n⟩, ⟨10, 40, n⟩, ⟨9, 41, n⟩, ⟨8, 42, n⟩, ⟨7, 43, n⟩, ⟨6, 44, n⟩, ⟨5, 45, n⟩, ⟨4, 46, n⟩, ⟨3, 47, n⟩, ⟨2, 48, n⟩, ⟨1, 49, n⟩, ⟨0, 50, n⟩] := rfl
variable {n : Int}
theorem b1 (h1 : 1 ≤ n) (h2 : n ≤ 1000) : vAddE (L n 12) 30 60 1 = 5 ∧ vAdd (L n 12) 30 60 1 = L n 12 := by
  have hE : vAddE (L n 12) 30 60 1 = 5 := by
    unfold vAddE
    rw [if_neg (by simp [vOk, money]), if_neg (by rw [L_sum]; simp [money]; omega), if_neg (by rw [L12]; simp [isV]), if_pos (by rw [L_len]; omega)]
  exact ⟨hE, by unfold vAdd; rw [if_neg (by rw [hE]; decide)]⟩
theorem b2 (h1 : 1 ≤ n) (h2 : n ≤ 1000) : vAddE (L n 12) 3 47 1 = 0 ∧ vAdd (L n 12) 3 47 1 = K n := by
  have hE : vAddE (L n 12) 3 47 1 = 0 := by
    unfold vAddE
    rw [if_neg (by simp [vOk, money]), if_neg (by rw [L_sum]; simp [money]; omega), if_pos (by rw [L12]; simp [isV])]
  refine ⟨hE, ?_⟩
  unfold vAdd; rw [if_pos hE]
  rfl
theorem K_sum : sumC (K n) = 12 * n + 1 := by simp [K, sumC]; omega
theorem b3 (h1 : 1 ≤ n) (h2 : n ≤ 1000) : vAddE (K n) 3 47 100000000000 = 6 ∧ vAdd (K n) 3 47 100000000000 = K n := by
  have hE : vAddE (K n) 3 47 100000000000 = 6 := by
    unfold vAddE
    rw [if_neg (by simp [vOk, money]), if_pos (by rw [K_sum]; simp [money]; omega)]
  exact ⟨hE, by unfold vAdd; rw [if_neg (by rw [hE]; decide)]⟩
theorem b4 : vTakeE (K n) [0, 0, 0] = 1 ∧ vTake (K n) [0, 0, 0] = K n := by
  have hE : vTakeE (K n) [0, 0, 0] = 1 := by unfold vTakeE; rw [if_neg (by rintro ⟨h, _⟩; cases h)]
  exact ⟨hE, by unfold vTake; rw [if_neg (by rw [hE]; decide)]⟩
theorem b5 : vGone (K n) 39 = 0 ∧ vExp (K n) 39 = K n := ⟨rfl, rfl⟩
theorem b6 : vGone (K n) 40 = n ∧ vExp (K n) 40 = (K n).drop 1 := ⟨by show sumC [⟨11, 39, n⟩] = n; simp [sumC], rfl⟩
theorem Kat : ∀ i : Nat, i < 12 → ∃ v, (K n)[i]? = some ⟨11 - i, 39 + i, v⟩
  | 0, _ => ⟨_, rfl⟩ | 1, _ => ⟨_, rfl⟩ | 2, _ => ⟨_, rfl⟩ | 3, _ => ⟨_, rfl⟩ | 4, _ => ⟨_, rfl⟩ | 5, _ => ⟨_, rfl⟩ | 6, _ => ⟨_, rfl⟩ | 7, _ => ⟨_, rfl⟩ | 8, _ => ⟨_, rfl⟩ | 9, _ => ⟨_, rfl⟩ | 10, _ => ⟨_, rfl⟩ | 11, _ => ⟨_, rfl⟩
  | i + 12, h => absurd h (by omega)
end Go.Sl.VE
namespace Go.Proofs.Ytpigoegjoagbnaa
open Go.RowKit Go.Sl
set_option maxHeartbeats 4000000
set_option maxRecDepth 100000
theorem vintErrors_calls (n0 : Int) (w : World) :
    Calls Try.prog 4 #[.int .i64 n0] w fun e w' => e = .returned (.bool true) ∧ Below w.heap.size w w' := by
  have E0 := Env.start w
  have l1 := within_lo n0 (n := 1000) (by omega)
  have l2 := within_hi n0 (n := 1000) (by omega)
  have WA := fun W => within_calls n0 1000 W (by omega) (by omega)
  generalize within n0 1000 = r at *
  obtain ⟨n, hn⟩ : ∃ n, n = 1 + r := ⟨_, rfl⟩
  have g1 : 1 ≤ n := by omega
  have g2 : n ≤ 1000 := by omega
  have hx : 1 + r = n := hn.symm
  clear hn l1 l2
  have hm : ∀ W, (Instr.makeSlice 26 (.int .i64 3) (.int .i64 3)).run Try.prog W = .ok (.slice (some ⟨W.heap.size, 0, none⟩) 3 3) (W.alloc (.cells (madeInts 3) 3)) := fun W => make_ints 3 (by omega) W
  go_enter Try.func4, Try.ntmps4
  go_wp2_with fail
  refine (Vnt.new E0).mono ?_
  rintro e w1 ⟨h1, c, rfl, S1, E1⟩
  try simp at E1
  go_wp2_with fail
  refine (WA _).mono ?_
  rintro e w' ⟨rfl, rfl⟩
  go_wp2_with fail
  refine (Vnt.add S1 E1 0 rfl _ _ _ (VE.no (by simp [vOk]))).mono ?_
  rintro e w2 ⟨h2, rfl, S2, E2⟩
  simp only [List.set_cons_zero] at E2
  go_wp2_with fail
  refine (Vnt.add S2 E2 0 rfl _ _ _ (VE.no (by simp [vOk]))).mono ?_
  rintro e w3 ⟨h3, rfl, S3, E3⟩
  simp only [List.set_cons_zero] at E3
  go_wp2_with fail
  refine (Vnt.add S3 E3 0 rfl _ _ _ (VE.no (by simp [vOk]))).mono ?_
  rintro e w4 ⟨h4, rfl, S4, E4⟩
  simp only [List.set_cons_zero] at E4
  go_wp2_with fail
  refine (Vnt.add S4 E4 0 rfl _ _ _ (VE.no (by simp [vOk]))).mono ?_
  rintro e w5 ⟨h5, rfl, S5, E5⟩
  simp only [List.set_cons_zero] at E5
  go_wp2_with fail
  refine (Vnt.add S5 E5 0 rfl _ _ _ (VE.no (by simp))).mono ?_
  rintro e w6 ⟨h6, rfl, S6, E6⟩
  simp only [List.set_cons_zero] at E6
  go_wp2_with fail
  refine (Vnt.add S6 E6 0 rfl _ _ _ (VE.no (by simp; omega))).mono ?_
  rintro e w7 ⟨h7, rfl, S7, E7⟩
  simp only [List.set_cons_zero] at E7
  go_wp2_with fail
  refine (Vnt.add S7 E7 0 rfl _ _ _ (VE.no (by decide))).mono ?_
  rintro e w8 ⟨h8, rfl, S8, E8⟩
  simp only [List.set_cons_zero] at E8
  go_upto_region 6 with fail
  clear E0 E1 E2 E3 E4 E5 E6 E7 S1 S2 S3 S4 S5 S6 S7
  have E9 := E8.alloc (.cells #[.int .i64 1, .int .i64 1, .int .i64 1, .int .i64 1, .int .i64 1, .int .i64 1, .int .i64 1] 29)
  simp at E9
  generalize w8.heap.size = bt at *
  go_loopw [38] (fun i wr => ∃ (k : Nat), k ≤ 7 ∧ i = .int .i64 k ∧ Env w wr [h8, Hp.box bt [.int .i64 1, .int .i64 1, .int .i64 1, .int .i64 1, .int .i64 1, .int .i64 1, .int .i64 1] 29]) (fun i _ => 7 - (intOf i).toNat)
  case atStart => exact ⟨0, by omega, rfl, E9⟩
  case round =>
    clear E8 E9
    obtain ⟨k, hk, rfl, E⟩ := hrel
    by_cases hlt : k < 7
    · have i1 : (0 : Int) ≤ (k : Int) := by omega
      have i2 : (k : Int) < 7 := by omega
      have hc : wr.cell? ⟨bt, k, none⟩ = some (.int .i64 1) := E.cell 1 rfl k (by
        obtain rfl | rfl | rfl | rfl | rfl | rfl | rfl : k = 0 ∨ k = 1 ∨ k = 2 ∨ k = 3 ∨ k = 4 ∨ k = 5 ∨ k = 6 := by omega
        all_goals rfl)
      go_wp2
      go_roundw
      case rel => exact ⟨k + 1, by omega, by go_num, E⟩
      case measure => simp [intOf]; omega
    · obtain rfl : k = 7 := by omega
      rw [show ((7 : Nat) : Int) = 7 from rfl]
      have E1 := E.drop 1
      simp at E1
      clear E
      go_wp2_with fail
      go_loopw [6] (fun i wr => ∃ (j : Nat) (h' : Hp), j ≤ 12 ∧ i = .int .i64 j ∧ Vnt h' c (VE.L n j) ∧ Env w wr [h']) (fun i _ => 12 - (intOf i).toNat)
      case atStart => exact ⟨0, _, by omega, rfl, S8, E1⟩
      case round =>
        clear S8 E1
        obtain ⟨j, h', hj, rfl, S, E⟩ := hrel
        by_cases hlt : j < 12
        · have i1 : (0 : Int) ≤ (j : Int) := by omega
          have i2 : (j : Int) < 12 := by omega
          have HA := VE.aL g1 g2 hlt S.good
          go_wp2_with fail
          refine (Vnt.add S E 0 rfl _ _ _ HA).mono ?_
          rintro e w2 ⟨h2, rfl, S2, E2⟩
          simp only [List.set_cons_zero] at E2
          go_wp2
          go_roundw
          case rel => exact ⟨j + 1, _, by omega, by go_num, S2, E2⟩
          case measure => simp [intOf]; omega
        · obtain rfl : j = 12 := by omega
          have hmul : n * 12 + 1 = 12 * n + 1 := by omega
          go_wp2_with fail
          refine (Vnt.add S E 0 rfl _ _ _ (VE.b1 g1 g2)).mono ?_
          rintro e w2 ⟨h2, rfl, S2, E2⟩
          simp only [List.set_cons_zero] at E2
          go_wp2_with fail
          refine (Vnt.add S2 E2 0 rfl _ _ _ (VE.b2 g1 g2)).mono ?_
          rintro e w3 ⟨h3, rfl, S3, E3⟩
          simp only [List.set_cons_zero] at E3
          go_wp2_with fail
          refine (Vnt.add S3 E3 0 rfl _ _ _ (VE.b3 g1 g2)).mono ?_
          rintro e w4 ⟨h4, rfl, S4, E4⟩
          simp only [List.set_cons_zero] at E4
          have hKs : sumC (VE.K n) = n * 12 + 1 := by rw [VE.K_sum]; omega
          clear hmul
          go_wp2_with fail
          refine (Vnt.left S4 E4 0 rfl hKs).mono ?_
          rintro e w5 ⟨rfl, E5⟩
          clear hKs
          go_wp2_with fail
          refine (Vnt.rows S4 E5 0 rfl 12 rfl).mono ?_
          rintro e w6 ⟨C6, n6, h6, rfl, o6, E6⟩
          simp at E6
          go_wp2_with fail
          go_loopw [84] (fun i wr => ∃ (q : Nat), q ≤ 12 ∧ i = .int .i64 q ∧ Env w wr [h4, h6]) (fun i _ => 12 - (intOf i).toNat)
          case atStart => exact ⟨0, by omega, rfl, E6⟩
          case round =>
            clear E2 E3 E4 E5 E6 E
            obtain ⟨q, hq, rfl, E⟩ := hrel
            by_cases hlt : q < 12
            · obtain ⟨v, hv⟩ := VE.Kat (n := n) q hlt
              obtain ⟨bx, ox, rfl, d1, d2, d3⟩ := o6.sl.tri (E.sub 1 rfl) (Lib.hid hv)
              have i1 : (0 : Int) ≤ (q : Int) := by omega
              have i2 : (q : Int) < 12 := by omega
              clear hv
              go_wp2
              go_roundw
              case rel => exact ⟨q + 1, by omega, by go_num, E.alloc' _⟩
              case measure => simp [intOf]; omega
            · obtain rfl : q = 12 := by omega
              have E1 := E.drop 1
              simp at E1
              clear E o6
              go_wp2_with fail
              have E2 := E1.alloc (.cells (madeInts 3) 3)
              simp at E2
              refine (Vnt.take S4 E2 0 rfl (E2.sub 1 rfl) (Ow.made (Hp.one_self _ _) (by unfold maxLen; omega)).sl (fun u hu => by simp at hu; subst hu; exact ⟨by omega, by omega⟩) 3 rfl VE.b4).mono ?_
              rintro e w7 ⟨h7, rfl, S7, E7⟩
              have E8 := E7.drop 1
              simp at E8
              go_wp2_with fail
              refine (Vnt.exp S7 E8 0 rfl _ VE.b5).mono ?_
              rintro e w9 ⟨h9, rfl, S9, E9⟩
              simp only [List.set_cons_zero] at E9
              go_wp2_with fail
              refine (Vnt.exp S9 E9 0 rfl _ VE.b6).mono ?_
              rintro e w10 ⟨h10, rfl, S10, E10⟩
              simp only [List.set_cons_zero] at E10
              go_wp2_with fail
              refine (Vnt.rows S10 E10 0 rfl 11 rfl).mono ?_
              rintro e w11 ⟨C11, n11, h11, rfl, o11, E11⟩
              go_wp2_with fail
              refine (wakes13 _).mono ?_
              rintro e w12 ⟨rfl, B12⟩
              go_wp2
              go_ret
              exact ⟨rfl, (E11.below B12).low⟩
end Go.Proofs.Ytpigoegjoagbnaa
end
namespace Go.Proofs.Ytpigoegjoagbnaa.vintageErrors
open Go.ChangeShapes Go.WideShapes Go.ChangeAt Go.RowKit Go.Sl
set_option linter.unusedVariables false
set_option maxRecDepth 100000
set_option maxHeartbeats 2000000
theorem lifted (os : Os) (started : os.Started) (H : Type) (enc : TypeId × Value → H) :
    ReturnsInHanded {} Try.checked os 4 .any (Rows.vintageErrorsSpec.pre6 enc Try.prog Try.f4 Rows.vintageErrorsRow.domain false) (Rows.vintageErrorsSpec.post enc Try.prog Try.f4 false true false false) := by
  refine returnsInHanded_of_change_sized (C := Try.checked) Lift.own started (by kernel_rfl) Try.func4
    (ChangeSpec.witness6 (enc := enc) (C := Try.checked) false ⟨#[], #[.int .i64 0], []⟩ 8 (by kernel_rfl) (by kernel_rfl) (by kernel_rfl) (by kernel_rfl)) ?_
  intro W base args ds gs before hval0 hW hcnd hsz0 _
  have hval : ∀ (j : Nat) t v, Try.f4.params[j]? = some t → args[j]? = some v → Value.okWide Try.prog W .any base t v := hval0
  have hW' := hW
  obtain ⟨p, q, hA0, hV, rfl, hfz, hnd⟩ := hW
  have hA : DataW.TrodAll enc Try.prog W 0 (fun _ => true) true Try.f4.params.toList args.toList ds p := hA0
  rw [Try.params4] at hA hval
  obtain ⟨v0, vs0, d0, ds0, p0, q0, hargs, rfl, rfl, h0, r0⟩ := trodAll_cons hA
  obtain ⟨rfl, rfl, rfl⟩ := trodAll_nil r0
  obtain rfl : args = #[v0] := by cases args; simp_all
  obtain ⟨rfl, rfl⟩ := trodVars_none hV
  obtain ⟨a0, rfl, rfl, rfl, x0⟩ := open_int Try.underlying3 (hval 0 3 v0 rfl rfl) h0
  have w0 := I64.of_wf x0
  clear hA0 hval0 hsz0
  refine (vintErrors_calls a0 W).mono fun e W' ⟨he, bel⟩ => ?_
  subst he
  exact ⟨_, rfl, _, _, _, [], _, [], hW', trodAll_mk1 (shut_bool Try.underlying4 _), (trodAll_cons_mk (shut_int Try.underlying3 x0) trodAll_mk0), rfl, bel.frame _, fun h => by cases h⟩
theorem over : Rows.vintageErrorsRow.holds Try.pinned (OpenSpec.ofChange Rows.vintageErrorsSpec) :=
  OpenClaim.holds_of_wide 4 Try.f4 rfl rfl rfl rfl rfl rfl rfl ⟨rfl, rfl, rfl, rfl, rfl⟩ rfl rfl rfl rfl rfl (by kernel_rfl) Try.func4 (by kernel_rfl)
    (of_decide_eq_true (by kernel_rfl)) (by unfold Func.isWrapper; first | (rw [if_pos (by decide +kernel)]; kernel_rfl) | (rw [if_neg (by decide +kernel)]; exact ⟨rfl, rfl⟩))
    (fun os started H enc _ => lifted os started H enc)
end Go.Proofs.Ytpigoegjoagbnaa.vintageErrors
namespace Go.Proofs.Ytpigoegjoagbnaa
theorem vintageErrors_holds : Rows.VintageErrorsSaid := vintageErrors.over
#print axioms vintageErrors_holds
end Go.Proofs.Ytpigoegjoagbnaa
