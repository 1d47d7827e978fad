/- The law CurrentTells: for every input it returns true, and its arguments read behind the call as before it. No conditions. -/
import Derived.Test.YtpigoegjoagbnaaPk7
import Derived.OwnWalk
import Derived.Deep.DeepCutAuto
set_option linter.all false
section
/- The walks of ref01.Floor, ref09.Income, Room, Vector, total. -/
namespace Go.Proofs.Ytpigoegjoagbnaa
open Go.RowKit Go.Sl
set_option maxHeartbeats 2000000
set_option maxRecDepth 100000
theorem refIncome_calls (b p m : Int) (w : World) : Calls Try.prog 58 #[.int .i64 b, .int .i64 p, .int .i64 m] w fun e w' => e = .returned (.tuple #[.int .i64 (incV b p m), .bool (incOk b p m)]) ∧ w = w' := by
  have M1 := fun W : World => refMoney_calls b W
  have M2 := fun W : World => refMoney_calls p W
  have M3 := fun W : World => refMoney_calls m W
  have M4 := fun W : World => refMoney_calls (b + p - m) W
  have HO : Hid (incOk b p m = (money b && (money p && (money m && money (b + p - m))))) := rfl
  have HV : Hid (incV b p m = if incOk b p m then b + p - m else 0) := rfl
  cases h1 : money b with
  | false =>
    have HO' : Hid (incOk b p m = false) := by unfold Hid; rw [HO.out, h1]; rfl
    rw [h1] at M1
    clear h1 HO
    go_enter Try.func58, Try.ntmps58
    go_wp2_with fail
    refine (M1 _).mono ?_
    rintro e w' ⟨rfl, rfl⟩
    go_wp2
    go_ret2
    exact ⟨by rw [HV.out, HO'.out]; rfl, rfl⟩
  | true =>
  have c1 : -100000000000 ≤ b ∧ b ≤ 100000000000 := by simpa [money] using h1
  cases h2 : money p with
  | false =>
    have HO' : Hid (incOk b p m = false) := by unfold Hid; rw [HO.out, h1, h2]; rfl
    rw [h1] at M1
    rw [h2] at M2
    clear h1 h2 HO
    go_enter Try.func58, Try.ntmps58
    go_wp2_with fail
    refine (M1 _).mono ?_
    rintro e w' ⟨rfl, rfl⟩
    go_wp2_with fail
    refine (M2 _).mono ?_
    rintro e w' ⟨rfl, rfl⟩
    go_wp2
    go_ret2
    exact ⟨by rw [HV.out, HO'.out]; rfl, rfl⟩
  | true =>
  have c2 : -100000000000 ≤ p ∧ p ≤ 100000000000 := by simpa [money] using h2
  cases h3 : money m with
  | false =>
    have HO' : Hid (incOk b p m = false) := by unfold Hid; rw [HO.out, h1, h2, h3]; rfl
    rw [h1] at M1
    rw [h2] at M2
    rw [h3] at M3
    clear h1 h2 h3 HO
    go_enter Try.func58, Try.ntmps58
    go_wp2_with fail
    refine (M1 _).mono ?_
    rintro e w' ⟨rfl, rfl⟩
    go_wp2_with fail
    refine (M2 _).mono ?_
    rintro e w' ⟨rfl, rfl⟩
    go_wp2_with fail
    refine (M3 _).mono ?_
    rintro e w' ⟨rfl, rfl⟩
    go_wp2
    go_ret2
    exact ⟨by rw [HV.out, HO'.out]; rfl, rfl⟩
  | true =>
  have c3 : -100000000000 ≤ m ∧ m ≤ 100000000000 := by simpa [money] using h3
  have HO' : Hid (incOk b p m = money (b + p - m)) := by unfold Hid; rw [HO.out, h1, h2, h3]; rfl
  have HV' : Hid (incV b p m = if money (b + p - m) then b + p - m else 0) := by unfold Hid; rw [HV.out, HO'.out]
  rw [h1] at M1
  rw [h2] at M2
  rw [h3] at M3
  clear h1 h2 h3 HO HV
  cases h4 : money (b + p - m) with
  | false =>
    have HO2 : Hid (incOk b p m = false) := by unfold Hid; rw [HO'.out, h4]
    have HV2 : Hid (incV b p m = 0) := by unfold Hid; rw [HV'.out, h4]; rfl
    rw [h4] at M4
    clear h4 HO' HV'
    go_enter Try.func58, Try.ntmps58
    go_wp2_with fail
    refine (M1 _).mono ?_
    rintro e w' ⟨rfl, rfl⟩
    go_wp2_with fail
    refine (M2 _).mono ?_
    rintro e w' ⟨rfl, rfl⟩
    go_wp2_with fail
    refine (M3 _).mono ?_
    rintro e w' ⟨rfl, rfl⟩
    go_wp2_with fail
    refine (M4 _).mono ?_
    rintro e w' ⟨rfl, rfl⟩
    go_wp2
    go_ret2
    exact ⟨by rw [HV2.out, HO2.out]; rfl, rfl⟩
  | true =>
    have HO2 : Hid (incOk b p m = true) := by unfold Hid; rw [HO'.out, h4]
    have HV2 : Hid (incV b p m = b + p - m) := by unfold Hid; rw [HV'.out, h4]; rfl
    rw [h4] at M4
    clear h4 HO' HV'
    go_enter Try.func58, Try.ntmps58
    go_wp2_with fail
    refine (M1 _).mono ?_
    rintro e w' ⟨rfl, rfl⟩
    go_wp2_with fail
    refine (M2 _).mono ?_
    rintro e w' ⟨rfl, rfl⟩
    go_wp2_with fail
    refine (M3 _).mono ?_
    rintro e w' ⟨rfl, rfl⟩
    go_wp2_with fail
    refine (M4 _).mono ?_
    rintro e w' ⟨rfl, rfl⟩
    go_wp2
    go_ret2
    exact ⟨by rw [HV2.out, HO2.out]; rfl, rfl⟩
theorem refFloor_calls (n r : Int) (w : World) : Calls Try.prog 70 #[.int .i64 n, .int .i64 r] w fun e w' => e = .returned (.tuple #[.int .i64 (floorV n r), .bool (floorOk n r)]) ∧ w = w' := by
  have MC := fun W : World => refMoney_calls n W
  have RC := fun W : World => refRight_calls r W
  have HM : money n = decide (-100000000000 ≤ n ∧ n ≤ 100000000000) := rfl
  have HR : rightRate r = decide (0 ≤ r ∧ r ≤ 1000000) := rfl
  by_cases hn : n < 0
  · have hO : floorOk n r = false := by simp [floorOk]; omega
    have hV : Hid (floorV n r = 0) := by unfold Hid floorV; rw [hO]; rfl
    have t1 : decide (n < 0) = true := by simpa using hn
    clear HM HR hn MC RC
    have hO := Lib.hid hO
    go_enter Try.func70, Try.ntmps70
    go_wp2
    go_ret2
    exact ⟨by rw [hV.out, hO.out]; rfl, rfl⟩
  have t1 : decide (n < 0) = false := by simpa using hn
  cases hm : money n with
  | false =>
    have hO : floorOk n r = false := by rw [hm] at HM; simp at HM; simp [floorOk]; omega
    have hV : Hid (floorV n r = 0) := by unfold Hid floorV; rw [hO]; rfl
    rw [hm] at MC
    clear HM HR hm RC
    have hO := Lib.hid hO
    go_enter Try.func70, Try.ntmps70
    go_wp2_with fail
    refine (MC _).mono ?_
    rintro e w' ⟨rfl, rfl⟩
    go_wp2
    go_ret2
    exact ⟨by rw [hV.out, hO.out]; rfl, rfl⟩
  | true =>
  have hmb : -100000000000 ≤ n ∧ n ≤ 100000000000 := by rw [hm] at HM; simpa using HM.symm
  rw [hm] at MC
  cases hr : rightRate r with
  | false =>
    have hO : floorOk n r = false := by rw [hr] at HR; simp at HR; simp [floorOk]; omega
    have hV : Hid (floorV n r = 0) := by unfold Hid floorV; rw [hO]; rfl
    rw [hr] at RC
    clear HM HR hm hr hn
    have hO := Lib.hid hO
    go_enter Try.func70, Try.ntmps70
    go_wp2_with fail
    refine (MC _).mono ?_
    rintro e w' ⟨rfl, rfl⟩
    go_wp2_with fail
    refine (RC _).mono ?_
    rintro e w' ⟨rfl, rfl⟩
    go_wp2
    go_ret2
    exact ⟨by rw [hV.out, hO.out]; rfl, rfl⟩
  | true =>
  have hrb : 0 ≤ r ∧ r ≤ 1000000 := by rw [hr] at HR; simpa using HR.symm
  have hO : floorOk n r = true := by simp [floorOk]; omega
  have hV : Hid (floorV n r = (n * r).tdiv 1000000) := by unfold Hid floorV; rw [hO]; rfl
  have hp : 0 ≤ n * r ∧ n * r ≤ 100000000000 * 1000000 := ⟨Int.mul_nonneg (by omega) hrb.1, Int.mul_le_mul hmb.2 hrb.2 hrb.1 (by omega)⟩
  have hwp : IntKind.i64.wrap (n * r) = n * r := by rw [IntKind.wrap_i64]; omega
  have hwq : IntKind.i64.wrap ((n * r).tdiv 1000000) = (n * r).tdiv 1000000 := by rw [IntKind.wrap_i64, Int.tdiv_eq_ediv_of_nonneg hp.1]; omega
  rw [hr] at RC
  clear HM HR hm hr hn
  have hO := Lib.hid hO
  go_enter Try.func70, Try.ntmps70
  go_wp2_with fail
  refine (MC _).mono ?_
  rintro e w' ⟨rfl, rfl⟩
  go_wp2_with fail
  refine (RC _).mono ?_
  rintro e w' ⟨rfl, rfl⟩
  go_wp2
  go_ret2
  exact ⟨by rw [hV.out, hO.out]; rfl, rfl⟩
theorem refRoom_calls (income most : Int) (w : World) (h : 0 < income) : Calls Try.prog 61 #[.int .i64 income, .int .i64 most] w fun e w' => e = .returned (.int .i64 (roomV income most)) ∧ w = w' := by
  have FC := fun W : World => refFloor_calls income most W
  have HR : Hid (roomV income most = floorV income most) := by unfold Hid roomV; rw [if_neg (by omega)]
  generalize floorV income most = v at *
  generalize floorOk income most = b at *
  go_enter Try.func61, Try.ntmps61
  go_wp2_with fail
  refine (FC _).mono ?_
  rintro e w' ⟨rfl, rfl⟩
  go_wp2
  go_ret
  exact ⟨by rw [HR.out]; rfl, rfl⟩
theorem refTotalI_calls (A : Option Addr) (ca : Nat) (us : List Int) (h : Hp) (w : World) (hs : h.sub w) (sx : Sl kInt h A ca us) (n : Nat) (hn : us.length = n) (hb : ∀ j, j ≤ us.length → -1000000000000000 ≤ (us.take j).sum ∧ (us.take j).sum ≤ 1000000000000000) :
    Calls Try.prog 62 #[.slice A n ca] w fun e w' => e = .returned (.int .i64 us.sum) ∧ Below w.heap.size w w' := by
  subst hn
  have m1 := sx.small
  have HB := Lib.hid hb
  clear hb
  go_enter Try.func62, Try.ntmps62
  go_wp2
  go_loopw [3, 8] (fun s i wr => ∃ (j : Nat), j ≤ us.length ∧ i = .int .i64 j ∧ s = .int .i64 (us.take j).sum ∧ Below w.heap.size w wr) (fun _ i _ => us.length - (intOf i).toNat)
  case atStart => exact ⟨0, by omega, rfl, by simp, Below.refl _ _⟩
  case round =>
    obtain ⟨j, hj, rfl, rfl, B⟩ := hrel
    by_cases hlt : j < us.length
    · obtain ⟨u, hu⟩ := some_of_lt hlt
      obtain ⟨b1, o1, rfl, c1⟩ := sx.int (hs.of_below B) hu
      have i1 : (0 : Int) ≤ (j : Int) := by omega
      have i2 : (j : Int) < (us.length : Int) := by omega
      have h1 := HB.out j hj
      have h2 := HB.out (j + 1) (by omega)
      have HS : Hid ((us.take (j + 1)).sum = (us.take j).sum + u) := by unfold Hid; rw [take_next hu, List.sum_append]; simp
      rw [HS.out] at h2
      generalize (us.take j).sum = s at *
      go_wp2
      go_roundw
      case rel => exact ⟨j + 1, by omega, by go_num, by rw [HS.out], B⟩
      case measure => simp [intOf]; omega
    · obtain rfl : j = us.length := by omega
      rw [List.take_length]
      go_wp2
      go_ret
      exact ⟨rfl, B⟩
theorem refVector_calls (A : Option Addr) (ca : Nat) (rows : List STri) (year room : Int) (h : Hp) (w : World) (hs : h.sub w) (sx : Sl kTri h A ca rows) (hl : rows.length ≤ 1000) (hc : ∀ x ∈ rows, 0 ≤ x.c) (L0 : 0 ≤ room) (L1 : room ≤ 1000000000000000) :
    Calls Try.prog 60 #[.slice A rows.length ca, .int .i64 year, .int .i64 room] w fun e w' => ∃ C cap h', e = .returned (.slice C rows.length cap) ∧ Ow kInt h' C cap (vecGo year rows room) ∧ Upd Hp.none h' w w' := by
  have m1 := sx.small
  have E0 := (Env.start w).new (Upd.of_below (Below.refl w.heap.size w))
  simp at E0
  have HC := Lib.hid hc
  clear hc
  go_enter Try.func60, Try.ntmps60
  go_wp2
  go_loopw [2, 7, 13] (fun v o i wr => ∃ (j cap : Nat) (C : Option Addr) (hv : Hp), j ≤ rows.length ∧ i = .int .i64 j ∧ v = .int .i64 (room - (vecGo year (rows.take j) room).sum) ∧ o = .slice C j cap ∧ Ow kInt hv C cap (vecGo year (rows.take j) room) ∧ Env w wr [hv]) (fun _ _ i _ => rows.length - (intOf i).toNat)
  case atStart => exact ⟨0, 0, none, Hp.none, by omega, rfl, by simp [vecGo], rfl, Ow.none _ _, E0⟩
  case round =>
    clear E0
    obtain ⟨j, cap, C, hv, hj, rfl, rfl, rfl, o, E⟩ := hrel
    by_cases hlt : j < rows.length
    · obtain ⟨x, hx⟩ := some_of_lt hlt
      obtain ⟨b1, o1, rfl, c1, c2, c3⟩ := sx.tri (hs.of_below E.low) hx
      have i1 : (0 : Int) ≤ (j : Int) := by omega
      have i2 : (j : Int) < (rows.length : Int) := by omega
      have hbd := vecGo_bd year (rows.take j) room (fun z hz => HC.out z (List.mem_of_mem_take hz)) L0
      have hxc := HC.out x (List.mem_of_getElem? hx.out)
      have HV : Hid (vecGo year (rows.take (j + 1)) room = vecGo year (rows.take j) room ++ [useOf year x (room - (vecGo year (rows.take j) room).sum)]) := by unfold Hid; rw [take_next hx, vecGo_snoc]
      have hub := useOf_bd (year := year) (x := x) (left := room - (vecGo year (rows.take j) room).sum) hxc (by omega)
      have hvl : Hid ((vecGo year (rows.take j) room).length = j) := by unfold Hid; rw [vecGo_len, List.length_take]; omega
      have HSm : Hid ((vecGo year (rows.take (j + 1)) room).sum = (vecGo year (rows.take j) room).sum + useOf year x (room - (vecGo year (rows.take j) room).sum)) := by unfold Hid; rw [HV.out, List.sum_append]; simp
      by_cases hy : year ≤ x.b
      · have ty : decide (year ≤ x.b) = true := by simpa using hy
        have HU : useOf year x (room - (vecGo year (rows.take j) room).sum) = min x.c (room - (vecGo year (rows.take j) room).sum) := by unfold useOf; rw [if_pos hy]
        rw [HU] at HV HSm hub
        have HRel : Hid (room - (vecGo year (rows.take (j + 1)) room).sum = room - (vecGo year (rows.take j) room).sum - min x.c (room - (vecGo year (rows.take j) room).sum)) := by unfold Hid; rw [HSm.out]; omega
        clear HU hy HSm
        generalize hS : (vecGo year (rows.take j) room).sum = S at *
        generalize vecGo year (rows.take j) room = V1 at *
        have hmx : max (room - S) 0 = room - S := by omega
        have hif : (if room - S ≤ 0 then (0 : Int) else room - S) = room - S := by omega
        obtain ⟨q, hq⟩ : ∃ q, min x.c (room - S) = q := ⟨_, rfl⟩
        rw [hq] at HV HRel hub
        have hwS : IntKind.i64.wrap (room - S - q) = room - S - q := by rw [IntKind.wrap_i64]; omega
        clear hS
        go_wp2_with (at_builtin; refine wpList_eapp 0 q Try.underlying26 info_int (by repeat (first | (with_reducible exact E) | (with_reducible apply Env.drew) | (with_reducible apply Env.drewN) | (with_reducible apply Env.alloc'))) (by rfl) o j hvl.out (by rfl) (by rfl) rfl 1 (by rfl) (by rfl) (heap_new_at (by simp)) (by rfl) (by omega) (by omega) ?_; intro C5 n5 w5 h5 o5 E5)
        simp only [List.set_cons_zero] at E5
        go_roundw
        case rel => exact ⟨j + 1, n5, C5, h5, by omega, by go_num, by rw [HRel.out], rfl, by rw [HV.out]; exact o5, E5⟩
        case measure => simp [intOf]; omega
      · have ty : decide (year ≤ x.b) = false := by simpa using hy
        have HU : useOf year x (room - (vecGo year (rows.take j) room).sum) = 0 := by unfold useOf; rw [if_neg hy]
        rw [HU] at HV HSm
        have HRel : Hid (room - (vecGo year (rows.take (j + 1)) room).sum = room - (vecGo year (rows.take j) room).sum) := by unfold Hid; rw [HSm.out]; omega
        clear HU hy HSm
        generalize hS : (vecGo year (rows.take j) room).sum = S at *
        generalize vecGo year (rows.take j) room = V1 at *
        clear hS
        go_wp2_with (at_builtin; refine wpList_eapp 0 (0 : Int) Try.underlying26 info_int (by repeat (first | (with_reducible exact E) | (with_reducible apply Env.drew) | (with_reducible apply Env.drewN) | (with_reducible apply Env.alloc'))) (by rfl) o j hvl.out (by rfl) (by rfl) rfl 1 (by rfl) (by rfl) (heap_new_at (by simp)) (by rfl) (by omega) (by omega) ?_; intro C5 n5 w5 h5 o5 E5)
        simp only [List.set_cons_zero] at E5
        go_roundw
        case rel => exact ⟨j + 1, n5, C5, h5, by omega, by go_num, by rw [HRel.out], rfl, by rw [HV.out]; exact o5, E5⟩
        case measure => simp [intOf]; omega
    · obtain rfl : j = rows.length := by omega
      rw [List.take_length] at o
      have UM := E.made (h := hv) (by simp)
      go_wp2
      go_ret
      exact ⟨C, cap, hv, rfl, o, UM⟩
end Go.Proofs.Ytpigoegjoagbnaa
end
section
/- The walk of ref09.Tax. -/
namespace Go.Proofs.Ytpigoegjoagbnaa
open Go.RowKit Go.Sl
set_option maxHeartbeats 2000000
set_option maxRecDepth 100000
set_option linter.unusedSimpArgs false
/-- What ref09.Tax answers where there is no error. -/
def RTaxOk (l : List STri) (inc most life year r : Int) (w : World) (e : Ending) (w' : World) : Prop :=
  ∃ h' b' hv V cap, e = .returned (.tuple #[.agg #[.int .i64 inc, .int .i64 (vGone l year), .int .i64 (curVec l inc most year).sum, .int .i64 (curNew inc), .int .i64 (curTaxable l inc most year), .int .i64 (ofVal (curTaxable l inc most year) r), .slice V (curVec l inc most year).length cap], .pointer (some ⟨b', 0, none⟩), .int .i64 0]) ∧
    Los h' b' (curNext l inc most life year) ∧ Ow kInt hv V cap (curVec l inc most year) ∧ Env w w' [h', hv]
theorem refTax_arg (b : Nat) (bk pm mv most life year r : Int) (w : World) (ha : curArg most life year r = false) :
    Calls Try.prog 36 #[.pointer (some ⟨b, 0, none⟩), .int .i64 bk, .int .i64 pm, .int .i64 mv, .int .i64 most, .int .i64 life, .int .i64 year, .int .i64 r] w fun e w' => e = .returned (.tuple #[noRes, .pointer none, .int .i64 1]) ∧ Below w.heap.size w w' := by
  have HN : Hid (noRes = .agg #[.int .i64 0, .int .i64 0, .int .i64 0, .int .i64 0, .int .i64 0, .int .i64 0, .slice none 0 0]) := rfl
  have E0 := (Env.start w).alloc (.cells #[.int .i64 0, .int .i64 0, .int .i64 0, .int .i64 0, .int .i64 0, .int .i64 0, .slice none 0 0] 60)
  simp at E0
  have R1 := fun W : World => refRight_calls most W
  have R2 := fun W : World => refRight_calls r W
  have R3 := fun W : World => refYear_calls life W
  have R4 := fun W : World => refYear_calls year W
  unfold curArg at ha
  generalize rightRate most = q1 at *
  generalize rightRate r = q2 at *
  generalize decide (0 ≤ life ∧ life ≤ 99) = q3 at *
  generalize decide (0 ≤ year ∧ year ≤ 99) = q4 at *
  have z0 := E0.cell 0 rfl 0 rfl
  have z1 := E0.cell 0 rfl 1 rfl
  have z2 := E0.cell 0 rfl 2 rfl
  have z3 := E0.cell 0 rfl 3 rfl
  have z4 := E0.cell 0 rfl 4 rfl
  have z5 := E0.cell 0 rfl 5 rfl
  have z6 := E0.cell 0 rfl 6 rfl
  have zf := fun k => E0.free 0 rfl k
  rcases (show q1 = false ∨ (q1 = true ∧ q2 = false) ∨ (q1 = true ∧ q2 = true ∧ q3 = false) ∨ (q1 = true ∧ q2 = true ∧ q3 = true ∧ q4 = false) by cases q1 <;> cases q2 <;> cases q3 <;> cases q4 <;> simp_all) with rfl | ⟨rfl, rfl⟩ | ⟨rfl, rfl, rfl⟩ | ⟨rfl, rfl, rfl, rfl⟩
  · go_enter Try.func36, Try.ntmps36
    go_wp2_with fail
    refine (R1 _).mono ?_
    rintro e w' ⟨rfl, rfl⟩
    go_wp2
    exact bodyPost_ret (v := .tuple #[.agg #[.int .i64 0, .int .i64 0, .int .i64 0, .int .i64 0, .int .i64 0, .int .i64 0, .slice none 0 0], .pointer none, .int .i64 1]) (by simp [results, Try.results36, go_sem, z0, z1, z2, z3, z4, z5, z6]) rfl ⟨by rw [HN.out], E0.low⟩
  · go_enter Try.func36, Try.ntmps36
    go_wp2_with fail
    refine (R1 _).mono ?_
    rintro e w' ⟨rfl, rfl⟩
    go_wp2_with fail
    refine (R2 _).mono ?_
    rintro e w' ⟨rfl, rfl⟩
    go_wp2
    exact bodyPost_ret (v := .tuple #[.agg #[.int .i64 0, .int .i64 0, .int .i64 0, .int .i64 0, .int .i64 0, .int .i64 0, .slice none 0 0], .pointer none, .int .i64 1]) (by simp [results, Try.results36, go_sem, z0, z1, z2, z3, z4, z5, z6]) rfl ⟨by rw [HN.out], E0.low⟩
  · go_enter Try.func36, Try.ntmps36
    go_wp2_with fail
    refine (R1 _).mono ?_
    rintro e w' ⟨rfl, rfl⟩
    go_wp2_with fail
    refine (R2 _).mono ?_
    rintro e w' ⟨rfl, rfl⟩
    go_wp2_with fail
    refine (R3 _).mono ?_
    rintro e w' ⟨rfl, rfl⟩
    go_wp2
    exact bodyPost_ret (v := .tuple #[.agg #[.int .i64 0, .int .i64 0, .int .i64 0, .int .i64 0, .int .i64 0, .int .i64 0, .slice none 0 0], .pointer none, .int .i64 1]) (by simp [results, Try.results36, go_sem, z0, z1, z2, z3, z4, z5, z6]) rfl ⟨by rw [HN.out], E0.low⟩
  · go_enter Try.func36, Try.ntmps36
    go_wp2_with fail
    refine (R1 _).mono ?_
    rintro e w' ⟨rfl, rfl⟩
    go_wp2_with fail
    refine (R2 _).mono ?_
    rintro e w' ⟨rfl, rfl⟩
    go_wp2_with fail
    refine (R3 _).mono ?_
    rintro e w' ⟨rfl, rfl⟩
    go_wp2_with fail
    refine (R4 _).mono ?_
    rintro e w' ⟨rfl, rfl⟩
    go_wp2
    exact bodyPost_ret (v := .tuple #[.agg #[.int .i64 0, .int .i64 0, .int .i64 0, .int .i64 0, .int .i64 0, .int .i64 0, .slice none 0 0], .pointer none, .int .i64 1]) (by simp [results, Try.results36, go_sem, z0, z1, z2, z3, z4, z5, z6]) rfl ⟨by rw [HN.out], E0.low⟩
theorem refTax_over (b : Nat) (bk pm mv most life year r : Int) (w : World) (ha : curArg most life year r = true) (hi : incOk bk pm mv = false) :
    Calls Try.prog 36 #[.pointer (some ⟨b, 0, none⟩), .int .i64 bk, .int .i64 pm, .int .i64 mv, .int .i64 most, .int .i64 life, .int .i64 year, .int .i64 r] w fun e w' => e = .returned (.tuple #[noRes, .pointer none, .int .i64 6]) ∧ Below w.heap.size w w' := by
  have HN : Hid (noRes = .agg #[.int .i64 0, .int .i64 0, .int .i64 0, .int .i64 0, .int .i64 0, .int .i64 0, .slice none 0 0]) := rfl
  have HI := Lib.hid hi
  clear hi
  have E0 := (Env.start w).alloc (.cells #[.int .i64 0, .int .i64 0, .int .i64 0, .int .i64 0, .int .i64 0, .int .i64 0, .slice none 0 0] 60)
  simp at E0
  have R1 := fun W : World => refRight_calls most W
  have R2 := fun W : World => refRight_calls r W
  have R3 := fun W : World => refYear_calls life W
  have R4 := fun W : World => refYear_calls year W
  have hq : rightRate most = true ∧ rightRate r = true ∧ decide (0 ≤ life ∧ life ≤ 99) = true ∧ decide (0 ≤ year ∧ year ≤ 99) = true := by unfold curArg at ha; simpa using ha
  rw [hq.1] at R1
  rw [hq.2.1] at R2
  rw [hq.2.2.1] at R3
  rw [hq.2.2.2] at R4
  have hlb : 0 ≤ life ∧ life ≤ 99 := by simpa using hq.2.2.1
  have hyb : 0 ≤ year ∧ year ≤ 99 := by simpa using hq.2.2.2
  clear hq
  have IC := fun W : World => refIncome_calls bk pm mv W
  go_enter Try.func36, Try.ntmps36
  go_wp2_with fail
  refine (R1 _).mono ?_
  rintro e w' ⟨rfl, rfl⟩
  go_wp2_with fail
  refine (R2 _).mono ?_
  rintro e w' ⟨rfl, rfl⟩
  go_wp2_with fail
  refine (R3 _).mono ?_
  rintro e w' ⟨rfl, rfl⟩
  go_wp2_with fail
  refine (R4 _).mono ?_
  rintro e w' ⟨rfl, rfl⟩
  go_wp2_with fail
  refine (IC _).mono ?_
  rw [HI.out]
  rintro e w' ⟨rfl, rfl⟩
  have z0 := E0.cell 0 rfl 0 rfl
  have z1 := E0.cell 0 rfl 1 rfl
  have z2 := E0.cell 0 rfl 2 rfl
  have z3 := E0.cell 0 rfl 3 rfl
  have z4 := E0.cell 0 rfl 4 rfl
  have z5 := E0.cell 0 rfl 5 rfl
  have z6 := E0.cell 0 rfl 6 rfl
  have zf := fun k => E0.free 0 rfl k
  go_wp2
  exact bodyPost_ret (v := .tuple #[.agg #[.int .i64 0, .int .i64 0, .int .i64 0, .int .i64 0, .int .i64 0, .int .i64 0, .slice none 0 0], .pointer none, .int .i64 6]) (by simp [results, Try.results36, go_sem, z0, z1, z2, z3, z4, z5, z6]) rfl ⟨by rw [HN.out], E0.low⟩
theorem refTax_zero (h : Hp) (b : Nat) (l : List STri) (bk pm mv most life year r : Int) (w : World) (hs : h.sub w) (S : Los h b l) (ha : curArg most life year r = true) (hi : incOk bk pm mv = true) (inc : Int) (h0 : incV bk pm mv = inc) (hz1 : inc ≤ 0) (hz2 : 0 ≤ inc) :
    Calls Try.prog 36 #[.pointer (some ⟨b, 0, none⟩), .int .i64 bk, .int .i64 pm, .int .i64 mv, .int .i64 most, .int .i64 life, .int .i64 year, .int .i64 r] w (RTaxOk l inc most life year r w) := by
  have HI := Lib.hid hi
  have H0 := Lib.hid h0
  clear hi h0
  have hV : curVec l inc most year = [] := by unfold curVec; rw [if_neg (by omega)]
  have HP : ∀ (W : World) (h' : Hp) (b' : Nat), Los h' b' (vExp l year) → Env w W [h'] → RTaxOk l inc most life year r w (.returned (.tuple #[.agg #[.int .i64 inc, .int .i64 (vGone l year), .int .i64 0, .int .i64 0, .int .i64 inc, .int .i64 (ofVal inc r), .slice none 0 0], .pointer (some ⟨b', 0, none⟩), .int .i64 0])) W := fun W h' b' S' E' => by
    have hN : curNew inc = 0 := by unfold curNew; rw [if_neg (by omega)]
    refine ⟨h', b', Hp.none, none, 0, ?_, ?_, ?_, E'.new (Upd.of_below (Below.refl _ _))⟩
    · have ht : curTaxable l inc most year = inc := by unfold curTaxable; rw [hV, hN]; simp
      rw [hV, ht, hN]; rfl
    · unfold curNext; rw [if_neg (by omega), if_neg (by omega)]; exact S'
    · rw [hV]; exact Ow.none _ _
  clear hV
  have PC := fun W : World => refPart_calls inc r W
  generalize ofVal inc r = ov at *
  have E0 := (Env.start w).alloc (.cells #[.int .i64 0, .int .i64 0, .int .i64 0, .int .i64 0, .int .i64 0, .int .i64 0, .slice none 0 0] 60)
  simp at E0
  have R1 := fun W : World => refRight_calls most W
  have R2 := fun W : World => refRight_calls r W
  have R3 := fun W : World => refYear_calls life W
  have R4 := fun W : World => refYear_calls year W
  have hq : rightRate most = true ∧ rightRate r = true ∧ decide (0 ≤ life ∧ life ≤ 99) = true ∧ decide (0 ≤ year ∧ year ≤ 99) = true := by unfold curArg at ha; simpa using ha
  rw [hq.1] at R1
  rw [hq.2.1] at R2
  rw [hq.2.2.1] at R3
  rw [hq.2.2.2] at R4
  have hlb : 0 ≤ life ∧ life ≤ 99 := by simpa using hq.2.2.1
  have hyb : 0 ≤ year ∧ year ≤ 99 := by simpa using hq.2.2.2
  clear hq
  have IC := fun W : World => refIncome_calls bk pm mv W
  go_enter Try.func36, Try.ntmps36
  go_wp2_with fail
  refine (R1 _).mono ?_
  rintro e w' ⟨rfl, rfl⟩
  go_wp2_with fail
  refine (R2 _).mono ?_
  rintro e w' ⟨rfl, rfl⟩
  go_wp2_with fail
  refine (R3 _).mono ?_
  rintro e w' ⟨rfl, rfl⟩
  go_wp2_with fail
  refine (R4 _).mono ?_
  rintro e w' ⟨rfl, rfl⟩
  go_wp2_with fail
  refine (IC _).mono ?_
  rw [HI.out, H0.out]
  rintro e w' ⟨rfl, rfl⟩
  go_upto_region 7 with fail
  obtain ⟨W1, hW1⟩ : ∃ W1 : World, W1 = w.alloc (.cells #[.int .i64 0, .int .i64 0, .int .i64 0, .int .i64 0, .int .i64 0, .int .i64 0, .slice none 0 0] 60) := ⟨_, rfl⟩
  rw [← hW1] at E0
  have hsz : W1.heap.size = w.heap.size + 1 := by rw [hW1]; simp
  rw [← hW1]
  clear hW1
  replace E0 := E0.alloc (.cells #[.int .i64 inc, .int .i64 0, .int .i64 0, .int .i64 0, .int .i64 0, .int .i64 0, .slice none 0 0] 60)
  simp at E0
  obtain ⟨W2, hW2⟩ : ∃ W2 : World, W2 = W1.alloc (.cells #[.int .i64 inc, .int .i64 0, .int .i64 0, .int .i64 0, .int .i64 0, .int .i64 0, .slice none 0 0] 60) := ⟨_, rfl⟩
  rw [← hW2] at E0
  rw [← hW2]
  clear hW2
  have y0 := E0.cell 1 rfl 0 rfl
  have y1 := E0.cell 1 rfl 1 rfl
  have y2 := E0.cell 1 rfl 2 rfl
  have y3 := E0.cell 1 rfl 3 rfl
  have y4 := E0.cell 1 rfl 4 rfl
  have y5 := E0.cell 1 rfl 5 rfl
  have y6 := E0.cell 1 rfl 6 rfl
  rw [hsz] at E0 y0 y1 y2 y3 y4 y5 y6
  clear hsz
  generalize w.heap.size + 1 = bB at *
  go_wp2_with fail
  refine (refLossCopy_calls b l h _ (hs.of_below E0.low) S.pt (by have := S.good.len; omega)).mono ?_
  rintro e w3 ⟨h3, b3, rfl, p3, u3⟩
  have E3 := E0.new u3
  simp at E3
  have S3 : Los h3 b3 l := ⟨p3, S.good⟩
  clear y0 y1 y2 y3 y4 y5 y6
  go_wp2_with fail
  refine (Los.exp S3 E3 2 rfl year ⟨rfl, rfl⟩).mono ?_
  rintro e w4 ⟨h4, rfl, S4, E4⟩
  simp at E4
  generalize vGone l year = vg at *
  have y1 := E4.cell 1 rfl 1 rfl
  have yf := fun k => E4.free 1 rfl k
  have A4 := E4.cellset 1 rfl 1 (.int .i64 vg)
  simp only [List.set_cons_zero, List.set_cons_succ] at A4
  go_upto_region 9 with fail
  obtain ⟨w5, hw5⟩ : ∃ w5, w5 = w4.setCell ⟨bB, 1, none⟩ (.int .i64 vg) := ⟨_, rfl⟩
  rw [← hw5] at A4
  rw [← hw5]
  clear hw5 y1 yf E4
  have y0 := A4.cell 1 rfl 0 rfl
  have y1 := A4.cell 1 rfl 1 rfl
  have y2 := A4.cell 1 rfl 2 rfl
  have y3 := A4.cell 1 rfl 3 rfl
  have y4 := A4.cell 1 rfl 4 rfl
  have y5 := A4.cell 1 rfl 5 rfl
  have y6 := A4.cell 1 rfl 6 rfl
  have yf := fun k => A4.free 1 rfl k
  go_wp2_with fail
  refine (PC _).mono ?_
  rintro e w' ⟨rfl, rfl⟩
  go_upto_region 20 with fail
  obtain ⟨tx, htx⟩ : ∃ tx, tx = inc := ⟨_, rfl⟩
  have F0 := A4.cellset 1 rfl 4 (.int .i64 inc)
  simp only [List.set_cons_zero, List.set_cons_succ] at F0
  have F1 := F0.cellset 1 rfl 5 (.int .i64 ov)
  simp only [List.set_cons_zero, List.set_cons_succ] at F1
  obtain ⟨U, hU9⟩ : ∃ U : World, U = (w5.setCell ⟨bB, 4, none⟩ (.int .i64 inc)).setCell ⟨bB, 5, none⟩ (.int .i64 ov) := ⟨_, rfl⟩
  rw [← hU9] at F1
  rw [← hU9]
  clear hU9 F0 A4 y0 y1 y2 y3 y4 y5 y6 yf htx
  have y0 := F1.cell 1 rfl 0 rfl
  have y1 := F1.cell 1 rfl 1 rfl
  have y2 := F1.cell 1 rfl 2 rfl
  have y3 := F1.cell 1 rfl 3 rfl
  have y4 := F1.cell 1 rfl 4 rfl
  have y5 := F1.cell 1 rfl 5 rfl
  have y6 := F1.cell 1 rfl 6 rfl
  have yf := fun k => F1.free 1 rfl k
  have z0 := F1.cell 0 rfl 0 rfl
  have z1 := F1.cell 0 rfl 1 rfl
  have z2 := F1.cell 0 rfl 2 rfl
  have z3 := F1.cell 0 rfl 3 rfl
  have z4 := F1.cell 0 rfl 4 rfl
  have z5 := F1.cell 0 rfl 5 rfl
  have z6 := F1.cell 0 rfl 6 rfl
  have zf := fun k => F1.free 0 rfl k
  go_wp2
  have G6q0 := F1.cellset 0 rfl 0 (.int .i64 inc)
  simp only [List.set_cons_zero, List.set_cons_succ] at G6q0
  have G6q1 := G6q0.cellset 0 rfl 1 (.int .i64 vg)
  simp only [List.set_cons_zero, List.set_cons_succ] at G6q1
  clear G6q0
  have G6q2 := G6q1.cellset 0 rfl 2 (.int .i64 0)
  simp only [List.set_cons_zero, List.set_cons_succ] at G6q2
  clear G6q1
  have G6q3 := G6q2.cellset 0 rfl 3 (.int .i64 0)
  simp only [List.set_cons_zero, List.set_cons_succ] at G6q3
  clear G6q2
  have G6q4 := G6q3.cellset 0 rfl 4 (.int .i64 inc)
  simp only [List.set_cons_zero, List.set_cons_succ] at G6q4
  clear G6q3
  have G6q5 := G6q4.cellset 0 rfl 5 (.int .i64 ov)
  simp only [List.set_cons_zero, List.set_cons_succ] at G6q5
  clear G6q4
  have G6 := G6q5.cellset 0 rfl 6 (.slice none 0 0)
  simp only [List.set_cons_zero, List.set_cons_succ] at G6
  clear G6q5
  have EF := (G6.drop 1).drop 0
  simp at EF
  exact bodyPost_ret (v := .tuple #[.agg #[.int .i64 inc, .int .i64 vg, .int .i64 0, .int .i64 0, .int .i64 inc, .int .i64 ov, .slice none 0 0], .pointer (some ⟨b3, 0, none⟩), .int .i64 0]) (by simp [results, Try.results36, go_sem, z0, z1, z2, z3, z4, z5, z6]) rfl (HP _ h4 b3 S4 EF)
theorem refTax_lossErr (h : Hp) (b : Nat) (l : List STri) (bk pm mv most life year r : Int) (w : World) (hs : h.sub w) (S : Los h b l) (ha : curArg most life year r = true) (hi : incOk bk pm mv = true) (inc : Int) (h0 : incV bk pm mv = inc) (hneg : inc < 0) (q : Int) (hE : vAddE (vExp l year) year (year + life) (-inc) = q) (hq0 : q ≠ 0) :
    Calls Try.prog 36 #[.pointer (some ⟨b, 0, none⟩), .int .i64 bk, .int .i64 pm, .int .i64 mv, .int .i64 most, .int .i64 life, .int .i64 year, .int .i64 r] w fun e w' => e = .returned (.tuple #[noRes, .pointer none, .int .i64 q]) ∧ Below w.heap.size w w' := by
  have HN : Hid (noRes = .agg #[.int .i64 0, .int .i64 0, .int .i64 0, .int .i64 0, .int .i64 0, .int .i64 0, .slice none 0 0]) := rfl
  have HI := Lib.hid hi
  have H0 := Lib.hid h0
  have HE := Lib.hid hE
  have t9 : (q != 0) = true := by simpa using hq0
  have hib := incV_bd bk pm mv
  rw [H0.out] at hib
  clear hi h0 hE hq0
  have E0 := (Env.start w).alloc (.cells #[.int .i64 0, .int .i64 0, .int .i64 0, .int .i64 0, .int .i64 0, .int .i64 0, .slice none 0 0] 60)
  simp at E0
  have R1 := fun W : World => refRight_calls most W
  have R2 := fun W : World => refRight_calls r W
  have R3 := fun W : World => refYear_calls life W
  have R4 := fun W : World => refYear_calls year W
  have hq : rightRate most = true ∧ rightRate r = true ∧ decide (0 ≤ life ∧ life ≤ 99) = true ∧ decide (0 ≤ year ∧ year ≤ 99) = true := by unfold curArg at ha; simpa using ha
  rw [hq.1] at R1
  rw [hq.2.1] at R2
  rw [hq.2.2.1] at R3
  rw [hq.2.2.2] at R4
  have hlb : 0 ≤ life ∧ life ≤ 99 := by simpa using hq.2.2.1
  have hyb : 0 ≤ year ∧ year ≤ 99 := by simpa using hq.2.2.2
  clear hq
  have IC := fun W : World => refIncome_calls bk pm mv W
  go_enter Try.func36, Try.ntmps36
  go_wp2_with fail
  refine (R1 _).mono ?_
  rintro e w' ⟨rfl, rfl⟩
  go_wp2_with fail
  refine (R2 _).mono ?_
  rintro e w' ⟨rfl, rfl⟩
  go_wp2_with fail
  refine (R3 _).mono ?_
  rintro e w' ⟨rfl, rfl⟩
  go_wp2_with fail
  refine (R4 _).mono ?_
  rintro e w' ⟨rfl, rfl⟩
  go_wp2_with fail
  refine (IC _).mono ?_
  rw [HI.out, H0.out]
  rintro e w' ⟨rfl, rfl⟩
  go_upto_region 7 with fail
  obtain ⟨W1, hW1⟩ : ∃ W1 : World, W1 = w.alloc (.cells #[.int .i64 0, .int .i64 0, .int .i64 0, .int .i64 0, .int .i64 0, .int .i64 0, .slice none 0 0] 60) := ⟨_, rfl⟩
  rw [← hW1] at E0
  have hsz : W1.heap.size = w.heap.size + 1 := by rw [hW1]; simp
  rw [← hW1]
  clear hW1
  replace E0 := E0.alloc (.cells #[.int .i64 inc, .int .i64 0, .int .i64 0, .int .i64 0, .int .i64 0, .int .i64 0, .slice none 0 0] 60)
  simp at E0
  obtain ⟨W2, hW2⟩ : ∃ W2 : World, W2 = W1.alloc (.cells #[.int .i64 inc, .int .i64 0, .int .i64 0, .int .i64 0, .int .i64 0, .int .i64 0, .slice none 0 0] 60) := ⟨_, rfl⟩
  rw [← hW2] at E0
  rw [← hW2]
  clear hW2
  have y0 := E0.cell 1 rfl 0 rfl
  have y1 := E0.cell 1 rfl 1 rfl
  have y2 := E0.cell 1 rfl 2 rfl
  have y3 := E0.cell 1 rfl 3 rfl
  have y4 := E0.cell 1 rfl 4 rfl
  have y5 := E0.cell 1 rfl 5 rfl
  have y6 := E0.cell 1 rfl 6 rfl
  rw [hsz] at E0 y0 y1 y2 y3 y4 y5 y6
  clear hsz
  generalize w.heap.size + 1 = bB at *
  go_wp2_with fail
  refine (refLossCopy_calls b l h _ (hs.of_below E0.low) S.pt (by have := S.good.len; omega)).mono ?_
  rintro e w3 ⟨h3, b3, rfl, p3, u3⟩
  have E3 := E0.new u3
  simp at E3
  have S3 : Los h3 b3 l := ⟨p3, S.good⟩
  clear y0 y1 y2 y3 y4 y5 y6
  go_wp2_with fail
  refine (Los.exp S3 E3 2 rfl year ⟨rfl, rfl⟩).mono ?_
  rintro e w4 ⟨h4, rfl, S4, E4⟩
  simp at E4
  generalize vGone l year = vg at *
  have y1 := E4.cell 1 rfl 1 rfl
  have yf := fun k => E4.free 1 rfl k
  have A4 := E4.cellset 1 rfl 1 (.int .i64 vg)
  simp only [List.set_cons_zero, List.set_cons_succ] at A4
  go_upto_region 9 with fail
  obtain ⟨w5, hw5⟩ : ∃ w5, w5 = w4.setCell ⟨bB, 1, none⟩ (.int .i64 vg) := ⟨_, rfl⟩
  rw [← hw5] at A4
  rw [← hw5]
  clear hw5 y1 yf E4
  have y0 := A4.cell 1 rfl 0 rfl
  have y1 := A4.cell 1 rfl 1 rfl
  have y2 := A4.cell 1 rfl 2 rfl
  have y3 := A4.cell 1 rfl 3 rfl
  have y4 := A4.cell 1 rfl 4 rfl
  have y5 := A4.cell 1 rfl 5 rfl
  have y6 := A4.cell 1 rfl 6 rfl
  have yf := fun k => A4.free 1 rfl k
  have A6 := A4.cellset 1 rfl 3 (.int .i64 (-inc))
  simp only [List.set_cons_zero, List.set_cons_succ] at A6
  have hwn : IntKind.i64.wrap (-inc) = -inc := by rw [IntKind.wrap_i64]; omega
  have hwy : IntKind.i64.wrap (year + life) = year + life := by rw [IntKind.wrap_i64]; omega
  go_upto_region 15 with fail
  obtain ⟨w6, hw6⟩ : ∃ w6, w6 = w5.setCell ⟨bB, 3, none⟩ (.int .i64 (-inc)) := ⟨_, rfl⟩
  rw [← hw6] at A6
  rw [← hw6]
  clear hw6 A4 y0 y1 y2 y3 y4 y5 y6 yf
  go_wp2_with fail
  refine (Los.add S4 A6 2 rfl year (year + life) (-inc) ⟨HE.out, rfl⟩).mono ?_
  rintro e w7 ⟨h7, rfl, S7, E7⟩
  simp only [List.set_cons_zero, List.set_cons_succ] at E7
  have z0 := E7.cell 0 rfl 0 rfl
  have z1 := E7.cell 0 rfl 1 rfl
  have z2 := E7.cell 0 rfl 2 rfl
  have z3 := E7.cell 0 rfl 3 rfl
  have z4 := E7.cell 0 rfl 4 rfl
  have z5 := E7.cell 0 rfl 5 rfl
  have z6 := E7.cell 0 rfl 6 rfl
  have zf := fun k => E7.free 0 rfl k
  go_wp2
  have G6q0 := E7.cellset 0 rfl 0 (.int .i64 0)
  simp only [List.set_cons_zero, List.set_cons_succ] at G6q0
  have G6q1 := G6q0.cellset 0 rfl 1 (.int .i64 0)
  simp only [List.set_cons_zero, List.set_cons_succ] at G6q1
  clear G6q0
  have G6q2 := G6q1.cellset 0 rfl 2 (.int .i64 0)
  simp only [List.set_cons_zero, List.set_cons_succ] at G6q2
  clear G6q1
  have G6q3 := G6q2.cellset 0 rfl 3 (.int .i64 0)
  simp only [List.set_cons_zero, List.set_cons_succ] at G6q3
  clear G6q2
  have G6q4 := G6q3.cellset 0 rfl 4 (.int .i64 0)
  simp only [List.set_cons_zero, List.set_cons_succ] at G6q4
  clear G6q3
  have G6q5 := G6q4.cellset 0 rfl 5 (.int .i64 0)
  simp only [List.set_cons_zero, List.set_cons_succ] at G6q5
  clear G6q4
  have G6 := G6q5.cellset 0 rfl 6 (.slice none 0 0)
  simp only [List.set_cons_zero, List.set_cons_succ] at G6
  clear G6q5
  exact bodyPost_ret (v := .tuple #[.agg #[.int .i64 0, .int .i64 0, .int .i64 0, .int .i64 0, .int .i64 0, .int .i64 0, .slice none 0 0], .pointer none, .int .i64 q]) (by simp [results, Try.results36, go_sem, z0, z1, z2, z3, z4, z5, z6]) rfl ⟨by rw [HN.out], G6.low⟩
theorem refTax_loss (h : Hp) (b : Nat) (l : List STri) (bk pm mv most life year r : Int) (w : World) (hs : h.sub w) (S : Los h b l) (ha : curArg most life year r = true) (hi : incOk bk pm mv = true) (inc : Int) (h0 : incV bk pm mv = inc) (hneg : inc < 0) (hE : vAddE (vExp l year) year (year + life) (-inc) = 0) :
    Calls Try.prog 36 #[.pointer (some ⟨b, 0, none⟩), .int .i64 bk, .int .i64 pm, .int .i64 mv, .int .i64 most, .int .i64 life, .int .i64 year, .int .i64 r] w (RTaxOk l inc most life year r w) := by
  have HI := Lib.hid hi
  have H0 := Lib.hid h0
  clear hi h0
  have hV : curVec l inc most year = [] := by unfold curVec; rw [if_neg (by omega)]
  have hib := incV_bd bk pm mv
  rw [H0.out] at hib
  have hNw : curNew inc = -inc := by unfold curNew; rw [if_pos hneg]
  have ht : curTaxable l inc most year = 0 := by unfold curTaxable; rw [hV, hNw]; simp; omega
  have hwn : IntKind.i64.wrap (-inc) = -inc := by rw [IntKind.wrap_i64]; omega
  have hwt : IntKind.i64.wrap (inc + -inc) = 0 := by rw [IntKind.wrap_i64]; omega
  have HP : ∀ (W : World) (h' : Hp) (b' : Nat), Los h' b' (vAdd (vExp l year) year (year + life) (-inc)) → Env w W [h'] → RTaxOk l inc most life year r w (.returned (.tuple #[.agg #[.int .i64 inc, .int .i64 (vGone l year), .int .i64 0, .int .i64 (-inc), .int .i64 0, .int .i64 (ofVal 0 r), .slice none 0 0], .pointer (some ⟨b', 0, none⟩), .int .i64 0])) W := fun W h' b' S' E' => by
    refine ⟨h', b', Hp.none, none, 0, ?_, ?_, ?_, E'.new (Upd.of_below (Below.refl _ _))⟩
    · rw [hV, ht, hNw]; rfl
    · unfold curNext; rw [if_neg (by omega), if_pos hneg]; exact S'
    · rw [hV]; exact Ow.none _ _
  have HE := Lib.hid hE
  clear hV ht hNw hE
  have PC := fun W : World => refPart_calls 0 r W
  generalize ofVal 0 r = ov at *
  have E0 := (Env.start w).alloc (.cells #[.int .i64 0, .int .i64 0, .int .i64 0, .int .i64 0, .int .i64 0, .int .i64 0, .slice none 0 0] 60)
  simp at E0
  have R1 := fun W : World => refRight_calls most W
  have R2 := fun W : World => refRight_calls r W
  have R3 := fun W : World => refYear_calls life W
  have R4 := fun W : World => refYear_calls year W
  have hq : rightRate most = true ∧ rightRate r = true ∧ decide (0 ≤ life ∧ life ≤ 99) = true ∧ decide (0 ≤ year ∧ year ≤ 99) = true := by unfold curArg at ha; simpa using ha
  rw [hq.1] at R1
  rw [hq.2.1] at R2
  rw [hq.2.2.1] at R3
  rw [hq.2.2.2] at R4
  have hlb : 0 ≤ life ∧ life ≤ 99 := by simpa using hq.2.2.1
  have hyb : 0 ≤ year ∧ year ≤ 99 := by simpa using hq.2.2.2
  clear hq
  have IC := fun W : World => refIncome_calls bk pm mv W
  go_enter Try.func36, Try.ntmps36
  go_wp2_with fail
  refine (R1 _).mono ?_
  rintro e w' ⟨rfl, rfl⟩
  go_wp2_with fail
  refine (R2 _).mono ?_
  rintro e w' ⟨rfl, rfl⟩
  go_wp2_with fail
  refine (R3 _).mono ?_
  rintro e w' ⟨rfl, rfl⟩
  go_wp2_with fail
  refine (R4 _).mono ?_
  rintro e w' ⟨rfl, rfl⟩
  go_wp2_with fail
  refine (IC _).mono ?_
  rw [HI.out, H0.out]
  rintro e w' ⟨rfl, rfl⟩
  go_upto_region 7 with fail
  obtain ⟨W1, hW1⟩ : ∃ W1 : World, W1 = w.alloc (.cells #[.int .i64 0, .int .i64 0, .int .i64 0, .int .i64 0, .int .i64 0, .int .i64 0, .slice none 0 0] 60) := ⟨_, rfl⟩
  rw [← hW1] at E0
  have hsz : W1.heap.size = w.heap.size + 1 := by rw [hW1]; simp
  rw [← hW1]
  clear hW1
  replace E0 := E0.alloc (.cells #[.int .i64 inc, .int .i64 0, .int .i64 0, .int .i64 0, .int .i64 0, .int .i64 0, .slice none 0 0] 60)
  simp at E0
  obtain ⟨W2, hW2⟩ : ∃ W2 : World, W2 = W1.alloc (.cells #[.int .i64 inc, .int .i64 0, .int .i64 0, .int .i64 0, .int .i64 0, .int .i64 0, .slice none 0 0] 60) := ⟨_, rfl⟩
  rw [← hW2] at E0
  rw [← hW2]
  clear hW2
  have y0 := E0.cell 1 rfl 0 rfl
  have y1 := E0.cell 1 rfl 1 rfl
  have y2 := E0.cell 1 rfl 2 rfl
  have y3 := E0.cell 1 rfl 3 rfl
  have y4 := E0.cell 1 rfl 4 rfl
  have y5 := E0.cell 1 rfl 5 rfl
  have y6 := E0.cell 1 rfl 6 rfl
  rw [hsz] at E0 y0 y1 y2 y3 y4 y5 y6
  clear hsz
  generalize w.heap.size + 1 = bB at *
  go_wp2_with fail
  refine (refLossCopy_calls b l h _ (hs.of_below E0.low) S.pt (by have := S.good.len; omega)).mono ?_
  rintro e w3 ⟨h3, b3, rfl, p3, u3⟩
  have E3 := E0.new u3
  simp at E3
  have S3 : Los h3 b3 l := ⟨p3, S.good⟩
  clear y0 y1 y2 y3 y4 y5 y6
  go_wp2_with fail
  refine (Los.exp S3 E3 2 rfl year ⟨rfl, rfl⟩).mono ?_
  rintro e w4 ⟨h4, rfl, S4, E4⟩
  simp at E4
  generalize vGone l year = vg at *
  have y1 := E4.cell 1 rfl 1 rfl
  have yf := fun k => E4.free 1 rfl k
  have A4 := E4.cellset 1 rfl 1 (.int .i64 vg)
  simp only [List.set_cons_zero, List.set_cons_succ] at A4
  go_upto_region 9 with fail
  obtain ⟨w5, hw5⟩ : ∃ w5, w5 = w4.setCell ⟨bB, 1, none⟩ (.int .i64 vg) := ⟨_, rfl⟩
  rw [← hw5] at A4
  rw [← hw5]
  clear hw5 y1 yf E4
  have y0 := A4.cell 1 rfl 0 rfl
  have y1 := A4.cell 1 rfl 1 rfl
  have y2 := A4.cell 1 rfl 2 rfl
  have y3 := A4.cell 1 rfl 3 rfl
  have y4 := A4.cell 1 rfl 4 rfl
  have y5 := A4.cell 1 rfl 5 rfl
  have y6 := A4.cell 1 rfl 6 rfl
  have yf := fun k => A4.free 1 rfl k
  have A6 := A4.cellset 1 rfl 3 (.int .i64 (-inc))
  simp only [List.set_cons_zero, List.set_cons_succ] at A6
  have hwy : IntKind.i64.wrap (year + life) = year + life := by rw [IntKind.wrap_i64]; omega
  go_upto_region 15 with fail
  obtain ⟨w6, hw6⟩ : ∃ w6, w6 = w5.setCell ⟨bB, 3, none⟩ (.int .i64 (-inc)) := ⟨_, rfl⟩
  rw [← hw6] at A6
  rw [← hw6]
  clear hw6 A4 y0 y1 y2 y3 y4 y5 y6 yf
  go_wp2_with fail
  refine (Los.add S4 A6 2 rfl year (year + life) (-inc) ⟨HE.out, rfl⟩).mono ?_
  rintro e w7 ⟨h7, rfl, S7, E7⟩
  simp only [List.set_cons_zero, List.set_cons_succ] at E7
  clear A6
  have y0 := E7.cell 1 rfl 0 rfl
  have y1 := E7.cell 1 rfl 1 rfl
  have y2 := E7.cell 1 rfl 2 rfl
  have y3 := E7.cell 1 rfl 3 rfl
  have y4 := E7.cell 1 rfl 4 rfl
  have y5 := E7.cell 1 rfl 5 rfl
  have y6 := E7.cell 1 rfl 6 rfl
  have yf := fun k => E7.free 1 rfl k
  go_wp2_with fail
  refine (PC _).mono ?_
  rintro e w' ⟨rfl, rfl⟩
  go_upto_region 20 with fail
  have F0 := E7.cellset 1 rfl 4 (.int .i64 0)
  simp only [List.set_cons_zero, List.set_cons_succ] at F0
  have F1 := F0.cellset 1 rfl 5 (.int .i64 ov)
  simp only [List.set_cons_zero, List.set_cons_succ] at F1
  obtain ⟨U, hU9⟩ : ∃ U : World, U = (w7.setCell ⟨bB, 4, none⟩ (.int .i64 0)).setCell ⟨bB, 5, none⟩ (.int .i64 ov) := ⟨_, rfl⟩
  rw [← hU9] at F1
  rw [← hU9]
  clear hU9 F0 E7 y0 y1 y2 y3 y4 y5 y6 yf
  have y0 := F1.cell 1 rfl 0 rfl
  have y1 := F1.cell 1 rfl 1 rfl
  have y2 := F1.cell 1 rfl 2 rfl
  have y3 := F1.cell 1 rfl 3 rfl
  have y4 := F1.cell 1 rfl 4 rfl
  have y5 := F1.cell 1 rfl 5 rfl
  have y6 := F1.cell 1 rfl 6 rfl
  have yf := fun k => F1.free 1 rfl k
  have z0 := F1.cell 0 rfl 0 rfl
  have z1 := F1.cell 0 rfl 1 rfl
  have z2 := F1.cell 0 rfl 2 rfl
  have z3 := F1.cell 0 rfl 3 rfl
  have z4 := F1.cell 0 rfl 4 rfl
  have z5 := F1.cell 0 rfl 5 rfl
  have z6 := F1.cell 0 rfl 6 rfl
  have zf := fun k => F1.free 0 rfl k
  go_wp2
  have G6q0 := F1.cellset 0 rfl 0 (.int .i64 inc)
  simp only [List.set_cons_zero, List.set_cons_succ] at G6q0
  have G6q1 := G6q0.cellset 0 rfl 1 (.int .i64 vg)
  simp only [List.set_cons_zero, List.set_cons_succ] at G6q1
  clear G6q0
  have G6q2 := G6q1.cellset 0 rfl 2 (.int .i64 0)
  simp only [List.set_cons_zero, List.set_cons_succ] at G6q2
  clear G6q1
  have G6q3 := G6q2.cellset 0 rfl 3 (.int .i64 (-inc))
  simp only [List.set_cons_zero, List.set_cons_succ] at G6q3
  clear G6q2
  have G6q4 := G6q3.cellset 0 rfl 4 (.int .i64 0)
  simp only [List.set_cons_zero, List.set_cons_succ] at G6q4
  clear G6q3
  have G6q5 := G6q4.cellset 0 rfl 5 (.int .i64 ov)
  simp only [List.set_cons_zero, List.set_cons_succ] at G6q5
  clear G6q4
  have G6 := G6q5.cellset 0 rfl 6 (.slice none 0 0)
  simp only [List.set_cons_zero, List.set_cons_succ] at G6
  clear G6q5
  have EF := (G6.drop 1).drop 0
  simp at EF
  exact bodyPost_ret (v := .tuple #[.agg #[.int .i64 inc, .int .i64 vg, .int .i64 0, .int .i64 (-inc), .int .i64 0, .int .i64 ov, .slice none 0 0], .pointer (some ⟨b3, 0, none⟩), .int .i64 0]) (by simp [results, Try.results36, go_sem, z0, z1, z2, z3, z4, z5, z6]) rfl (HP _ h7 b3 S7 EF)
theorem refTax_profit (h : Hp) (b : Nat) (l : List STri) (bk pm mv most life year r : Int) (w : World) (hs : h.sub w) (S : Los h b l) (ha : curArg most life year r = true) (hi : incOk bk pm mv = true) (inc : Int) (h0 : incV bk pm mv = inc) (hpos : 0 < inc) :
    Calls Try.prog 36 #[.pointer (some ⟨b, 0, none⟩), .int .i64 bk, .int .i64 pm, .int .i64 mv, .int .i64 most, .int .i64 life, .int .i64 year, .int .i64 r] w (RTaxOk l inc most life year r w) := by
  have HI := Lib.hid hi
  have H0 := Lib.hid h0
  have hib := incV_bd bk pm mv
  rw [h0] at hib
  clear hi h0
  have gE := S.good.exp year
  have gEl := gE.len
  obtain ⟨hvl, hvt⟩ := curVec_take (most := most) (year := year) S.good hpos
  obtain ⟨us0, us1, _⟩ := curVec_bd S.good inc most year
  have us1 := us1 hpos
  have hrb : 0 ≤ roomV inc most ∧ roomV inc most ≤ 1000000000000000 := by
    unfold roomV; split
    · omega
    · have := floorV_bd (n := inc) (r := most); omega
  have HVd : Hid (curVec l inc most year = vecGo year (vExp l year) (roomV inc most)) := by unfold Hid curVec; rw [if_pos hpos, show max 0 (roomV inc most) = roomV inc most by omega]
  have hvb : ∀ u ∈ curVec l inc most year, 0 ≤ u ∧ u ≤ 100000000000 := fun u hu => by
    obtain ⟨i, hi⟩ := List.mem_iff_getElem?.1 hu
    have hil : i < (vExp l year).length := by rw [← hvl]; exact (List.getElem?_eq_some_iff.1 hi).1
    obtain ⟨x, hx⟩ := some_of_lt hil
    have h1 := vTake_bad hvt hx.out hi
    have h2 := le_sumC gE.lo (List.mem_of_getElem? hx.out)
    have h3 := gE.mon
    omega
  have hpre : ∀ j, j ≤ (curVec l inc most year).length → -1000000000000000 ≤ ((curVec l inc most year).take j).sum ∧ ((curVec l inc most year).take j).sum ≤ 1000000000000000 := fun j hj => by
    have h1 := sum_money ((curVec l inc most year).take j) fun z hz => by
      have := hvb z (List.mem_of_mem_take hz); simp [money]; omega
    have h2 : ((curVec l inc most year).take j).length ≤ 12 := by rw [List.length_take]; omega
    omega
  have hNw : curNew inc = 0 := by unfold curNew; rw [if_neg (by omega)]
  have ht : curTaxable l inc most year = inc - (curVec l inc most year).sum := by unfold curTaxable; rw [hNw]; omega
  have HP : ∀ (W : World) (h' hv : Hp) (b' cv : Nat) (V : Option Addr), Los h' b' (vTake (vExp l year) (curVec l inc most year)) → Ow kInt hv V cv (curVec l inc most year) → Env w W [h', hv] → RTaxOk l inc most life year r w (.returned (.tuple #[.agg #[.int .i64 inc, .int .i64 (vGone l year), .int .i64 (curVec l inc most year).sum, .int .i64 0, .int .i64 (inc - (curVec l inc most year).sum), .int .i64 (ofVal (inc - (curVec l inc most year).sum) r), .slice V (curVec l inc most year).length cv], .pointer (some ⟨b', 0, none⟩), .int .i64 0])) W := fun W h' hv b' cv V S' o' E' => by
    refine ⟨h', b', hv, V, cv, ?_, ?_, o', E'⟩
    · rw [ht, hNw]
    · unfold curNext; rw [if_pos hpos]; exact S'
  have RM := fun W : World => refRoom_calls inc most W hpos
  have VC := fun (W : World) (C : Option Addr) (n : Nat) (k : Hp) (ks : k.sub W) (o : Ow kTri k C n (vExp l year)) => refVector_calls C n (vExp l year) year (roomV inc most) k W ks o.sl (by omega) (fun x hx => by have := gE.lo x hx; omega) hrb.1 hrb.2
  rw [← HVd.out] at VC
  rw [← hvl] at VC
  have hvl' := Lib.hid hvl
  have HVT := Lib.hid hvt
  clear hvl hvt ht hNw HVd
  have E0 := (Env.start w).alloc (.cells #[.int .i64 0, .int .i64 0, .int .i64 0, .int .i64 0, .int .i64 0, .int .i64 0, .slice none 0 0] 60)
  simp at E0
  have R1 := fun W : World => refRight_calls most W
  have R2 := fun W : World => refRight_calls r W
  have R3 := fun W : World => refYear_calls life W
  have R4 := fun W : World => refYear_calls year W
  have hq : rightRate most = true ∧ rightRate r = true ∧ decide (0 ≤ life ∧ life ≤ 99) = true ∧ decide (0 ≤ year ∧ year ≤ 99) = true := by unfold curArg at ha; simpa using ha
  rw [hq.1] at R1
  rw [hq.2.1] at R2
  rw [hq.2.2.1] at R3
  rw [hq.2.2.2] at R4
  have hlb : 0 ≤ life ∧ life ≤ 99 := by simpa using hq.2.2.1
  have hyb : 0 ≤ year ∧ year ≤ 99 := by simpa using hq.2.2.2
  clear hq
  have IC := fun W : World => refIncome_calls bk pm mv W
  go_enter Try.func36, Try.ntmps36
  go_wp2_with fail
  refine (R1 _).mono ?_
  rintro e w' ⟨rfl, rfl⟩
  go_wp2_with fail
  refine (R2 _).mono ?_
  rintro e w' ⟨rfl, rfl⟩
  go_wp2_with fail
  refine (R3 _).mono ?_
  rintro e w' ⟨rfl, rfl⟩
  go_wp2_with fail
  refine (R4 _).mono ?_
  rintro e w' ⟨rfl, rfl⟩
  go_wp2_with fail
  refine (IC _).mono ?_
  rw [HI.out, H0.out]
  rintro e w' ⟨rfl, rfl⟩
  go_upto_region 7 with fail
  obtain ⟨W1, hW1⟩ : ∃ W1 : World, W1 = w.alloc (.cells #[.int .i64 0, .int .i64 0, .int .i64 0, .int .i64 0, .int .i64 0, .int .i64 0, .slice none 0 0] 60) := ⟨_, rfl⟩
  rw [← hW1] at E0
  have hsz : W1.heap.size = w.heap.size + 1 := by rw [hW1]; simp
  rw [← hW1]
  clear hW1
  replace E0 := E0.alloc (.cells #[.int .i64 inc, .int .i64 0, .int .i64 0, .int .i64 0, .int .i64 0, .int .i64 0, .slice none 0 0] 60)
  simp at E0
  obtain ⟨W2, hW2⟩ : ∃ W2 : World, W2 = W1.alloc (.cells #[.int .i64 inc, .int .i64 0, .int .i64 0, .int .i64 0, .int .i64 0, .int .i64 0, .slice none 0 0] 60) := ⟨_, rfl⟩
  rw [← hW2] at E0
  rw [← hW2]
  clear hW2
  have y0 := E0.cell 1 rfl 0 rfl
  have y1 := E0.cell 1 rfl 1 rfl
  have y2 := E0.cell 1 rfl 2 rfl
  have y3 := E0.cell 1 rfl 3 rfl
  have y4 := E0.cell 1 rfl 4 rfl
  have y5 := E0.cell 1 rfl 5 rfl
  have y6 := E0.cell 1 rfl 6 rfl
  rw [hsz] at E0 y0 y1 y2 y3 y4 y5 y6
  clear hsz
  generalize w.heap.size + 1 = bB at *
  go_wp2_with fail
  refine (refLossCopy_calls b l h _ (hs.of_below E0.low) S.pt (by have := S.good.len; omega)).mono ?_
  rintro e w3 ⟨h3, b3, rfl, p3, u3⟩
  have E3 := E0.new u3
  simp at E3
  have S3 : Los h3 b3 l := ⟨p3, S.good⟩
  clear y0 y1 y2 y3 y4 y5 y6
  go_wp2_with fail
  refine (Los.exp S3 E3 2 rfl year ⟨rfl, rfl⟩).mono ?_
  rintro e w4 ⟨h4, rfl, S4, E4⟩
  simp at E4
  generalize vGone l year = vg at *
  have y1 := E4.cell 1 rfl 1 rfl
  have yf := fun k => E4.free 1 rfl k
  have A4 := E4.cellset 1 rfl 1 (.int .i64 vg)
  simp only [List.set_cons_zero, List.set_cons_succ] at A4
  go_upto_region 9 with fail
  obtain ⟨w5, hw5⟩ : ∃ w5, w5 = w4.setCell ⟨bB, 1, none⟩ (.int .i64 vg) := ⟨_, rfl⟩
  rw [← hw5] at A4
  rw [← hw5]
  clear hw5 y1 yf E4
  have y0 := A4.cell 1 rfl 0 rfl
  have y1 := A4.cell 1 rfl 1 rfl
  have y2 := A4.cell 1 rfl 2 rfl
  have y3 := A4.cell 1 rfl 3 rfl
  have y4 := A4.cell 1 rfl 4 rfl
  have y5 := A4.cell 1 rfl 5 rfl
  have y6 := A4.cell 1 rfl 6 rfl
  have yf := fun k => A4.free 1 rfl k
  obtain ⟨cs9, hb9, A9, ca9, rfl, ow9⟩ := S4.pt
  have KC : ∀ V L, Env w V L → L[2]? = some h4 → V.cell? ⟨b3, 0, none⟩ = some (.slice A9 (curVec l inc most year).length ca9) := fun V L E i => by
    rw [cell_of_row V b3 0 _ _ _ (E.sub 2 i _ _ hb9), hvl'.out]; rfl
  have ow9' := ow9.mono (Hp.del_le h4 b3)
  generalize curVec l inc most year = cvec at *
  generalize vExp l year = ex at *
  generalize roomV inc most = rm at *
  obtain ⟨us, hus⟩ : ∃ us, cvec.sum = us := ⟨_, rfl⟩
  rw [hus] at us0 us1 HP
  have HUS := Lib.hid hus
  clear hus
  have PC := fun W : World => refPart_calls (inc - us) r W
  generalize ofVal (inc - us) r = ov at *
  have kc := KC _ _ A4 rfl
  clear y0 y1 y2 y3 y4 y5 y6 yf
  go_upto_region 10 with fail
  refine wp_region_held_drew (S := (fun V => V.cell? ⟨b3, 0, none⟩ = some (.slice A9 cvec.length ca9))) (by kernel_rfl) ?_ (fun hHeld => ?_)
  · (try dsimp only)
    first | (go_keep)
  refine take_on (i := 0) (by (simp only [List.getElem?_toArray, List.getElem?_cons_succ, List.getElem?_cons_zero]) <;> rfl) (by kernel_rfl) (by kernel_rfl) (by kernel_rfl) (by intro _ _ _ _ h; exact h) (by rfl) (by assumption) ?_
  apply Exists.intro
  refine ⟨?_, ?_⟩
  · intro W0 hSw
    try dsimp only at hSw
    go_simp
    try (with_reducible rfl)
  try simp only [Act.put, List.setIfInBounds_toArray, List.set_cons_zero, List.set_cons_succ]
  refine take_on (i := 1) (by (simp only [List.getElem?_toArray, List.getElem?_cons_succ, List.getElem?_cons_zero]) <;> rfl) (by kernel_rfl) (by kernel_rfl) (by kernel_rfl) (by intro _ _ _ _ h; exact h) (by rfl) (by assumption) ?_
  apply Exists.intro
  refine ⟨?_, ?_⟩
  · intro W0 hSw
    try dsimp only at hSw
    go_simp
    try (with_reducible rfl)
  try simp only [Act.put, List.setIfInBounds_toArray, List.set_cons_zero, List.set_cons_succ]
  refine take_on (i := 2) (by (simp only [List.getElem?_toArray, List.getElem?_cons_succ, List.getElem?_cons_zero]) <;> rfl) (by kernel_rfl) (by kernel_rfl) (by kernel_rfl) (by intro _ _ _ _ h; exact h) (by rfl) (by assumption) ?_
  apply Exists.intro
  refine ⟨?_, ?_⟩
  · intro W0 hSw
    try dsimp only at hSw
    go_simp
    try (with_reducible rfl)
  try simp only [Act.put, List.setIfInBounds_toArray, List.set_cons_zero, List.set_cons_succ]
  refine take_on (i := 3) (by (simp only [List.getElem?_toArray, List.getElem?_cons_succ, List.getElem?_cons_zero]) <;> rfl) (by kernel_rfl) (by kernel_rfl) (by kernel_rfl) (by intro _ _ _ _ h; exact h) (by rfl) (by assumption) ?_
  apply Exists.intro
  refine ⟨?_, ?_⟩
  · intro W0 hSw
    try dsimp only at hSw
    go_simp
    try (with_reducible rfl)
  try simp only [Act.put, List.setIfInBounds_toArray, List.set_cons_zero, List.set_cons_succ]
  refine take_on (i := 4) (by (simp only [List.getElem?_toArray, List.getElem?_cons_succ, List.getElem?_cons_zero]) <;> rfl) (by kernel_rfl) (by kernel_rfl) (by kernel_rfl) (by intro _ _ _ _ h; exact h) (by rfl) (by assumption) ?_
  apply Exists.intro
  refine ⟨?_, ?_⟩
  · intro W0 hSw
    try dsimp only at hSw
    go_simp
    try (with_reducible rfl)
  try simp only [Act.put, List.setIfInBounds_toArray, List.set_cons_zero, List.set_cons_succ]
  refine take_on (i := 5) (by (simp only [List.getElem?_toArray, List.getElem?_cons_succ, List.getElem?_cons_zero]) <;> rfl) (by kernel_rfl) (by kernel_rfl) (by kernel_rfl) (by intro _ _ _ _ h; exact h) (by rfl) (by assumption) ?_
  apply Exists.intro
  refine ⟨?_, ?_⟩
  · intro W0 hSw
    try dsimp only at hSw
    go_simp
    try (with_reducible rfl)
  try simp only [Act.put, List.setIfInBounds_toArray, List.set_cons_zero, List.set_cons_succ]
  refine take_on (i := 6) (by (simp only [List.getElem?_toArray, List.getElem?_cons_succ, List.getElem?_cons_zero]) <;> rfl) (by kernel_rfl) (by kernel_rfl) (by kernel_rfl) (by intro _ _ _ _ h; exact h) (by rfl) (by assumption) ?_
  apply Exists.intro
  refine ⟨?_, ?_⟩
  · intro W0 hSw
    try dsimp only at hSw
    go_simp
    try (with_reducible rfl)
  try simp only [Act.put, List.setIfInBounds_toArray, List.set_cons_zero, List.set_cons_succ]
  refine wpAnyH_ready (rs := [7]) (by kernel_rfl) (by simp) ?_
  refine AllReadyH.cons (by (simp only [List.getElem?_toArray, List.getElem?_cons_succ, List.getElem?_cons_zero]) <;> rfl) (fun K hK => ?_) AllReadyH.nil
  go_simp
  refine (RM _).mono ?_
  rintro e w' ⟨rfl, rfl⟩
  go_wp2_with fail
  refine hK.out _ _ ?_ (fun hHeld => ?_)
  · (try dsimp only)
    first | (exact hkeep) | (go_keep)
  clear hK K
  try simp only [Act.put, List.setIfInBounds_toArray, List.set_cons_zero, List.set_cons_succ]
  refine wpAnyH_ready (rs := [8]) (by kernel_rfl) (by simp) ?_
  refine AllReadyH.cons (by (simp only [List.getElem?_toArray, List.getElem?_cons_succ, List.getElem?_cons_zero]) <;> rfl) (fun K hK => ?_) AllReadyH.nil
  go_simp
  refine (VC _ _ _ h4 (Env.sub A4.drew 2 rfl) ow9').mono ?_
  rintro e w6 ⟨V, cv, hv, rfl, o6, u6⟩
  have E6 := A4.drew.new u6
  simp at E6
  have hkeep := KC _ _ E6 rfl
  have y6 := E6.cell 1 rfl 6 rfl
  have yf := fun k => E6.free 1 rfl k
  go_wp2_with fail
  refine hK.out _ _ ?_ (fun hHeld => ?_)
  · (try dsimp only)
    first | (exact hkeep) | (go_keep)
  clear hK K
  try simp only [Act.put, List.setIfInBounds_toArray, List.set_cons_zero, List.set_cons_succ]
  refine take_on (i := 9) (by (simp only [List.getElem?_toArray, List.getElem?_cons_succ, List.getElem?_cons_zero]) <;> rfl) (by kernel_rfl) (by kernel_rfl) (by kernel_rfl) (by intro _ _ _ _ h; exact h) (by rfl) (by assumption) ?_
  apply Exists.intro
  refine ⟨?_, ?_⟩
  · intro W0 hSw
    try dsimp only at hSw
    go_simp
    try (with_reducible rfl)
  try simp only [Act.put, List.setIfInBounds_toArray, List.set_cons_zero, List.set_cons_succ]
  refine wpAnyH_ready (rs := [10]) (by kernel_rfl) (by simp) ?_
  refine AllReadyH.cons (by (simp only [List.getElem?_toArray, List.getElem?_cons_succ, List.getElem?_cons_zero]) <;> rfl) (fun K hK => ?_) AllReadyH.nil
  go_simp
  have E7 := E6.cellset 1 rfl 6 (.slice V cvec.length cv)
  simp only [List.set_cons_zero, List.set_cons_succ] at E7
  have hkeep := KC _ _ E7 rfl
  refine hK.out _ _ ?_ (fun hHeld => ?_)
  · (try dsimp only)
    first | (exact hkeep) | (go_keep)
  clear hK K
  try simp only [Act.put, List.setIfInBounds_toArray, List.set_cons_zero, List.set_cons_succ]
  refine wpAnyH_done (by kernel_rfl) ?_ _
  obtain ⟨w7, hw7⟩ : ∃ w7, w7 = w6.setCell ⟨bB, 6, none⟩ (.slice V cvec.length cv) := ⟨_, rfl⟩
  rw [← hw7] at E7
  rw [← hw7]
  clear hw7 hHeld hkeep y6 yf E6 kc A4
  have y0 := E7.cell 1 rfl 0 rfl
  have y1 := E7.cell 1 rfl 1 rfl
  have y2 := E7.cell 1 rfl 2 rfl
  have y3 := E7.cell 1 rfl 3 rfl
  have y4 := E7.cell 1 rfl 4 rfl
  have y5 := E7.cell 1 rfl 5 rfl
  have y6 := E7.cell 1 rfl 6 rfl
  have yf := fun k => E7.free 1 rfl k
  go_wp2_with fail
  refine (refTotalI_calls V cv cvec hv _ (E7.sub 3 rfl) o6.sl cvec.length rfl hpre).mono ?_
  rw [HUS.out]
  rintro e w8 ⟨rfl, B8⟩
  have E8 := E7.below B8
  clear y0 y1 y2 y3 y4 y5 y6 yf E7
  have y0 := E8.cell 1 rfl 0 rfl
  have y1 := E8.cell 1 rfl 1 rfl
  have y2 := E8.cell 1 rfl 2 rfl
  have y3 := E8.cell 1 rfl 3 rfl
  have y4 := E8.cell 1 rfl 4 rfl
  have y5 := E8.cell 1 rfl 5 rfl
  have y6 := E8.cell 1 rfl 6 rfl
  have yf := fun k => E8.free 1 rfl k
  have A8 := E8.cellset 1 rfl 2 (.int .i64 us)
  simp only [List.set_cons_zero, List.set_cons_succ] at A8
  go_upto_region 12 with fail
  obtain ⟨w9, hw9⟩ : ∃ w9, w9 = w8.setCell ⟨bB, 2, none⟩ (.int .i64 us) := ⟨_, rfl⟩
  rw [← hw9] at A8
  rw [← hw9]
  clear hw9 y0 y1 y2 y3 y4 y5 y6 yf E8
  have y0 := A8.cell 1 rfl 0 rfl
  have y1 := A8.cell 1 rfl 1 rfl
  have y2 := A8.cell 1 rfl 2 rfl
  have y3 := A8.cell 1 rfl 3 rfl
  have y4 := A8.cell 1 rfl 4 rfl
  have y5 := A8.cell 1 rfl 5 rfl
  have y6 := A8.cell 1 rfl 6 rfl
  have yf := fun k => A8.free 1 rfl k
  go_wp2_with fail
  refine (Los.take S4 A8 2 rfl (A8.sub 3 rfl) o6.sl (fun u hu => by have := hvb u hu; exact ⟨by omega, by omega⟩) cvec.length rfl ⟨HVT.out, rfl⟩).mono ?_
  rintro e w10 ⟨h10, rfl, S10, E10⟩
  simp only [List.set_cons_zero, List.set_cons_succ] at E10
  clear y0 y1 y2 y3 y4 y5 y6 yf A8
  have y0 := E10.cell 1 rfl 0 rfl
  have y1 := E10.cell 1 rfl 1 rfl
  have y2 := E10.cell 1 rfl 2 rfl
  have y3 := E10.cell 1 rfl 3 rfl
  have y4 := E10.cell 1 rfl 4 rfl
  have y5 := E10.cell 1 rfl 5 rfl
  have y6 := E10.cell 1 rfl 6 rfl
  have yf := fun k => E10.free 1 rfl k
  have hws : IntKind.i64.wrap (inc - us) = inc - us := by rw [IntKind.wrap_i64]; omega
  go_wp2_with fail
  refine (PC _).mono ?_
  rintro e w' ⟨rfl, rfl⟩
  go_upto_region 20 with fail
  have F0 := E10.cellset 1 rfl 4 (.int .i64 (inc - us))
  simp only [List.set_cons_zero, List.set_cons_succ] at F0
  have F1 := F0.cellset 1 rfl 5 (.int .i64 ov)
  simp only [List.set_cons_zero, List.set_cons_succ] at F1
  obtain ⟨U, hU9⟩ : ∃ U : World, U = (w10.setCell ⟨bB, 4, none⟩ (.int .i64 (inc - us))).setCell ⟨bB, 5, none⟩ (.int .i64 ov) := ⟨_, rfl⟩
  rw [← hU9] at F1
  rw [← hU9]
  clear hU9 F0 E10 y0 y1 y2 y3 y4 y5 y6 yf
  have y0 := F1.cell 1 rfl 0 rfl
  have y1 := F1.cell 1 rfl 1 rfl
  have y2 := F1.cell 1 rfl 2 rfl
  have y3 := F1.cell 1 rfl 3 rfl
  have y4 := F1.cell 1 rfl 4 rfl
  have y5 := F1.cell 1 rfl 5 rfl
  have y6 := F1.cell 1 rfl 6 rfl
  have yf := fun k => F1.free 1 rfl k
  have z0 := F1.cell 0 rfl 0 rfl
  have z1 := F1.cell 0 rfl 1 rfl
  have z2 := F1.cell 0 rfl 2 rfl
  have z3 := F1.cell 0 rfl 3 rfl
  have z4 := F1.cell 0 rfl 4 rfl
  have z5 := F1.cell 0 rfl 5 rfl
  have z6 := F1.cell 0 rfl 6 rfl
  have zf := fun k => F1.free 0 rfl k
  go_wp2
  have G6q0 := F1.cellset 0 rfl 0 (.int .i64 inc)
  simp only [List.set_cons_zero, List.set_cons_succ] at G6q0
  have G6q1 := G6q0.cellset 0 rfl 1 (.int .i64 vg)
  simp only [List.set_cons_zero, List.set_cons_succ] at G6q1
  clear G6q0
  have G6q2 := G6q1.cellset 0 rfl 2 (.int .i64 us)
  simp only [List.set_cons_zero, List.set_cons_succ] at G6q2
  clear G6q1
  have G6q3 := G6q2.cellset 0 rfl 3 (.int .i64 0)
  simp only [List.set_cons_zero, List.set_cons_succ] at G6q3
  clear G6q2
  have G6q4 := G6q3.cellset 0 rfl 4 (.int .i64 (inc - us))
  simp only [List.set_cons_zero, List.set_cons_succ] at G6q4
  clear G6q3
  have G6q5 := G6q4.cellset 0 rfl 5 (.int .i64 ov)
  simp only [List.set_cons_zero, List.set_cons_succ] at G6q5
  clear G6q4
  have G6 := G6q5.cellset 0 rfl 6 (.slice V cvec.length cv)
  simp only [List.set_cons_zero, List.set_cons_succ] at G6
  clear G6q5
  have EF := (G6.drop 1).drop 0
  simp at EF
  exact bodyPost_ret (v := .tuple #[.agg #[.int .i64 inc, .int .i64 vg, .int .i64 us, .int .i64 0, .int .i64 (inc - us), .int .i64 ov, .slice V cvec.length cv], .pointer (some ⟨b3, 0, none⟩), .int .i64 0]) (by simp [results, Try.results36, go_sem, z0, z1, z2, z3, z4, z5, z6]) rfl (HP _ h10 hv b3 cv V S10 o6 EF)
theorem refTax_calls (h : Hp) (b : Nat) (l : List STri) (bk pm mv most life year r : Int) (w : World) (hs : h.sub w) (S : Los h b l) :
    Calls Try.prog 36 #[.pointer (some ⟨b, 0, none⟩), .int .i64 bk, .int .i64 pm, .int .i64 mv, .int .i64 most, .int .i64 life, .int .i64 year, .int .i64 r] w fun e w' =>
      (curE l bk pm mv most life year r ≠ 0 ∧ e = .returned (.tuple #[noRes, .pointer none, .int .i64 (curE l bk pm mv most life year r)]) ∧ Below w.heap.size w w') ∨
      (curE l bk pm mv most life year r = 0 ∧ RTaxOk l (incV bk pm mv) most life year r w e w') := by
  cases ha : curArg most life year r with
  | false =>
    have hE : curE l bk pm mv most life year r = 1 := by unfold curE; rw [if_pos ha]
    rw [hE]
    exact (refTax_arg b bk pm mv most life year r w ha).mono fun _ _ ⟨h1, h2⟩ => .inl ⟨by decide, h1, h2⟩
  | true =>
  cases hi : incOk bk pm mv with
  | false =>
    have hE : curE l bk pm mv most life year r = 6 := by unfold curE; rw [if_neg (by simp [ha]), if_pos hi]
    rw [hE]
    exact (refTax_over b bk pm mv most life year r w ha hi).mono fun _ _ ⟨h1, h2⟩ => .inl ⟨by decide, h1, h2⟩
  | true =>
  by_cases hn : incV bk pm mv < 0
  · have hE : curE l bk pm mv most life year r = vAddE (vExp l year) year (year + life) (-(incV bk pm mv)) := by
      unfold curE; rw [if_neg (by simp [ha]), if_neg (by simp [hi]), if_pos hn]
    rw [hE]
    rcases Int.decEq (vAddE (vExp l year) year (year + life) (-(incV bk pm mv))) 0 with h0 | h0
    · exact (refTax_lossErr h b l bk pm mv most life year r w hs S ha hi _ rfl hn _ rfl h0).mono fun _ _ ⟨h1, h2⟩ => .inl ⟨h0, h1, h2⟩
    · exact (refTax_loss h b l bk pm mv most life year r w hs S ha hi _ rfl hn h0).mono fun _ _ h1 => .inr ⟨h0, h1⟩
  · have hE : curE l bk pm mv most life year r = 0 := by
      unfold curE; rw [if_neg (by simp [ha]), if_neg (by simp [hi]), if_neg hn]
    rw [hE]
    by_cases hz : incV bk pm mv ≤ 0
    · exact (refTax_zero h b l bk pm mv most life year r w hs S ha hi _ rfl hz (by omega)).mono fun _ _ h1 => .inr ⟨rfl, h1⟩
    · exact (refTax_profit h b l bk pm mv most life year r w hs S ha hi _ rfl (by omega)).mono fun _ _ h1 => .inr ⟨rfl, h1⟩
end Go.Proofs.Ytpigoegjoagbnaa
end
section
/- law15.Same of results that are alike; ref09.Tax at a body's own memory. -/
namespace Go.Proofs.Ytpigoegjoagbnaa
open Go.RowKit Go.Sl
set_option maxHeartbeats 1000000
set_option maxRecDepth 100000
theorem same15_calls (x0 x1 x2 x3 x4 x5 : Int) (A B : Option Addr) (ca cb : Nat) (vec : List Int) (n : Nat) (hn : vec.length = n) (h k : Hp) (w : World) (hs : h.sub w) (ks : k.sub w) (sx : Sl kInt h A ca vec) (sy : Sl kInt k B cb vec) :
    Calls Try.prog 37 #[.agg #[.int .i64 x0, .int .i64 x1, .int .i64 x2, .int .i64 x3, .int .i64 x4, .int .i64 x5, .slice A n ca], .agg #[.int .i64 x0, .int .i64 x1, .int .i64 x2, .int .i64 x3, .int .i64 x4, .int .i64 x5, .slice B n cb]] w fun e w' => e = .returned (.bool true) ∧ Below w.heap.size w w' := by
  have SB := fun (W : World) (hW : Below w.heap.size w W) => same_int A B ca cb vec vec h k W (hs.of_below hW) (ks.of_below hW) sx sy
  rw [hn] at SB
  rw [eqB_t rfl] at SB
  clear hn
  go_enter Try.func37, Try.ntmps37
  go_wp2_with fail
  refine (SB _ (by repeat (first | exact Below.refl _ _ | apply Below.drew | refine Below.alloc ?_ (by simp) _))).mono ?_
  rintro e w2 ⟨rfl, B2⟩
  go_wp2
  go_ret
  exact ⟨rfl, (Below.alloc (Below.alloc (Below.refl _ _) (by simp) _) (by simp) _).trans (B2.mono (by simp; omega))⟩
section
variable {w0 w : World} {L : List Hp} {h : Hp} {b : Nat} {l : List STri}
theorem Los.tax_err (S : Los h b l) (E : Env w0 w L) (i : Nat) (hi : L[i]? = some h) (bk pm mv most life year r : Int) {q : Int} (hE : curE l bk pm mv most life year r = q) (h0 : q ≠ 0) :
    Calls Try.prog 36 #[.pointer (some ⟨b, 0, none⟩), .int .i64 bk, .int .i64 pm, .int .i64 mv, .int .i64 most, .int .i64 life, .int .i64 year, .int .i64 r] w fun e w' =>
      e = .returned (.tuple #[.agg #[.int .i64 0, .int .i64 0, .int .i64 0, .int .i64 0, .int .i64 0, .int .i64 0, .slice none 0 0], .pointer none, .int .i64 q]) ∧ Env w0 w' L :=
  (refTax_calls h b l bk pm mv most life year r w (E.sub i hi) S).mono fun _ _ hh => by
    rcases hh with ⟨_, he, hb⟩ | ⟨h1, _⟩
    · rw [hE] at he; exact ⟨he, E.below hb⟩
    · exact absurd (hE.symm.trans h1) h0
theorem Los.tax_ok (S : Los h b l) (E : Env w0 w L) (i : Nat) (hi : L[i]? = some h) (bk pm mv most life year r : Int) (hE : curE l bk pm mv most life year r = 0)
    {inc vg us nw tx ov : Int} {vec : List Int} {nx : List STri} {n : Nat} (r1 : incV bk pm mv = inc) (r2 : vGone l year = vg) (r3 : curVec l inc most year = vec) (r4 : vec.sum = us) (r5 : curNew inc = nw) (r6 : curTaxable l inc most year = tx) (r7 : ofVal tx r = ov) (r8 : curNext l inc most life year = nx) (r9 : vec.length = n) :
    Calls Try.prog 36 #[.pointer (some ⟨b, 0, none⟩), .int .i64 bk, .int .i64 pm, .int .i64 mv, .int .i64 most, .int .i64 life, .int .i64 year, .int .i64 r] w fun e w' =>
      ∃ h' b' hv V cap, e = .returned (.tuple #[.agg #[.int .i64 inc, .int .i64 vg, .int .i64 us, .int .i64 nw, .int .i64 tx, .int .i64 ov, .slice V n cap], .pointer (some ⟨b', 0, none⟩), .int .i64 0]) ∧
        Los h' b' nx ∧ Ow kInt hv V cap vec ∧ Env w0 w' (L ++ [h', hv]) := by
  subst r1 r2 r3 r4 r5 r6 r7 r8 r9
  exact (refTax_calls h b l bk pm mv most life year r w (E.sub i hi) S).mono fun _ _ hh => by
    rcases hh with ⟨h1, _⟩ | ⟨_, h', b', hv, V, cap, he, hS, ho, hE'⟩
    · exact absurd hE h1
    · exact ⟨h', b', hv, V, cap, he, hS, ho, E.join hE'⟩
end
end Go.Proofs.Ytpigoegjoagbnaa
end
section
/- The walk of law15.CurrentTells. -/
namespace Go.Proofs.Ytpigoegjoagbnaa
open Go.RowKit Go.Sl
set_option maxHeartbeats 4000000
set_option maxRecDepth 100000
set_option linter.unusedSimpArgs false
theorem curTells_calls (A : Option Addr) (ca : Nat) (zs : List Int) (k : Hp) (a1 a2 a3 a4 a5 a6 a7 a8 : Int) (w : World) (ks : k.sub w) (sx : Sl kInt k A ca zs) (hz : ∀ n ∈ zs, I64 n) (i1 : I64 a1) (i2 : I64 a2) (i3 : I64 a3) :
    Calls Try.prog 10 #[.slice A zs.length ca, .int .i64 a1, .int .i64 a2, .int .i64 a3, .int .i64 a4, .int .i64 a5, .int .i64 a6, .int .i64 a7, .int .i64 a8] w fun e w' => e = .returned (.bool true) ∧ Below w.heap.size w w' := by
  have m1 := sx.small
  have LC := playLosses_calls A ca zs k w ks sx hz
  clear hz
  have A1 := fun W => amount_calls a1 ⟨i1.1, i1.2⟩ W
  have A2 := fun W => amount_calls a2 ⟨i2.1, i2.2⟩ W
  have A3 := fun W => amount_calls a3 ⟨i3.1, i3.2⟩ W
  generalize lossOf zs = l at *
  generalize amount a1 = bk at *
  generalize amount a2 = pm at *
  generalize amount a3 = mv at *
  go_enter Try.func10, Try.ntmps10
  go_wp2_with fail
  refine LC.mono ?_
  rintro e w1 ⟨h1, b1, rfl, S1, E1⟩
  go_wp2_with fail
  refine (of13_calls b1 h1 l w1 (E1.sub 0 rfl) S1).mono ?_
  rintro e w2 ⟨h2, b2, rfl, S2, F2⟩
  have E2 := E1.join F2
  simp at E2
  go_wp2_with fail
  refine (A1 _).mono ?_
  rintro e w' ⟨rfl, rfl⟩
  go_wp2_with fail
  refine (A2 _).mono ?_
  rintro e w' ⟨rfl, rfl⟩
  go_wp2_with fail
  refine (A3 _).mono ?_
  rintro e w' ⟨rfl, rfl⟩
  clear A1 A2 A3 LC F2
  by_cases h7 : a8.tmod 7 = 6
  · have t7 : (a8.tmod 7 == 6) = true := by simpa using h7
    have t7' : (a8.tmod 7 != 6) = false := by simpa using h7
    clear h7
    go_upto_region 8 with fail
    generalize a4 = most at *
    generalize a5 = life at *
    generalize a6 = year at *
    generalize a7 = r at *
    clear t7 t7'
    rcases Int.decEq (curE l bk pm mv most life year r) 0 with hE | hE
    · obtain ⟨q, hq⟩ : ∃ q, curE l bk pm mv most life year r = q := ⟨_, rfl⟩
      rw [hq] at hE
      have HQ := Lib.hid hq
      have HNe := Lib.hid hE
      have t1 : (q == 0) = false := by simpa using hE
      have t2 : (q != 0) = true := by simpa using hE
      clear hE hq
      go_wp2_with fail
      refine (Vnt.tax_err S2 E2 1 rfl bk pm mv most life year r HQ.out HNe.out).mono ?_
      rintro e w3 ⟨rfl, E3⟩
      go_upto_region 9 with fail
      replace E3 := E3.alloc (.cells #[.int .i64 0, .int .i64 0, .int .i64 0, .int .i64 0, .int .i64 0, .int .i64 0, .slice none 0 0] 51)
      simp at E3
      obtain ⟨W3, hW3⟩ : ∃ W3 : World, W3 = w3.alloc (.cells #[.int .i64 0, .int .i64 0, .int .i64 0, .int .i64 0, .int .i64 0, .int .i64 0, .slice none 0 0] 51) := ⟨_, rfl⟩
      rw [← hW3] at E3
      rw [← hW3]
      clear hW3
      have y0 := E3.cell 2 rfl 0 rfl
      have y1 := E3.cell 2 rfl 1 rfl
      have y2 := E3.cell 2 rfl 2 rfl
      have y3 := E3.cell 2 rfl 3 rfl
      have y4 := E3.cell 2 rfl 4 rfl
      have y5 := E3.cell 2 rfl 5 rfl
      have y6 := E3.cell 2 rfl 6 rfl
      go_wp2_with fail
      refine (Los.tax_err S1 E3 0 rfl bk pm mv most life year r HQ.out HNe.out).mono ?_
      rintro e w4 ⟨rfl, E4⟩
      clear y0 y1 y2 y3 y4 y5 y6
      go_upto_region 10 with fail
      replace E4 := E4.alloc (.cells #[.int .i64 0, .int .i64 0, .int .i64 0, .int .i64 0, .int .i64 0, .int .i64 0, .slice none 0 0] 60)
      simp at E4
      obtain ⟨W4, hW4⟩ : ∃ W4 : World, W4 = w4.alloc (.cells #[.int .i64 0, .int .i64 0, .int .i64 0, .int .i64 0, .int .i64 0, .int .i64 0, .slice none 0 0] 60) := ⟨_, rfl⟩
      rw [← hW4] at E4
      rw [← hW4]
      clear hW4
      have z0 := E4.cell 3 rfl 0 rfl
      have z1 := E4.cell 3 rfl 1 rfl
      have z2 := E4.cell 3 rfl 2 rfl
      have z3 := E4.cell 3 rfl 3 rfl
      have z4 := E4.cell 3 rfl 4 rfl
      have z5 := E4.cell 3 rfl 5 rfl
      have z6 := E4.cell 3 rfl 6 rfl
      have y := E4.cell 2 rfl
      have y0 := y 0 rfl
      have y1 := y 1 rfl
      have y2 := y 2 rfl
      have y3 := y 3 rfl
      have y4 := y 4 rfl
      have y5 := y 5 rfl
      have y6 := y 6 rfl
      clear y
      go_wp2_with fail
      refine (same15_calls 0 0 0 0 0 0 none none 0 0 [] 0 rfl Hp.none Hp.none _ (Hp.none_sub _) (Hp.none_sub _) (Sl.none _ _) (Sl.none _ _)).mono ?_
      rintro e w5 ⟨rfl, B5⟩
      have E5 := ((E4.below B5).drop 3).drop 2
      simp at E5
      obtain ⟨cs1, hb1, A1, ca1, rfl, ow1⟩ := S1.pt
      have sl1 := ow1.sl.mono (Hp.del_le h1 b1)
      have KC : ∀ V L, Env w V L → L[0]? = some h1 → V.cell? ⟨b1, 0, none⟩ = some (.slice A1 l.length ca1) := fun V L E i => by
        rw [cell_of_row V b1 0 _ _ _ (E.sub 0 i _ _ hb1)]; rfl
      have kc := KC _ _ E5 rfl
      go_upto_region 12 with fail
      refine wp_region_held_drew (S := (fun V => V.cell? ⟨b1, 0, none⟩ = some (.slice A1 l.length ca1))) (by kernel_rfl) ?_ (fun hHeld => ?_)
      · (try dsimp only)
        first | (go_keep)
      refine take_on (i := 0) (by (simp only [List.getElem?_toArray, List.getElem?_cons_succ, List.getElem?_cons_zero]) <;> rfl) (by kernel_rfl) (by kernel_rfl) (by kernel_rfl) (by intro _ _ _ _ h; exact h) (by rfl) (by assumption) ?_
      apply Exists.intro
      refine ⟨?_, ?_⟩
      · intro W0 hSw
        try dsimp only at hSw
        go_simp
        try (with_reducible rfl)
      try simp only [Act.put, List.setIfInBounds_toArray, List.set_cons_zero, List.set_cons_succ]
      refine take_on (i := 1) (by (simp only [List.getElem?_toArray, List.getElem?_cons_succ, List.getElem?_cons_zero]) <;> rfl) (by kernel_rfl) (by kernel_rfl) (by kernel_rfl) (by intro _ _ _ _ h; exact h) (by rfl) (by assumption) ?_
      apply Exists.intro
      refine ⟨?_, ?_⟩
      · intro W0 hSw
        try dsimp only at hSw
        go_simp
        try (with_reducible rfl)
      try simp only [Act.put, List.setIfInBounds_toArray, List.set_cons_zero, List.set_cons_succ]
      refine take_on (i := 2) (by (simp only [List.getElem?_toArray, List.getElem?_cons_succ, List.getElem?_cons_zero]) <;> rfl) (by kernel_rfl) (by kernel_rfl) (by kernel_rfl) (by intro _ _ _ _ h; exact h) (by rfl) (by assumption) ?_
      apply Exists.intro
      refine ⟨?_, ?_⟩
      · intro W0 hSw
        try dsimp only at hSw
        go_simp
        try (with_reducible rfl)
      try simp only [Act.put, List.setIfInBounds_toArray, List.set_cons_zero, List.set_cons_succ]
      refine take_off (i := 3) (by (simp only [List.getElem?_toArray, List.getElem?_cons_succ, List.getElem?_cons_zero]) <;> rfl) (by kernel_rfl) (by kernel_rfl) (by kernel_rfl) (by intro _ _ _ _ h; exact h) (by rfl) (by assumption) ?_
      try simp only [Act.put, List.setIfInBounds_toArray, List.set_cons_zero, List.set_cons_succ]
      refine take_off (i := 5) (by (simp only [List.getElem?_toArray, List.getElem?_cons_succ, List.getElem?_cons_zero]) <;> rfl) (by kernel_rfl) (by kernel_rfl) (by kernel_rfl) (by intro _ _ _ _ h; exact h) (by rfl) (by assumption) ?_
      try simp only [Act.put, List.setIfInBounds_toArray, List.set_cons_zero, List.set_cons_succ]
      refine take_off (i := 6) (by (simp only [List.getElem?_toArray, List.getElem?_cons_succ, List.getElem?_cons_zero]) <;> rfl) (by kernel_rfl) (by kernel_rfl) (by kernel_rfl) (by intro _ _ _ _ h; exact h) (by rfl) (by assumption) ?_
      try simp only [Act.put, List.setIfInBounds_toArray, List.set_cons_zero, List.set_cons_succ]
      refine take_off (i := 7) (by (simp only [List.getElem?_toArray, List.getElem?_cons_succ, List.getElem?_cons_zero]) <;> rfl) (by kernel_rfl) (by kernel_rfl) (by kernel_rfl) (by intro _ _ _ _ h; exact h) (by rfl) (by assumption) ?_
      try simp only [Act.put, List.setIfInBounds_toArray, List.set_cons_zero, List.set_cons_succ]
      refine take_off (i := 8) (by (simp only [List.getElem?_toArray, List.getElem?_cons_succ, List.getElem?_cons_zero]) <;> rfl) (by kernel_rfl) (by kernel_rfl) (by kernel_rfl) (by intro _ _ _ _ h; exact h) (by rfl) (by assumption) ?_
      try simp only [Act.put, List.setIfInBounds_toArray, List.set_cons_zero, List.set_cons_succ]
      refine take_off (i := 4) (by (simp only [List.getElem?_toArray, List.getElem?_cons_succ, List.getElem?_cons_zero]) <;> rfl) (by kernel_rfl) (by kernel_rfl) (by kernel_rfl) (by intro _ _ _ _ h; exact h) (by rfl) (by assumption) ?_
      try simp only [Act.put, List.setIfInBounds_toArray, List.set_cons_zero, List.set_cons_succ]
      refine take_off (i := 9) (by (simp only [List.getElem?_toArray, List.getElem?_cons_succ, List.getElem?_cons_zero]) <;> rfl) (by kernel_rfl) (by kernel_rfl) (by kernel_rfl) (by intro _ _ _ _ h; exact h) (by rfl) (by assumption) ?_
      try simp only [Act.put, List.setIfInBounds_toArray, List.set_cons_zero, List.set_cons_succ]
      refine take_on (i := 10) (by (simp only [List.getElem?_toArray, List.getElem?_cons_succ, List.getElem?_cons_zero]) <;> rfl) (by kernel_rfl) (by kernel_rfl) (by kernel_rfl) (by intro _ _ _ _ h; exact h) (by rfl) (by assumption) ?_
      apply Exists.intro
      refine ⟨?_, ?_⟩
      · intro W0 hSw
        try dsimp only at hSw
        go_simp
        try (with_reducible rfl)
      try simp only [Act.put, List.setIfInBounds_toArray, List.set_cons_zero, List.set_cons_succ]
      refine take_on (i := 11) (by (simp only [List.getElem?_toArray, List.getElem?_cons_succ, List.getElem?_cons_zero]) <;> rfl) (by kernel_rfl) (by kernel_rfl) (by kernel_rfl) (by intro _ _ _ _ h; exact h) (by rfl) (by assumption) ?_
      apply Exists.intro
      refine ⟨?_, ?_⟩
      · intro W0 hSw
        try dsimp only at hSw
        go_simp
        try (with_reducible rfl)
      try simp only [Act.put, List.setIfInBounds_toArray, List.set_cons_zero, List.set_cons_succ]
      refine take_on (i := 12) (by (simp only [List.getElem?_toArray, List.getElem?_cons_succ, List.getElem?_cons_zero]) <;> rfl) (by kernel_rfl) (by kernel_rfl) (by kernel_rfl) (by intro _ _ _ _ h; exact h) (by rfl) (by assumption) ?_
      apply Exists.intro
      refine ⟨?_, ?_⟩
      · intro W0 hSw
        try dsimp only at hSw
        go_simp
        try (with_reducible rfl)
      try simp only [Act.put, List.setIfInBounds_toArray, List.set_cons_zero, List.set_cons_succ]
      refine take_on (i := 14) (by (simp only [List.getElem?_toArray, List.getElem?_cons_succ, List.getElem?_cons_zero]) <;> rfl) (by kernel_rfl) (by kernel_rfl) (by kernel_rfl) (by intro _ _ _ _ h; exact h) (by rfl) (by assumption) ?_
      apply Exists.intro
      refine ⟨?_, ?_⟩
      · intro W0 hSw
        try dsimp only at hSw
        go_simp
        try (with_reducible rfl)
      try simp only [Act.put, List.setIfInBounds_toArray, List.set_cons_zero, List.set_cons_succ]
      refine take_on (i := 15) (by (simp only [List.getElem?_toArray, List.getElem?_cons_succ, List.getElem?_cons_zero]) <;> rfl) (by kernel_rfl) (by kernel_rfl) (by kernel_rfl) (by intro _ _ _ _ h; exact h) (by rfl) (by assumption) ?_
      apply Exists.intro
      refine ⟨?_, ?_⟩
      · intro W0 hSw
        try dsimp only at hSw
        go_simp
        try (with_reducible rfl)
      try simp only [Act.put, List.setIfInBounds_toArray, List.set_cons_zero, List.set_cons_succ]
      refine take_on (i := 16) (by (simp only [List.getElem?_toArray, List.getElem?_cons_succ, List.getElem?_cons_zero]) <;> rfl) (by kernel_rfl) (by kernel_rfl) (by kernel_rfl) (by intro _ _ _ _ h; exact h) (by rfl) (by assumption) ?_
      apply Exists.intro
      refine ⟨?_, ?_⟩
      · intro W0 hSw
        try dsimp only at hSw
        go_simp
        try (with_reducible rfl)
      try simp only [Act.put, List.setIfInBounds_toArray, List.set_cons_zero, List.set_cons_succ]
      refine take_on (i := 17) (by (simp only [List.getElem?_toArray, List.getElem?_cons_succ, List.getElem?_cons_zero]) <;> rfl) (by kernel_rfl) (by kernel_rfl) (by kernel_rfl) (by intro _ _ _ _ h; exact h) (by rfl) (by assumption) ?_
      apply Exists.intro
      refine ⟨?_, ?_⟩
      · intro W0 hSw
        try dsimp only at hSw
        go_simp
        try (with_reducible rfl)
      try simp only [Act.put, List.setIfInBounds_toArray, List.set_cons_zero, List.set_cons_succ]
      refine wpAnyH_ready (rs := [13]) (by kernel_rfl) (by simp) ?_
      refine AllReadyH.cons (by (simp only [List.getElem?_toArray, List.getElem?_cons_succ, List.getElem?_cons_zero]) <;> rfl) (fun K hK => ?_) AllReadyH.nil
      go_simp
      refine (Vnt.rows S2 (by repeat (first | (with_reducible exact E5) | (with_reducible apply Env.drew) | (with_reducible apply Env.drewN) | (with_reducible apply Env.alloc'))) 1 rfl l.length rfl).mono ?_
      rintro e w6 ⟨C6, n6, h6, rfl, o6, E6⟩
      simp at E6
      have hkeep := KC _ _ E6 rfl
      go_wp2_with fail
      refine hK.out _ _ ?_ (fun hHeld => ?_)
      · (try dsimp only)
        first | (exact hkeep) | (go_keep)
      clear hK K
      try simp only [Act.put, List.setIfInBounds_toArray, List.set_cons_zero, List.set_cons_succ]
      refine wpAnyH_ready (rs := [18]) (by kernel_rfl) (by simp) ?_
      refine AllReadyH.cons (by (simp only [List.getElem?_toArray, List.getElem?_cons_succ, List.getElem?_cons_zero]) <;> rfl) (fun K hK => ?_) AllReadyH.nil
      go_simp
      have SB := same_vint C6 A1 n6 ca1 l l h6 h1 w6 (E6.sub 2 rfl) (E6.sub 0 rfl) o6.sl sl1
      rw [eqB_t rfl] at SB
      refine SB.mono ?_
      rintro e w7 ⟨rfl, B7⟩
      have E7 := E6.below B7
      have hkeep := KC _ _ E7 rfl
      go_wp2_with fail
      refine hK.out _ _ ?_ (fun hHeld => ?_)
      · (try dsimp only)
        first | (exact hkeep) | (go_keep)
      clear hK K
      try simp only [Act.put, List.setIfInBounds_toArray, List.set_cons_zero, List.set_cons_succ]
      refine take_on (i := 19) (by (simp only [List.getElem?_toArray, List.getElem?_cons_succ, List.getElem?_cons_zero]) <;> rfl) (by kernel_rfl) (by kernel_rfl) (by kernel_rfl) (by intro _ _ _ _ h; exact h) (by rfl) (by assumption) ?_
      apply Exists.intro
      refine ⟨?_, ?_⟩
      · intro W0 hSw
        try dsimp only at hSw
        go_simp
        try (with_reducible rfl)
      try simp only [Act.put, List.setIfInBounds_toArray, List.set_cons_zero, List.set_cons_succ]
      refine take_on (i := 20) (by (simp only [List.getElem?_toArray, List.getElem?_cons_succ, List.getElem?_cons_zero]) <;> rfl) (by kernel_rfl) (by kernel_rfl) (by kernel_rfl) (by intro _ _ _ _ h; exact h) (by rfl) (by assumption) ?_
      apply Exists.intro
      refine ⟨?_, ?_⟩
      · intro W0 hSw
        try dsimp only at hSw
        go_simp
        try (with_reducible rfl)
      try simp only [Act.put, List.setIfInBounds_toArray, List.set_cons_zero, List.set_cons_succ]
      refine wpAnyH_ready (rs := [21]) (by kernel_rfl) (by simp) ?_
      refine AllReadyH.cons (by (simp only [List.getElem?_toArray, List.getElem?_cons_succ, List.getElem?_cons_zero]) <;> rfl) (fun K hK => ?_) AllReadyH.nil
      go_simp
      refine (wakes15 _).mono ?_
      rintro e w8 ⟨rfl, B8⟩
      have E8 := E7.below B8
      have hkeep := KC _ _ E8 rfl
      go_wp2_with fail
      refine hK.out _ _ ?_ (fun hHeld => ?_)
      · (try dsimp only)
        first | (exact hkeep) | (go_keep)
      clear hK K
      try simp only [Act.put, List.setIfInBounds_toArray, List.set_cons_zero, List.set_cons_succ]
      refine take_on (i := 22) (by (simp only [List.getElem?_toArray, List.getElem?_cons_succ, List.getElem?_cons_zero]) <;> rfl) (by kernel_rfl) (by kernel_rfl) (by kernel_rfl) (by intro _ _ _ _ h; exact h) (by rfl) (by assumption) ?_
      apply Exists.intro
      refine ⟨?_, ?_⟩
      · intro W0 hSw
        try dsimp only at hSw
        go_simp
        try (with_reducible rfl)
      try simp only [Act.put, List.setIfInBounds_toArray, List.set_cons_zero, List.set_cons_succ]
      refine take_on (i := 23) (by (simp only [List.getElem?_toArray, List.getElem?_cons_succ, List.getElem?_cons_zero]) <;> rfl) (by kernel_rfl) (by kernel_rfl) (by kernel_rfl) (by intro _ _ _ _ h; exact h) (by rfl) (by assumption) ?_
      apply Exists.intro
      refine ⟨?_, ?_⟩
      · intro W0 hSw
        try dsimp only at hSw
        go_simp
        try (with_reducible rfl)
      try simp only [Act.put, List.setIfInBounds_toArray, List.set_cons_zero, List.set_cons_succ]
      refine wpAnyH_done (by kernel_rfl) ?_ _
      go_wp2
      go_ret
      exact ⟨rfl, E8.low⟩
    · have HQ := Lib.hid hE
      clear hE
      obtain ⟨inc, hinc⟩ : ∃ i, incV bk pm mv = i := ⟨_, rfl⟩
      obtain ⟨vg, hvg⟩ : ∃ i, vGone l year = i := ⟨_, rfl⟩
      obtain ⟨vec, hvec⟩ : ∃ i, curVec l inc most year = i := ⟨_, rfl⟩
      obtain ⟨us, hus⟩ : ∃ i, vec.sum = i := ⟨_, rfl⟩
      obtain ⟨nw, hnw⟩ : ∃ i, curNew inc = i := ⟨_, rfl⟩
      obtain ⟨tx, htx⟩ : ∃ i, curTaxable l inc most year = i := ⟨_, rfl⟩
      obtain ⟨ov, hov⟩ : ∃ i, ofVal tx r = i := ⟨_, rfl⟩
      obtain ⟨nx, hnx⟩ : ∃ i, curNext l inc most life year = i := ⟨_, rfl⟩
      obtain ⟨vn, hvn⟩ : ∃ i, vec.length = i := ⟨_, rfl⟩
      have R1 := Lib.hid hinc
      have R2 := Lib.hid hvg
      have R3 := Lib.hid hvec
      have R4 := Lib.hid hus
      have R5 := Lib.hid hnw
      have R6 := Lib.hid htx
      have R7 := Lib.hid hov
      have R8 := Lib.hid hnx
      have R9 := Lib.hid hvn
      clear hinc hvg hvec hus hnw htx hov hnx hvn
      go_wp2_with fail
      refine (Vnt.tax_ok S2 E2 1 rfl bk pm mv most life year r HQ.out R1.out R2.out R3.out R4.out R5.out R6.out R7.out R8.out R9.out).mono ?_
      rintro e w3 ⟨h3, b3, hv3, V3, cp3, rfl, S3, o3, E3⟩
      simp at E3
      go_upto_region 9 with fail
      replace E3 := E3.alloc (.cells #[.int .i64 inc, .int .i64 vg, .int .i64 us, .int .i64 nw, .int .i64 tx, .int .i64 ov, .slice V3 vn cp3] 51)
      simp at E3
      obtain ⟨W3, hW3⟩ : ∃ W3 : World, W3 = w3.alloc (.cells #[.int .i64 inc, .int .i64 vg, .int .i64 us, .int .i64 nw, .int .i64 tx, .int .i64 ov, .slice V3 vn cp3] 51) := ⟨_, rfl⟩
      rw [← hW3] at E3
      rw [← hW3]
      clear hW3
      have y0 := E3.cell 4 rfl 0 rfl
      have y1 := E3.cell 4 rfl 1 rfl
      have y2 := E3.cell 4 rfl 2 rfl
      have y3 := E3.cell 4 rfl 3 rfl
      have y4 := E3.cell 4 rfl 4 rfl
      have y5 := E3.cell 4 rfl 5 rfl
      have y6 := E3.cell 4 rfl 6 rfl
      go_wp2_with fail
      refine (Los.tax_ok S1 E3 0 rfl bk pm mv most life year r HQ.out R1.out R2.out R3.out R4.out R5.out R6.out R7.out R8.out R9.out).mono ?_
      rintro e w4 ⟨h4, b4, hv4, V4, cp4, rfl, S4, o4, E4⟩
      simp at E4
      clear y0 y1 y2 y3 y4 y5 y6
      go_upto_region 10 with fail
      replace E4 := E4.alloc (.cells #[.int .i64 inc, .int .i64 vg, .int .i64 us, .int .i64 nw, .int .i64 tx, .int .i64 ov, .slice V4 vn cp4] 60)
      simp at E4
      obtain ⟨W4, hW4⟩ : ∃ W4 : World, W4 = w4.alloc (.cells #[.int .i64 inc, .int .i64 vg, .int .i64 us, .int .i64 nw, .int .i64 tx, .int .i64 ov, .slice V4 vn cp4] 60) := ⟨_, rfl⟩
      rw [← hW4] at E4
      rw [← hW4]
      clear hW4
      have z0 := E4.cell 7 rfl 0 rfl
      have z1 := E4.cell 7 rfl 1 rfl
      have z2 := E4.cell 7 rfl 2 rfl
      have z3 := E4.cell 7 rfl 3 rfl
      have z4 := E4.cell 7 rfl 4 rfl
      have z5 := E4.cell 7 rfl 5 rfl
      have z6 := E4.cell 7 rfl 6 rfl
      have y0 := E4.cell 4 rfl 0 rfl
      have y1 := E4.cell 4 rfl 1 rfl
      have y2 := E4.cell 4 rfl 2 rfl
      have y3 := E4.cell 4 rfl 3 rfl
      have y4 := E4.cell 4 rfl 4 rfl
      have y5 := E4.cell 4 rfl 5 rfl
      have y6 := E4.cell 4 rfl 6 rfl
      go_wp2_with fail
      refine (same15_calls inc vg us nw tx ov V3 V4 cp3 cp4 vec vn R9.out hv3 hv4 _ (E4.sub 3 rfl) (E4.sub 6 rfl) o3.sl o4.sl).mono ?_
      rintro e w5 ⟨rfl, B5⟩
      have E5 := (((E4.below B5).drop 7).drop 6).drop 4
      simp at E5
      clear y0 y1 y2 y3 y4 y5 y6 z0 z1 z2 z3 z4 z5 z6 E4 E3
      obtain ⟨cs1, hb1, A1, ca1, rfl, ow1⟩ := S1.pt
      have sl1 := ow1.sl.mono (Hp.del_le h1 b1)
      obtain ⟨cs4, hb4, A4, ca4, rfl, ow4⟩ := S4.pt
      have sl4 := ow4.sl.mono (Hp.del_le h4 b4)
      have KC : ∀ V L, Env w V L → L[0]? = some h1 → L[4]? = some h4 → V.cell? ⟨b1, 0, none⟩ = some (.slice A1 l.length ca1) ∧ V.cell? ⟨b4, 0, none⟩ = some (.slice A4 nx.length ca4) := fun V L E i j => by
        constructor
        · rw [cell_of_row V b1 0 _ _ _ (E.sub 0 i _ _ hb1)]; rfl
        · rw [cell_of_row V b4 0 _ _ _ (E.sub 4 j _ _ hb4)]; rfl
      obtain ⟨kc1, kc4⟩ := KC _ _ E5 rfl rfl
      go_upto_region 12 with fail
      refine wp_region_held_drew (S := (fun V => V.cell? ⟨b1, 0, none⟩ = some (.slice A1 l.length ca1) ∧ V.cell? ⟨b4, 0, none⟩ = some (.slice A4 nx.length ca4))) (by kernel_rfl) ?_ (fun hHeld => ?_)
      · (try dsimp only)
        first | (go_keep)
      refine take_on (i := 0) (by (simp only [List.getElem?_toArray, List.getElem?_cons_succ, List.getElem?_cons_zero]) <;> rfl) (by kernel_rfl) (by kernel_rfl) (by kernel_rfl) (by intro _ _ _ _ h; exact h) (by rfl) (by assumption) ?_
      apply Exists.intro
      refine ⟨?_, ?_⟩
      · intro W0 hSw
        try dsimp only at hSw
        go_simp
        try (with_reducible rfl)
      try simp only [Act.put, List.setIfInBounds_toArray, List.set_cons_zero, List.set_cons_succ]
      refine take_on (i := 1) (by (simp only [List.getElem?_toArray, List.getElem?_cons_succ, List.getElem?_cons_zero]) <;> rfl) (by kernel_rfl) (by kernel_rfl) (by kernel_rfl) (by intro _ _ _ _ h; exact h) (by rfl) (by assumption) ?_
      apply Exists.intro
      refine ⟨?_, ?_⟩
      · intro W0 hSw
        try dsimp only at hSw
        go_simp
        try (with_reducible rfl)
      try simp only [Act.put, List.setIfInBounds_toArray, List.set_cons_zero, List.set_cons_succ]
      refine take_on (i := 2) (by (simp only [List.getElem?_toArray, List.getElem?_cons_succ, List.getElem?_cons_zero]) <;> rfl) (by kernel_rfl) (by kernel_rfl) (by kernel_rfl) (by intro _ _ _ _ h; exact h) (by rfl) (by assumption) ?_
      apply Exists.intro
      refine ⟨?_, ?_⟩
      · intro W0 hSw
        try dsimp only at hSw
        go_simp
        try (with_reducible rfl)
      try simp only [Act.put, List.setIfInBounds_toArray, List.set_cons_zero, List.set_cons_succ]
      refine take_on (i := 3) (by (simp only [List.getElem?_toArray, List.getElem?_cons_succ, List.getElem?_cons_zero]) <;> rfl) (by kernel_rfl) (by kernel_rfl) (by kernel_rfl) (by intro _ _ _ _ h; exact h) (by rfl) (by assumption) ?_
      apply Exists.intro
      refine ⟨?_, ?_⟩
      · intro W0 hSw
        try dsimp only at hSw
        go_simp
        try (with_reducible rfl)
      try simp only [Act.put, List.setIfInBounds_toArray, List.set_cons_zero, List.set_cons_succ]
      refine take_on (i := 5) (by (simp only [List.getElem?_toArray, List.getElem?_cons_succ, List.getElem?_cons_zero]) <;> rfl) (by kernel_rfl) (by kernel_rfl) (by kernel_rfl) (by intro _ _ _ _ h; exact h) (by rfl) (by assumption) ?_
      apply Exists.intro
      refine ⟨?_, ?_⟩
      · intro W0 hSw
        try dsimp only at hSw
        go_simp
        try (with_reducible rfl)
      try simp only [Act.put, List.setIfInBounds_toArray, List.set_cons_zero, List.set_cons_succ]
      refine take_on (i := 6) (by (simp only [List.getElem?_toArray, List.getElem?_cons_succ, List.getElem?_cons_zero]) <;> rfl) (by kernel_rfl) (by kernel_rfl) (by kernel_rfl) (by intro _ _ _ _ h; exact h) (by rfl) (by assumption) ?_
      apply Exists.intro
      refine ⟨?_, ?_⟩
      · intro W0 hSw
        try dsimp only at hSw
        go_simp
        try (with_reducible rfl)
      try simp only [Act.put, List.setIfInBounds_toArray, List.set_cons_zero, List.set_cons_succ]
      refine take_on (i := 7) (by (simp only [List.getElem?_toArray, List.getElem?_cons_succ, List.getElem?_cons_zero]) <;> rfl) (by kernel_rfl) (by kernel_rfl) (by kernel_rfl) (by intro _ _ _ _ h; exact h) (by rfl) (by assumption) ?_
      apply Exists.intro
      refine ⟨?_, ?_⟩
      · intro W0 hSw
        try dsimp only at hSw
        go_simp
        try (with_reducible rfl)
      try simp only [Act.put, List.setIfInBounds_toArray, List.set_cons_zero, List.set_cons_succ]
      refine take_on (i := 8) (by (simp only [List.getElem?_toArray, List.getElem?_cons_succ, List.getElem?_cons_zero]) <;> rfl) (by kernel_rfl) (by kernel_rfl) (by kernel_rfl) (by intro _ _ _ _ h; exact h) (by rfl) (by assumption) ?_
      apply Exists.intro
      refine ⟨?_, ?_⟩
      · intro W0 hSw
        try dsimp only at hSw
        go_simp
        try (with_reducible rfl)
      try simp only [Act.put, List.setIfInBounds_toArray, List.set_cons_zero, List.set_cons_succ]
      refine wpAnyH_ready (rs := [4]) (by kernel_rfl) (by simp) ?_
      refine AllReadyH.cons (by (simp only [List.getElem?_toArray, List.getElem?_cons_succ, List.getElem?_cons_zero]) <;> rfl) (fun K hK => ?_) AllReadyH.nil
      go_simp
      refine (Vnt.rows S3 (by repeat (first | (with_reducible exact E5) | (with_reducible apply Env.drew) | (with_reducible apply Env.drewN) | (with_reducible apply Env.alloc'))) 2 rfl nx.length rfl).mono ?_
      rintro e w6 ⟨C6, n6, h6, rfl, o6, E6⟩
      simp at E6
      have hkeep := KC _ _ E6 rfl rfl
      go_wp2_with fail
      refine hK.out _ _ ?_ (fun hHeld => ?_)
      · (try dsimp only)
        first | (exact hkeep) | (go_keep)
      clear hK K
      try simp only [Act.put, List.setIfInBounds_toArray, List.set_cons_zero, List.set_cons_succ]
      refine wpAnyH_ready (rs := [9]) (by kernel_rfl) (by simp) ?_
      refine AllReadyH.cons (by (simp only [List.getElem?_toArray, List.getElem?_cons_succ, List.getElem?_cons_zero]) <;> rfl) (fun K hK => ?_) AllReadyH.nil
      go_simp
      have SB := same_vint C6 A4 n6 ca4 nx nx h6 h4 w6 (E6.sub 5 rfl) (E6.sub 4 rfl) o6.sl sl4
      rw [eqB_t rfl] at SB
      refine SB.mono ?_
      rintro e w7 ⟨rfl, B7⟩
      have E7 := (E6.below B7).drop 5
      simp at E7
      have hkeep := KC _ _ E7 rfl rfl
      go_wp2_with fail
      refine hK.out _ _ ?_ (fun hHeld => ?_)
      · (try dsimp only)
        first | (exact hkeep) | (go_keep)
      clear hK K
      try simp only [Act.put, List.setIfInBounds_toArray, List.set_cons_zero, List.set_cons_succ]
      refine take_on (i := 10) (by (simp only [List.getElem?_toArray, List.getElem?_cons_succ, List.getElem?_cons_zero]) <;> rfl) (by kernel_rfl) (by kernel_rfl) (by kernel_rfl) (by intro _ _ _ _ h; exact h) (by rfl) (by assumption) ?_
      apply Exists.intro
      refine ⟨?_, ?_⟩
      · intro W0 hSw
        try dsimp only at hSw
        go_simp
        try (with_reducible rfl)
      try simp only [Act.put, List.setIfInBounds_toArray, List.set_cons_zero, List.set_cons_succ]
      refine take_on (i := 11) (by (simp only [List.getElem?_toArray, List.getElem?_cons_succ, List.getElem?_cons_zero]) <;> rfl) (by kernel_rfl) (by kernel_rfl) (by kernel_rfl) (by intro _ _ _ _ h; exact h) (by rfl) (by assumption) ?_
      apply Exists.intro
      refine ⟨?_, ?_⟩
      · intro W0 hSw
        try dsimp only at hSw
        go_simp
        try (with_reducible rfl)
      try simp only [Act.put, List.setIfInBounds_toArray, List.set_cons_zero, List.set_cons_succ]
      refine take_on (i := 12) (by (simp only [List.getElem?_toArray, List.getElem?_cons_succ, List.getElem?_cons_zero]) <;> rfl) (by kernel_rfl) (by kernel_rfl) (by kernel_rfl) (by intro _ _ _ _ h; exact h) (by rfl) (by assumption) ?_
      apply Exists.intro
      refine ⟨?_, ?_⟩
      · intro W0 hSw
        try dsimp only at hSw
        go_simp
        try (with_reducible rfl)
      try simp only [Act.put, List.setIfInBounds_toArray, List.set_cons_zero, List.set_cons_succ]
      refine take_on (i := 14) (by (simp only [List.getElem?_toArray, List.getElem?_cons_succ, List.getElem?_cons_zero]) <;> rfl) (by kernel_rfl) (by kernel_rfl) (by kernel_rfl) (by intro _ _ _ _ h; exact h) (by rfl) (by assumption) ?_
      apply Exists.intro
      refine ⟨?_, ?_⟩
      · intro W0 hSw
        try dsimp only at hSw
        go_simp
        try (with_reducible rfl)
      try simp only [Act.put, List.setIfInBounds_toArray, List.set_cons_zero, List.set_cons_succ]
      refine take_on (i := 15) (by (simp only [List.getElem?_toArray, List.getElem?_cons_succ, List.getElem?_cons_zero]) <;> rfl) (by kernel_rfl) (by kernel_rfl) (by kernel_rfl) (by intro _ _ _ _ h; exact h) (by rfl) (by assumption) ?_
      apply Exists.intro
      refine ⟨?_, ?_⟩
      · intro W0 hSw
        try dsimp only at hSw
        go_simp
        try (with_reducible rfl)
      try simp only [Act.put, List.setIfInBounds_toArray, List.set_cons_zero, List.set_cons_succ]
      refine take_on (i := 16) (by (simp only [List.getElem?_toArray, List.getElem?_cons_succ, List.getElem?_cons_zero]) <;> rfl) (by kernel_rfl) (by kernel_rfl) (by kernel_rfl) (by intro _ _ _ _ h; exact h) (by rfl) (by assumption) ?_
      apply Exists.intro
      refine ⟨?_, ?_⟩
      · intro W0 hSw
        try dsimp only at hSw
        go_simp
        try (with_reducible rfl)
      try simp only [Act.put, List.setIfInBounds_toArray, List.set_cons_zero, List.set_cons_succ]
      refine take_on (i := 17) (by (simp only [List.getElem?_toArray, List.getElem?_cons_succ, List.getElem?_cons_zero]) <;> rfl) (by kernel_rfl) (by kernel_rfl) (by kernel_rfl) (by intro _ _ _ _ h; exact h) (by rfl) (by assumption) ?_
      apply Exists.intro
      refine ⟨?_, ?_⟩
      · intro W0 hSw
        try dsimp only at hSw
        go_simp
        try (with_reducible rfl)
      try simp only [Act.put, List.setIfInBounds_toArray, List.set_cons_zero, List.set_cons_succ]
      refine wpAnyH_ready (rs := [13]) (by kernel_rfl) (by simp) ?_
      refine AllReadyH.cons (by (simp only [List.getElem?_toArray, List.getElem?_cons_succ, List.getElem?_cons_zero]) <;> rfl) (fun K hK => ?_) AllReadyH.nil
      go_simp
      refine (Vnt.rows S2 E7 1 rfl l.length rfl).mono ?_
      rintro e w8 ⟨C8, n8, h8, rfl, o8, E8⟩
      simp at E8
      have hkeep := KC _ _ E8 rfl rfl
      go_wp2_with fail
      refine hK.out _ _ ?_ (fun hHeld => ?_)
      · (try dsimp only)
        first | (exact hkeep) | (go_keep)
      clear hK K
      try simp only [Act.put, List.setIfInBounds_toArray, List.set_cons_zero, List.set_cons_succ]
      refine wpAnyH_ready (rs := [18]) (by kernel_rfl) (by simp) ?_
      refine AllReadyH.cons (by (simp only [List.getElem?_toArray, List.getElem?_cons_succ, List.getElem?_cons_zero]) <;> rfl) (fun K hK => ?_) AllReadyH.nil
      go_simp
      have SB := same_vint C8 A1 n8 ca1 l l h8 h1 w8 (E8.sub 5 rfl) (E8.sub 0 rfl) o8.sl sl1
      rw [eqB_t rfl] at SB
      refine SB.mono ?_
      rintro e w9 ⟨rfl, B9⟩
      have E9 := E8.below B9
      have hkeep := KC _ _ E9 rfl rfl
      go_wp2_with fail
      refine hK.out _ _ ?_ (fun hHeld => ?_)
      · (try dsimp only)
        first | (exact hkeep) | (go_keep)
      clear hK K
      try simp only [Act.put, List.setIfInBounds_toArray, List.set_cons_zero, List.set_cons_succ]
      refine take_on (i := 19) (by (simp only [List.getElem?_toArray, List.getElem?_cons_succ, List.getElem?_cons_zero]) <;> rfl) (by kernel_rfl) (by kernel_rfl) (by kernel_rfl) (by intro _ _ _ _ h; exact h) (by rfl) (by assumption) ?_
      apply Exists.intro
      refine ⟨?_, ?_⟩
      · intro W0 hSw
        try dsimp only at hSw
        go_simp
        try (with_reducible rfl)
      try simp only [Act.put, List.setIfInBounds_toArray, List.set_cons_zero, List.set_cons_succ]
      refine take_on (i := 20) (by (simp only [List.getElem?_toArray, List.getElem?_cons_succ, List.getElem?_cons_zero]) <;> rfl) (by kernel_rfl) (by kernel_rfl) (by kernel_rfl) (by intro _ _ _ _ h; exact h) (by rfl) (by assumption) ?_
      apply Exists.intro
      refine ⟨?_, ?_⟩
      · intro W0 hSw
        try dsimp only at hSw
        go_simp
        try (with_reducible rfl)
      try simp only [Act.put, List.setIfInBounds_toArray, List.set_cons_zero, List.set_cons_succ]
      refine wpAnyH_ready (rs := [21]) (by kernel_rfl) (by simp) ?_
      refine AllReadyH.cons (by (simp only [List.getElem?_toArray, List.getElem?_cons_succ, List.getElem?_cons_zero]) <;> rfl) (fun K hK => ?_) AllReadyH.nil
      go_simp
      refine (wakes15 _).mono ?_
      rintro e w10 ⟨rfl, B10⟩
      have E10 := E9.below B10
      have hkeep := KC _ _ E10 rfl rfl
      go_wp2_with fail
      refine hK.out _ _ ?_ (fun hHeld => ?_)
      · (try dsimp only)
        first | (exact hkeep) | (go_keep)
      clear hK K
      try simp only [Act.put, List.setIfInBounds_toArray, List.set_cons_zero, List.set_cons_succ]
      refine take_on (i := 22) (by (simp only [List.getElem?_toArray, List.getElem?_cons_succ, List.getElem?_cons_zero]) <;> rfl) (by kernel_rfl) (by kernel_rfl) (by kernel_rfl) (by intro _ _ _ _ h; exact h) (by rfl) (by assumption) ?_
      apply Exists.intro
      refine ⟨?_, ?_⟩
      · intro W0 hSw
        try dsimp only at hSw
        go_simp
        try (with_reducible rfl)
      try simp only [Act.put, List.setIfInBounds_toArray, List.set_cons_zero, List.set_cons_succ]
      refine take_on (i := 23) (by (simp only [List.getElem?_toArray, List.getElem?_cons_succ, List.getElem?_cons_zero]) <;> rfl) (by kernel_rfl) (by kernel_rfl) (by kernel_rfl) (by intro _ _ _ _ h; exact h) (by rfl) (by assumption) ?_
      apply Exists.intro
      refine ⟨?_, ?_⟩
      · intro W0 hSw
        try dsimp only at hSw
        go_simp
        try (with_reducible rfl)
      try simp only [Act.put, List.setIfInBounds_toArray, List.set_cons_zero, List.set_cons_succ]
      refine wpAnyH_done (by kernel_rfl) ?_ _
      go_wp2
      go_ret
      exact ⟨rfl, E10.low⟩
  · have t7 : (a8.tmod 7 == 6) = false := by simpa using h7
    have t7' : (a8.tmod 7 != 6) = true := by simpa using h7
    have P1 := fun W => playRate_calls a4 W
    have P2 := fun W => playRate_calls a7 W
    have W1 := fun W => within_calls a5 6 W (by omega) (by omega)
    have W2 := fun W => within_calls a6 10 W (by omega) (by omega)
    clear h7
    generalize rateOf a4 = most at *
    generalize rateOf a7 = r at *
    generalize within a5 6 = life at *
    generalize within a6 10 = year at *
    go_wp2_with fail
    refine (P1 _).mono ?_
    rintro e w3 ⟨rfl, B3⟩
    replace E2 := E2.below B3
    go_wp2_with fail
    refine (W1 _).mono ?_
    rintro e w' ⟨rfl, rfl⟩
    go_wp2_with fail
    refine (W2 _).mono ?_
    rintro e w' ⟨rfl, rfl⟩
    go_wp2_with fail
    refine (P2 _).mono ?_
    rintro e w4 ⟨rfl, B4⟩
    replace E2 := E2.below B4
    go_upto_region 8 with fail
    clear t7 t7' P1 P2 W1 W2 B3 B4
    rcases Int.decEq (curE l bk pm mv most life year r) 0 with hE | hE
    · obtain ⟨q, hq⟩ : ∃ q, curE l bk pm mv most life year r = q := ⟨_, rfl⟩
      rw [hq] at hE
      have HQ := Lib.hid hq
      have HNe := Lib.hid hE
      have t1 : (q == 0) = false := by simpa using hE
      have t2 : (q != 0) = true := by simpa using hE
      clear hE hq
      go_wp2_with fail
      refine (Vnt.tax_err S2 E2 1 rfl bk pm mv most life year r HQ.out HNe.out).mono ?_
      rintro e w3 ⟨rfl, E3⟩
      go_upto_region 9 with fail
      replace E3 := E3.alloc (.cells #[.int .i64 0, .int .i64 0, .int .i64 0, .int .i64 0, .int .i64 0, .int .i64 0, .slice none 0 0] 51)
      simp at E3
      obtain ⟨W3, hW3⟩ : ∃ W3 : World, W3 = w3.alloc (.cells #[.int .i64 0, .int .i64 0, .int .i64 0, .int .i64 0, .int .i64 0, .int .i64 0, .slice none 0 0] 51) := ⟨_, rfl⟩
      rw [← hW3] at E3
      rw [← hW3]
      clear hW3
      have y0 := E3.cell 2 rfl 0 rfl
      have y1 := E3.cell 2 rfl 1 rfl
      have y2 := E3.cell 2 rfl 2 rfl
      have y3 := E3.cell 2 rfl 3 rfl
      have y4 := E3.cell 2 rfl 4 rfl
      have y5 := E3.cell 2 rfl 5 rfl
      have y6 := E3.cell 2 rfl 6 rfl
      go_wp2_with fail
      refine (Los.tax_err S1 E3 0 rfl bk pm mv most life year r HQ.out HNe.out).mono ?_
      rintro e w4 ⟨rfl, E4⟩
      clear y0 y1 y2 y3 y4 y5 y6
      go_upto_region 10 with fail
      replace E4 := E4.alloc (.cells #[.int .i64 0, .int .i64 0, .int .i64 0, .int .i64 0, .int .i64 0, .int .i64 0, .slice none 0 0] 60)
      simp at E4
      obtain ⟨W4, hW4⟩ : ∃ W4 : World, W4 = w4.alloc (.cells #[.int .i64 0, .int .i64 0, .int .i64 0, .int .i64 0, .int .i64 0, .int .i64 0, .slice none 0 0] 60) := ⟨_, rfl⟩
      rw [← hW4] at E4
      rw [← hW4]
      clear hW4
      have z0 := E4.cell 3 rfl 0 rfl
      have z1 := E4.cell 3 rfl 1 rfl
      have z2 := E4.cell 3 rfl 2 rfl
      have z3 := E4.cell 3 rfl 3 rfl
      have z4 := E4.cell 3 rfl 4 rfl
      have z5 := E4.cell 3 rfl 5 rfl
      have z6 := E4.cell 3 rfl 6 rfl
      have y := E4.cell 2 rfl
      have y0 := y 0 rfl
      have y1 := y 1 rfl
      have y2 := y 2 rfl
      have y3 := y 3 rfl
      have y4 := y 4 rfl
      have y5 := y 5 rfl
      have y6 := y 6 rfl
      clear y
      go_wp2_with fail
      refine (same15_calls 0 0 0 0 0 0 none none 0 0 [] 0 rfl Hp.none Hp.none _ (Hp.none_sub _) (Hp.none_sub _) (Sl.none _ _) (Sl.none _ _)).mono ?_
      rintro e w5 ⟨rfl, B5⟩
      have E5 := ((E4.below B5).drop 3).drop 2
      simp at E5
      obtain ⟨cs1, hb1, A1, ca1, rfl, ow1⟩ := S1.pt
      have sl1 := ow1.sl.mono (Hp.del_le h1 b1)
      have KC : ∀ V L, Env w V L → L[0]? = some h1 → V.cell? ⟨b1, 0, none⟩ = some (.slice A1 l.length ca1) := fun V L E i => by
        rw [cell_of_row V b1 0 _ _ _ (E.sub 0 i _ _ hb1)]; rfl
      have kc := KC _ _ E5 rfl
      go_upto_region 12 with fail
      refine wp_region_held_drew (S := (fun V => V.cell? ⟨b1, 0, none⟩ = some (.slice A1 l.length ca1))) (by kernel_rfl) ?_ (fun hHeld => ?_)
      · (try dsimp only)
        first | (go_keep)
      refine take_on (i := 0) (by (simp only [List.getElem?_toArray, List.getElem?_cons_succ, List.getElem?_cons_zero]) <;> rfl) (by kernel_rfl) (by kernel_rfl) (by kernel_rfl) (by intro _ _ _ _ h; exact h) (by rfl) (by assumption) ?_
      apply Exists.intro
      refine ⟨?_, ?_⟩
      · intro W0 hSw
        try dsimp only at hSw
        go_simp
        try (with_reducible rfl)
      try simp only [Act.put, List.setIfInBounds_toArray, List.set_cons_zero, List.set_cons_succ]
      refine take_on (i := 1) (by (simp only [List.getElem?_toArray, List.getElem?_cons_succ, List.getElem?_cons_zero]) <;> rfl) (by kernel_rfl) (by kernel_rfl) (by kernel_rfl) (by intro _ _ _ _ h; exact h) (by rfl) (by assumption) ?_
      apply Exists.intro
      refine ⟨?_, ?_⟩
      · intro W0 hSw
        try dsimp only at hSw
        go_simp
        try (with_reducible rfl)
      try simp only [Act.put, List.setIfInBounds_toArray, List.set_cons_zero, List.set_cons_succ]
      refine take_on (i := 2) (by (simp only [List.getElem?_toArray, List.getElem?_cons_succ, List.getElem?_cons_zero]) <;> rfl) (by kernel_rfl) (by kernel_rfl) (by kernel_rfl) (by intro _ _ _ _ h; exact h) (by rfl) (by assumption) ?_
      apply Exists.intro
      refine ⟨?_, ?_⟩
      · intro W0 hSw
        try dsimp only at hSw
        go_simp
        try (with_reducible rfl)
      try simp only [Act.put, List.setIfInBounds_toArray, List.set_cons_zero, List.set_cons_succ]
      refine take_off (i := 3) (by (simp only [List.getElem?_toArray, List.getElem?_cons_succ, List.getElem?_cons_zero]) <;> rfl) (by kernel_rfl) (by kernel_rfl) (by kernel_rfl) (by intro _ _ _ _ h; exact h) (by rfl) (by assumption) ?_
      try simp only [Act.put, List.setIfInBounds_toArray, List.set_cons_zero, List.set_cons_succ]
      refine take_off (i := 5) (by (simp only [List.getElem?_toArray, List.getElem?_cons_succ, List.getElem?_cons_zero]) <;> rfl) (by kernel_rfl) (by kernel_rfl) (by kernel_rfl) (by intro _ _ _ _ h; exact h) (by rfl) (by assumption) ?_
      try simp only [Act.put, List.setIfInBounds_toArray, List.set_cons_zero, List.set_cons_succ]
      refine take_off (i := 6) (by (simp only [List.getElem?_toArray, List.getElem?_cons_succ, List.getElem?_cons_zero]) <;> rfl) (by kernel_rfl) (by kernel_rfl) (by kernel_rfl) (by intro _ _ _ _ h; exact h) (by rfl) (by assumption) ?_
      try simp only [Act.put, List.setIfInBounds_toArray, List.set_cons_zero, List.set_cons_succ]
      refine take_off (i := 7) (by (simp only [List.getElem?_toArray, List.getElem?_cons_succ, List.getElem?_cons_zero]) <;> rfl) (by kernel_rfl) (by kernel_rfl) (by kernel_rfl) (by intro _ _ _ _ h; exact h) (by rfl) (by assumption) ?_
      try simp only [Act.put, List.setIfInBounds_toArray, List.set_cons_zero, List.set_cons_succ]
      refine take_off (i := 8) (by (simp only [List.getElem?_toArray, List.getElem?_cons_succ, List.getElem?_cons_zero]) <;> rfl) (by kernel_rfl) (by kernel_rfl) (by kernel_rfl) (by intro _ _ _ _ h; exact h) (by rfl) (by assumption) ?_
      try simp only [Act.put, List.setIfInBounds_toArray, List.set_cons_zero, List.set_cons_succ]
      refine take_off (i := 4) (by (simp only [List.getElem?_toArray, List.getElem?_cons_succ, List.getElem?_cons_zero]) <;> rfl) (by kernel_rfl) (by kernel_rfl) (by kernel_rfl) (by intro _ _ _ _ h; exact h) (by rfl) (by assumption) ?_
      try simp only [Act.put, List.setIfInBounds_toArray, List.set_cons_zero, List.set_cons_succ]
      refine take_off (i := 9) (by (simp only [List.getElem?_toArray, List.getElem?_cons_succ, List.getElem?_cons_zero]) <;> rfl) (by kernel_rfl) (by kernel_rfl) (by kernel_rfl) (by intro _ _ _ _ h; exact h) (by rfl) (by assumption) ?_
      try simp only [Act.put, List.setIfInBounds_toArray, List.set_cons_zero, List.set_cons_succ]
      refine take_on (i := 10) (by (simp only [List.getElem?_toArray, List.getElem?_cons_succ, List.getElem?_cons_zero]) <;> rfl) (by kernel_rfl) (by kernel_rfl) (by kernel_rfl) (by intro _ _ _ _ h; exact h) (by rfl) (by assumption) ?_
      apply Exists.intro
      refine ⟨?_, ?_⟩
      · intro W0 hSw
        try dsimp only at hSw
        go_simp
        try (with_reducible rfl)
      try simp only [Act.put, List.setIfInBounds_toArray, List.set_cons_zero, List.set_cons_succ]
      refine take_on (i := 11) (by (simp only [List.getElem?_toArray, List.getElem?_cons_succ, List.getElem?_cons_zero]) <;> rfl) (by kernel_rfl) (by kernel_rfl) (by kernel_rfl) (by intro _ _ _ _ h; exact h) (by rfl) (by assumption) ?_
      apply Exists.intro
      refine ⟨?_, ?_⟩
      · intro W0 hSw
        try dsimp only at hSw
        go_simp
        try (with_reducible rfl)
      try simp only [Act.put, List.setIfInBounds_toArray, List.set_cons_zero, List.set_cons_succ]
      refine take_on (i := 12) (by (simp only [List.getElem?_toArray, List.getElem?_cons_succ, List.getElem?_cons_zero]) <;> rfl) (by kernel_rfl) (by kernel_rfl) (by kernel_rfl) (by intro _ _ _ _ h; exact h) (by rfl) (by assumption) ?_
      apply Exists.intro
      refine ⟨?_, ?_⟩
      · intro W0 hSw
        try dsimp only at hSw
        go_simp
        try (with_reducible rfl)
      try simp only [Act.put, List.setIfInBounds_toArray, List.set_cons_zero, List.set_cons_succ]
      refine take_on (i := 14) (by (simp only [List.getElem?_toArray, List.getElem?_cons_succ, List.getElem?_cons_zero]) <;> rfl) (by kernel_rfl) (by kernel_rfl) (by kernel_rfl) (by intro _ _ _ _ h; exact h) (by rfl) (by assumption) ?_
      apply Exists.intro
      refine ⟨?_, ?_⟩
      · intro W0 hSw
        try dsimp only at hSw
        go_simp
        try (with_reducible rfl)
      try simp only [Act.put, List.setIfInBounds_toArray, List.set_cons_zero, List.set_cons_succ]
      refine take_on (i := 15) (by (simp only [List.getElem?_toArray, List.getElem?_cons_succ, List.getElem?_cons_zero]) <;> rfl) (by kernel_rfl) (by kernel_rfl) (by kernel_rfl) (by intro _ _ _ _ h; exact h) (by rfl) (by assumption) ?_
      apply Exists.intro
      refine ⟨?_, ?_⟩
      · intro W0 hSw
        try dsimp only at hSw
        go_simp
        try (with_reducible rfl)
      try simp only [Act.put, List.setIfInBounds_toArray, List.set_cons_zero, List.set_cons_succ]
      refine take_on (i := 16) (by (simp only [List.getElem?_toArray, List.getElem?_cons_succ, List.getElem?_cons_zero]) <;> rfl) (by kernel_rfl) (by kernel_rfl) (by kernel_rfl) (by intro _ _ _ _ h; exact h) (by rfl) (by assumption) ?_
      apply Exists.intro
      refine ⟨?_, ?_⟩
      · intro W0 hSw
        try dsimp only at hSw
        go_simp
        try (with_reducible rfl)
      try simp only [Act.put, List.setIfInBounds_toArray, List.set_cons_zero, List.set_cons_succ]
      refine take_on (i := 17) (by (simp only [List.getElem?_toArray, List.getElem?_cons_succ, List.getElem?_cons_zero]) <;> rfl) (by kernel_rfl) (by kernel_rfl) (by kernel_rfl) (by intro _ _ _ _ h; exact h) (by rfl) (by assumption) ?_
      apply Exists.intro
      refine ⟨?_, ?_⟩
      · intro W0 hSw
        try dsimp only at hSw
        go_simp
        try (with_reducible rfl)
      try simp only [Act.put, List.setIfInBounds_toArray, List.set_cons_zero, List.set_cons_succ]
      refine wpAnyH_ready (rs := [13]) (by kernel_rfl) (by simp) ?_
      refine AllReadyH.cons (by (simp only [List.getElem?_toArray, List.getElem?_cons_succ, List.getElem?_cons_zero]) <;> rfl) (fun K hK => ?_) AllReadyH.nil
      go_simp
      refine (Vnt.rows S2 (by repeat (first | (with_reducible exact E5) | (with_reducible apply Env.drew) | (with_reducible apply Env.drewN) | (with_reducible apply Env.alloc'))) 1 rfl l.length rfl).mono ?_
      rintro e w6 ⟨C6, n6, h6, rfl, o6, E6⟩
      simp at E6
      have hkeep := KC _ _ E6 rfl
      go_wp2_with fail
      refine hK.out _ _ ?_ (fun hHeld => ?_)
      · (try dsimp only)
        first | (exact hkeep) | (go_keep)
      clear hK K
      try simp only [Act.put, List.setIfInBounds_toArray, List.set_cons_zero, List.set_cons_succ]
      refine wpAnyH_ready (rs := [18]) (by kernel_rfl) (by simp) ?_
      refine AllReadyH.cons (by (simp only [List.getElem?_toArray, List.getElem?_cons_succ, List.getElem?_cons_zero]) <;> rfl) (fun K hK => ?_) AllReadyH.nil
      go_simp
      have SB := same_vint C6 A1 n6 ca1 l l h6 h1 w6 (E6.sub 2 rfl) (E6.sub 0 rfl) o6.sl sl1
      rw [eqB_t rfl] at SB
      refine SB.mono ?_
      rintro e w7 ⟨rfl, B7⟩
      have E7 := E6.below B7
      have hkeep := KC _ _ E7 rfl
      go_wp2_with fail
      refine hK.out _ _ ?_ (fun hHeld => ?_)
      · (try dsimp only)
        first | (exact hkeep) | (go_keep)
      clear hK K
      try simp only [Act.put, List.setIfInBounds_toArray, List.set_cons_zero, List.set_cons_succ]
      refine take_on (i := 19) (by (simp only [List.getElem?_toArray, List.getElem?_cons_succ, List.getElem?_cons_zero]) <;> rfl) (by kernel_rfl) (by kernel_rfl) (by kernel_rfl) (by intro _ _ _ _ h; exact h) (by rfl) (by assumption) ?_
      apply Exists.intro
      refine ⟨?_, ?_⟩
      · intro W0 hSw
        try dsimp only at hSw
        go_simp
        try (with_reducible rfl)
      try simp only [Act.put, List.setIfInBounds_toArray, List.set_cons_zero, List.set_cons_succ]
      refine take_on (i := 20) (by (simp only [List.getElem?_toArray, List.getElem?_cons_succ, List.getElem?_cons_zero]) <;> rfl) (by kernel_rfl) (by kernel_rfl) (by kernel_rfl) (by intro _ _ _ _ h; exact h) (by rfl) (by assumption) ?_
      apply Exists.intro
      refine ⟨?_, ?_⟩
      · intro W0 hSw
        try dsimp only at hSw
        go_simp
        try (with_reducible rfl)
      try simp only [Act.put, List.setIfInBounds_toArray, List.set_cons_zero, List.set_cons_succ]
      refine wpAnyH_ready (rs := [21]) (by kernel_rfl) (by simp) ?_
      refine AllReadyH.cons (by (simp only [List.getElem?_toArray, List.getElem?_cons_succ, List.getElem?_cons_zero]) <;> rfl) (fun K hK => ?_) AllReadyH.nil
      go_simp
      refine (wakes15 _).mono ?_
      rintro e w8 ⟨rfl, B8⟩
      have E8 := E7.below B8
      have hkeep := KC _ _ E8 rfl
      go_wp2_with fail
      refine hK.out _ _ ?_ (fun hHeld => ?_)
      · (try dsimp only)
        first | (exact hkeep) | (go_keep)
      clear hK K
      try simp only [Act.put, List.setIfInBounds_toArray, List.set_cons_zero, List.set_cons_succ]
      refine take_on (i := 22) (by (simp only [List.getElem?_toArray, List.getElem?_cons_succ, List.getElem?_cons_zero]) <;> rfl) (by kernel_rfl) (by kernel_rfl) (by kernel_rfl) (by intro _ _ _ _ h; exact h) (by rfl) (by assumption) ?_
      apply Exists.intro
      refine ⟨?_, ?_⟩
      · intro W0 hSw
        try dsimp only at hSw
        go_simp
        try (with_reducible rfl)
      try simp only [Act.put, List.setIfInBounds_toArray, List.set_cons_zero, List.set_cons_succ]
      refine take_on (i := 23) (by (simp only [List.getElem?_toArray, List.getElem?_cons_succ, List.getElem?_cons_zero]) <;> rfl) (by kernel_rfl) (by kernel_rfl) (by kernel_rfl) (by intro _ _ _ _ h; exact h) (by rfl) (by assumption) ?_
      apply Exists.intro
      refine ⟨?_, ?_⟩
      · intro W0 hSw
        try dsimp only at hSw
        go_simp
        try (with_reducible rfl)
      try simp only [Act.put, List.setIfInBounds_toArray, List.set_cons_zero, List.set_cons_succ]
      refine wpAnyH_done (by kernel_rfl) ?_ _
      go_wp2
      go_ret
      exact ⟨rfl, E8.low⟩
    · have HQ := Lib.hid hE
      clear hE
      obtain ⟨inc, hinc⟩ : ∃ i, incV bk pm mv = i := ⟨_, rfl⟩
      obtain ⟨vg, hvg⟩ : ∃ i, vGone l year = i := ⟨_, rfl⟩
      obtain ⟨vec, hvec⟩ : ∃ i, curVec l inc most year = i := ⟨_, rfl⟩
      obtain ⟨us, hus⟩ : ∃ i, vec.sum = i := ⟨_, rfl⟩
      obtain ⟨nw, hnw⟩ : ∃ i, curNew inc = i := ⟨_, rfl⟩
      obtain ⟨tx, htx⟩ : ∃ i, curTaxable l inc most year = i := ⟨_, rfl⟩
      obtain ⟨ov, hov⟩ : ∃ i, ofVal tx r = i := ⟨_, rfl⟩
      obtain ⟨nx, hnx⟩ : ∃ i, curNext l inc most life year = i := ⟨_, rfl⟩
      obtain ⟨vn, hvn⟩ : ∃ i, vec.length = i := ⟨_, rfl⟩
      have R1 := Lib.hid hinc
      have R2 := Lib.hid hvg
      have R3 := Lib.hid hvec
      have R4 := Lib.hid hus
      have R5 := Lib.hid hnw
      have R6 := Lib.hid htx
      have R7 := Lib.hid hov
      have R8 := Lib.hid hnx
      have R9 := Lib.hid hvn
      clear hinc hvg hvec hus hnw htx hov hnx hvn
      go_wp2_with fail
      refine (Vnt.tax_ok S2 E2 1 rfl bk pm mv most life year r HQ.out R1.out R2.out R3.out R4.out R5.out R6.out R7.out R8.out R9.out).mono ?_
      rintro e w3 ⟨h3, b3, hv3, V3, cp3, rfl, S3, o3, E3⟩
      simp at E3
      go_upto_region 9 with fail
      replace E3 := E3.alloc (.cells #[.int .i64 inc, .int .i64 vg, .int .i64 us, .int .i64 nw, .int .i64 tx, .int .i64 ov, .slice V3 vn cp3] 51)
      simp at E3
      obtain ⟨W3, hW3⟩ : ∃ W3 : World, W3 = w3.alloc (.cells #[.int .i64 inc, .int .i64 vg, .int .i64 us, .int .i64 nw, .int .i64 tx, .int .i64 ov, .slice V3 vn cp3] 51) := ⟨_, rfl⟩
      rw [← hW3] at E3
      rw [← hW3]
      clear hW3
      have y0 := E3.cell 4 rfl 0 rfl
      have y1 := E3.cell 4 rfl 1 rfl
      have y2 := E3.cell 4 rfl 2 rfl
      have y3 := E3.cell 4 rfl 3 rfl
      have y4 := E3.cell 4 rfl 4 rfl
      have y5 := E3.cell 4 rfl 5 rfl
      have y6 := E3.cell 4 rfl 6 rfl
      go_wp2_with fail
      refine (Los.tax_ok S1 E3 0 rfl bk pm mv most life year r HQ.out R1.out R2.out R3.out R4.out R5.out R6.out R7.out R8.out R9.out).mono ?_
      rintro e w4 ⟨h4, b4, hv4, V4, cp4, rfl, S4, o4, E4⟩
      simp at E4
      clear y0 y1 y2 y3 y4 y5 y6
      go_upto_region 10 with fail
      replace E4 := E4.alloc (.cells #[.int .i64 inc, .int .i64 vg, .int .i64 us, .int .i64 nw, .int .i64 tx, .int .i64 ov, .slice V4 vn cp4] 60)
      simp at E4
      obtain ⟨W4, hW4⟩ : ∃ W4 : World, W4 = w4.alloc (.cells #[.int .i64 inc, .int .i64 vg, .int .i64 us, .int .i64 nw, .int .i64 tx, .int .i64 ov, .slice V4 vn cp4] 60) := ⟨_, rfl⟩
      rw [← hW4] at E4
      rw [← hW4]
      clear hW4
      have z0 := E4.cell 7 rfl 0 rfl
      have z1 := E4.cell 7 rfl 1 rfl
      have z2 := E4.cell 7 rfl 2 rfl
      have z3 := E4.cell 7 rfl 3 rfl
      have z4 := E4.cell 7 rfl 4 rfl
      have z5 := E4.cell 7 rfl 5 rfl
      have z6 := E4.cell 7 rfl 6 rfl
      have y0 := E4.cell 4 rfl 0 rfl
      have y1 := E4.cell 4 rfl 1 rfl
      have y2 := E4.cell 4 rfl 2 rfl
      have y3 := E4.cell 4 rfl 3 rfl
      have y4 := E4.cell 4 rfl 4 rfl
      have y5 := E4.cell 4 rfl 5 rfl
      have y6 := E4.cell 4 rfl 6 rfl
      go_wp2_with fail
      refine (same15_calls inc vg us nw tx ov V3 V4 cp3 cp4 vec vn R9.out hv3 hv4 _ (E4.sub 3 rfl) (E4.sub 6 rfl) o3.sl o4.sl).mono ?_
      rintro e w5 ⟨rfl, B5⟩
      have E5 := (((E4.below B5).drop 7).drop 6).drop 4
      simp at E5
      clear y0 y1 y2 y3 y4 y5 y6 z0 z1 z2 z3 z4 z5 z6 E4 E3
      obtain ⟨cs1, hb1, A1, ca1, rfl, ow1⟩ := S1.pt
      have sl1 := ow1.sl.mono (Hp.del_le h1 b1)
      obtain ⟨cs4, hb4, A4, ca4, rfl, ow4⟩ := S4.pt
      have sl4 := ow4.sl.mono (Hp.del_le h4 b4)
      have KC : ∀ V L, Env w V L → L[0]? = some h1 → L[4]? = some h4 → V.cell? ⟨b1, 0, none⟩ = some (.slice A1 l.length ca1) ∧ V.cell? ⟨b4, 0, none⟩ = some (.slice A4 nx.length ca4) := fun V L E i j => by
        constructor
        · rw [cell_of_row V b1 0 _ _ _ (E.sub 0 i _ _ hb1)]; rfl
        · rw [cell_of_row V b4 0 _ _ _ (E.sub 4 j _ _ hb4)]; rfl
      obtain ⟨kc1, kc4⟩ := KC _ _ E5 rfl rfl
      go_upto_region 12 with fail
      refine wp_region_held_drew (S := (fun V => V.cell? ⟨b1, 0, none⟩ = some (.slice A1 l.length ca1) ∧ V.cell? ⟨b4, 0, none⟩ = some (.slice A4 nx.length ca4))) (by kernel_rfl) ?_ (fun hHeld => ?_)
      · (try dsimp only)
        first | (go_keep)
      refine take_on (i := 0) (by (simp only [List.getElem?_toArray, List.getElem?_cons_succ, List.getElem?_cons_zero]) <;> rfl) (by kernel_rfl) (by kernel_rfl) (by kernel_rfl) (by intro _ _ _ _ h; exact h) (by rfl) (by assumption) ?_
      apply Exists.intro
      refine ⟨?_, ?_⟩
      · intro W0 hSw
        try dsimp only at hSw
        go_simp
        try (with_reducible rfl)
      try simp only [Act.put, List.setIfInBounds_toArray, List.set_cons_zero, List.set_cons_succ]
      refine take_on (i := 1) (by (simp only [List.getElem?_toArray, List.getElem?_cons_succ, List.getElem?_cons_zero]) <;> rfl) (by kernel_rfl) (by kernel_rfl) (by kernel_rfl) (by intro _ _ _ _ h; exact h) (by rfl) (by assumption) ?_
      apply Exists.intro
      refine ⟨?_, ?_⟩
      · intro W0 hSw
        try dsimp only at hSw
        go_simp
        try (with_reducible rfl)
      try simp only [Act.put, List.setIfInBounds_toArray, List.set_cons_zero, List.set_cons_succ]
      refine take_on (i := 2) (by (simp only [List.getElem?_toArray, List.getElem?_cons_succ, List.getElem?_cons_zero]) <;> rfl) (by kernel_rfl) (by kernel_rfl) (by kernel_rfl) (by intro _ _ _ _ h; exact h) (by rfl) (by assumption) ?_
      apply Exists.intro
      refine ⟨?_, ?_⟩
      · intro W0 hSw
        try dsimp only at hSw
        go_simp
        try (with_reducible rfl)
      try simp only [Act.put, List.setIfInBounds_toArray, List.set_cons_zero, List.set_cons_succ]
      refine take_on (i := 3) (by (simp only [List.getElem?_toArray, List.getElem?_cons_succ, List.getElem?_cons_zero]) <;> rfl) (by kernel_rfl) (by kernel_rfl) (by kernel_rfl) (by intro _ _ _ _ h; exact h) (by rfl) (by assumption) ?_
      apply Exists.intro
      refine ⟨?_, ?_⟩
      · intro W0 hSw
        try dsimp only at hSw
        go_simp
        try (with_reducible rfl)
      try simp only [Act.put, List.setIfInBounds_toArray, List.set_cons_zero, List.set_cons_succ]
      refine take_on (i := 5) (by (simp only [List.getElem?_toArray, List.getElem?_cons_succ, List.getElem?_cons_zero]) <;> rfl) (by kernel_rfl) (by kernel_rfl) (by kernel_rfl) (by intro _ _ _ _ h; exact h) (by rfl) (by assumption) ?_
      apply Exists.intro
      refine ⟨?_, ?_⟩
      · intro W0 hSw
        try dsimp only at hSw
        go_simp
        try (with_reducible rfl)
      try simp only [Act.put, List.setIfInBounds_toArray, List.set_cons_zero, List.set_cons_succ]
      refine take_on (i := 6) (by (simp only [List.getElem?_toArray, List.getElem?_cons_succ, List.getElem?_cons_zero]) <;> rfl) (by kernel_rfl) (by kernel_rfl) (by kernel_rfl) (by intro _ _ _ _ h; exact h) (by rfl) (by assumption) ?_
      apply Exists.intro
      refine ⟨?_, ?_⟩
      · intro W0 hSw
        try dsimp only at hSw
        go_simp
        try (with_reducible rfl)
      try simp only [Act.put, List.setIfInBounds_toArray, List.set_cons_zero, List.set_cons_succ]
      refine take_on (i := 7) (by (simp only [List.getElem?_toArray, List.getElem?_cons_succ, List.getElem?_cons_zero]) <;> rfl) (by kernel_rfl) (by kernel_rfl) (by kernel_rfl) (by intro _ _ _ _ h; exact h) (by rfl) (by assumption) ?_
      apply Exists.intro
      refine ⟨?_, ?_⟩
      · intro W0 hSw
        try dsimp only at hSw
        go_simp
        try (with_reducible rfl)
      try simp only [Act.put, List.setIfInBounds_toArray, List.set_cons_zero, List.set_cons_succ]
      refine take_on (i := 8) (by (simp only [List.getElem?_toArray, List.getElem?_cons_succ, List.getElem?_cons_zero]) <;> rfl) (by kernel_rfl) (by kernel_rfl) (by kernel_rfl) (by intro _ _ _ _ h; exact h) (by rfl) (by assumption) ?_
      apply Exists.intro
      refine ⟨?_, ?_⟩
      · intro W0 hSw
        try dsimp only at hSw
        go_simp
        try (with_reducible rfl)
      try simp only [Act.put, List.setIfInBounds_toArray, List.set_cons_zero, List.set_cons_succ]
      refine wpAnyH_ready (rs := [4]) (by kernel_rfl) (by simp) ?_
      refine AllReadyH.cons (by (simp only [List.getElem?_toArray, List.getElem?_cons_succ, List.getElem?_cons_zero]) <;> rfl) (fun K hK => ?_) AllReadyH.nil
      go_simp
      refine (Vnt.rows S3 (by repeat (first | (with_reducible exact E5) | (with_reducible apply Env.drew) | (with_reducible apply Env.drewN) | (with_reducible apply Env.alloc'))) 2 rfl nx.length rfl).mono ?_
      rintro e w6 ⟨C6, n6, h6, rfl, o6, E6⟩
      simp at E6
      have hkeep := KC _ _ E6 rfl rfl
      go_wp2_with fail
      refine hK.out _ _ ?_ (fun hHeld => ?_)
      · (try dsimp only)
        first | (exact hkeep) | (go_keep)
      clear hK K
      try simp only [Act.put, List.setIfInBounds_toArray, List.set_cons_zero, List.set_cons_succ]
      refine wpAnyH_ready (rs := [9]) (by kernel_rfl) (by simp) ?_
      refine AllReadyH.cons (by (simp only [List.getElem?_toArray, List.getElem?_cons_succ, List.getElem?_cons_zero]) <;> rfl) (fun K hK => ?_) AllReadyH.nil
      go_simp
      have SB := same_vint C6 A4 n6 ca4 nx nx h6 h4 w6 (E6.sub 5 rfl) (E6.sub 4 rfl) o6.sl sl4
      rw [eqB_t rfl] at SB
      refine SB.mono ?_
      rintro e w7 ⟨rfl, B7⟩
      have E7 := (E6.below B7).drop 5
      simp at E7
      have hkeep := KC _ _ E7 rfl rfl
      go_wp2_with fail
      refine hK.out _ _ ?_ (fun hHeld => ?_)
      · (try dsimp only)
        first | (exact hkeep) | (go_keep)
      clear hK K
      try simp only [Act.put, List.setIfInBounds_toArray, List.set_cons_zero, List.set_cons_succ]
      refine take_on (i := 10) (by (simp only [List.getElem?_toArray, List.getElem?_cons_succ, List.getElem?_cons_zero]) <;> rfl) (by kernel_rfl) (by kernel_rfl) (by kernel_rfl) (by intro _ _ _ _ h; exact h) (by rfl) (by assumption) ?_
      apply Exists.intro
      refine ⟨?_, ?_⟩
      · intro W0 hSw
        try dsimp only at hSw
        go_simp
        try (with_reducible rfl)
      try simp only [Act.put, List.setIfInBounds_toArray, List.set_cons_zero, List.set_cons_succ]
      refine take_on (i := 11) (by (simp only [List.getElem?_toArray, List.getElem?_cons_succ, List.getElem?_cons_zero]) <;> rfl) (by kernel_rfl) (by kernel_rfl) (by kernel_rfl) (by intro _ _ _ _ h; exact h) (by rfl) (by assumption) ?_
      apply Exists.intro
      refine ⟨?_, ?_⟩
      · intro W0 hSw
        try dsimp only at hSw
        go_simp
        try (with_reducible rfl)
      try simp only [Act.put, List.setIfInBounds_toArray, List.set_cons_zero, List.set_cons_succ]
      refine take_on (i := 12) (by (simp only [List.getElem?_toArray, List.getElem?_cons_succ, List.getElem?_cons_zero]) <;> rfl) (by kernel_rfl) (by kernel_rfl) (by kernel_rfl) (by intro _ _ _ _ h; exact h) (by rfl) (by assumption) ?_
      apply Exists.intro
      refine ⟨?_, ?_⟩
      · intro W0 hSw
        try dsimp only at hSw
        go_simp
        try (with_reducible rfl)
      try simp only [Act.put, List.setIfInBounds_toArray, List.set_cons_zero, List.set_cons_succ]
      refine take_on (i := 14) (by (simp only [List.getElem?_toArray, List.getElem?_cons_succ, List.getElem?_cons_zero]) <;> rfl) (by kernel_rfl) (by kernel_rfl) (by kernel_rfl) (by intro _ _ _ _ h; exact h) (by rfl) (by assumption) ?_
      apply Exists.intro
      refine ⟨?_, ?_⟩
      · intro W0 hSw
        try dsimp only at hSw
        go_simp
        try (with_reducible rfl)
      try simp only [Act.put, List.setIfInBounds_toArray, List.set_cons_zero, List.set_cons_succ]
      refine take_on (i := 15) (by (simp only [List.getElem?_toArray, List.getElem?_cons_succ, List.getElem?_cons_zero]) <;> rfl) (by kernel_rfl) (by kernel_rfl) (by kernel_rfl) (by intro _ _ _ _ h; exact h) (by rfl) (by assumption) ?_
      apply Exists.intro
      refine ⟨?_, ?_⟩
      · intro W0 hSw
        try dsimp only at hSw
        go_simp
        try (with_reducible rfl)
      try simp only [Act.put, List.setIfInBounds_toArray, List.set_cons_zero, List.set_cons_succ]
      refine take_on (i := 16) (by (simp only [List.getElem?_toArray, List.getElem?_cons_succ, List.getElem?_cons_zero]) <;> rfl) (by kernel_rfl) (by kernel_rfl) (by kernel_rfl) (by intro _ _ _ _ h; exact h) (by rfl) (by assumption) ?_
      apply Exists.intro
      refine ⟨?_, ?_⟩
      · intro W0 hSw
        try dsimp only at hSw
        go_simp
        try (with_reducible rfl)
      try simp only [Act.put, List.setIfInBounds_toArray, List.set_cons_zero, List.set_cons_succ]
      refine take_on (i := 17) (by (simp only [List.getElem?_toArray, List.getElem?_cons_succ, List.getElem?_cons_zero]) <;> rfl) (by kernel_rfl) (by kernel_rfl) (by kernel_rfl) (by intro _ _ _ _ h; exact h) (by rfl) (by assumption) ?_
      apply Exists.intro
      refine ⟨?_, ?_⟩
      · intro W0 hSw
        try dsimp only at hSw
        go_simp
        try (with_reducible rfl)
      try simp only [Act.put, List.setIfInBounds_toArray, List.set_cons_zero, List.set_cons_succ]
      refine wpAnyH_ready (rs := [13]) (by kernel_rfl) (by simp) ?_
      refine AllReadyH.cons (by (simp only [List.getElem?_toArray, List.getElem?_cons_succ, List.getElem?_cons_zero]) <;> rfl) (fun K hK => ?_) AllReadyH.nil
      go_simp
      refine (Vnt.rows S2 E7 1 rfl l.length rfl).mono ?_
      rintro e w8 ⟨C8, n8, h8, rfl, o8, E8⟩
      simp at E8
      have hkeep := KC _ _ E8 rfl rfl
      go_wp2_with fail
      refine hK.out _ _ ?_ (fun hHeld => ?_)
      · (try dsimp only)
        first | (exact hkeep) | (go_keep)
      clear hK K
      try simp only [Act.put, List.setIfInBounds_toArray, List.set_cons_zero, List.set_cons_succ]
      refine wpAnyH_ready (rs := [18]) (by kernel_rfl) (by simp) ?_
      refine AllReadyH.cons (by (simp only [List.getElem?_toArray, List.getElem?_cons_succ, List.getElem?_cons_zero]) <;> rfl) (fun K hK => ?_) AllReadyH.nil
      go_simp
      have SB := same_vint C8 A1 n8 ca1 l l h8 h1 w8 (E8.sub 5 rfl) (E8.sub 0 rfl) o8.sl sl1
      rw [eqB_t rfl] at SB
      refine SB.mono ?_
      rintro e w9 ⟨rfl, B9⟩
      have E9 := E8.below B9
      have hkeep := KC _ _ E9 rfl rfl
      go_wp2_with fail
      refine hK.out _ _ ?_ (fun hHeld => ?_)
      · (try dsimp only)
        first | (exact hkeep) | (go_keep)
      clear hK K
      try simp only [Act.put, List.setIfInBounds_toArray, List.set_cons_zero, List.set_cons_succ]
      refine take_on (i := 19) (by (simp only [List.getElem?_toArray, List.getElem?_cons_succ, List.getElem?_cons_zero]) <;> rfl) (by kernel_rfl) (by kernel_rfl) (by kernel_rfl) (by intro _ _ _ _ h; exact h) (by rfl) (by assumption) ?_
      apply Exists.intro
      refine ⟨?_, ?_⟩
      · intro W0 hSw
        try dsimp only at hSw
        go_simp
        try (with_reducible rfl)
      try simp only [Act.put, List.setIfInBounds_toArray, List.set_cons_zero, List.set_cons_succ]
      refine take_on (i := 20) (by (simp only [List.getElem?_toArray, List.getElem?_cons_succ, List.getElem?_cons_zero]) <;> rfl) (by kernel_rfl) (by kernel_rfl) (by kernel_rfl) (by intro _ _ _ _ h; exact h) (by rfl) (by assumption) ?_
      apply Exists.intro
      refine ⟨?_, ?_⟩
      · intro W0 hSw
        try dsimp only at hSw
        go_simp
        try (with_reducible rfl)
      try simp only [Act.put, List.setIfInBounds_toArray, List.set_cons_zero, List.set_cons_succ]
      refine wpAnyH_ready (rs := [21]) (by kernel_rfl) (by simp) ?_
      refine AllReadyH.cons (by (simp only [List.getElem?_toArray, List.getElem?_cons_succ, List.getElem?_cons_zero]) <;> rfl) (fun K hK => ?_) AllReadyH.nil
      go_simp
      refine (wakes15 _).mono ?_
      rintro e w10 ⟨rfl, B10⟩
      have E10 := E9.below B10
      have hkeep := KC _ _ E10 rfl rfl
      go_wp2_with fail
      refine hK.out _ _ ?_ (fun hHeld => ?_)
      · (try dsimp only)
        first | (exact hkeep) | (go_keep)
      clear hK K
      try simp only [Act.put, List.setIfInBounds_toArray, List.set_cons_zero, List.set_cons_succ]
      refine take_on (i := 22) (by (simp only [List.getElem?_toArray, List.getElem?_cons_succ, List.getElem?_cons_zero]) <;> rfl) (by kernel_rfl) (by kernel_rfl) (by kernel_rfl) (by intro _ _ _ _ h; exact h) (by rfl) (by assumption) ?_
      apply Exists.intro
      refine ⟨?_, ?_⟩
      · intro W0 hSw
        try dsimp only at hSw
        go_simp
        try (with_reducible rfl)
      try simp only [Act.put, List.setIfInBounds_toArray, List.set_cons_zero, List.set_cons_succ]
      refine take_on (i := 23) (by (simp only [List.getElem?_toArray, List.getElem?_cons_succ, List.getElem?_cons_zero]) <;> rfl) (by kernel_rfl) (by kernel_rfl) (by kernel_rfl) (by intro _ _ _ _ h; exact h) (by rfl) (by assumption) ?_
      apply Exists.intro
      refine ⟨?_, ?_⟩
      · intro W0 hSw
        try dsimp only at hSw
        go_simp
        try (with_reducible rfl)
      try simp only [Act.put, List.setIfInBounds_toArray, List.set_cons_zero, List.set_cons_succ]
      refine wpAnyH_done (by kernel_rfl) ?_ _
      go_wp2
      go_ret
      exact ⟨rfl, E10.low⟩
end Go.Proofs.Ytpigoegjoagbnaa
end
namespace Go.Proofs.Ytpigoegjoagbnaa.currentTells
open Go.ChangeShapes Go.WideShapes Go.ChangeAt Go.RowKit Go.Sl
set_option linter.unusedVariables false
set_option maxRecDepth 100000
set_option maxHeartbeats 2000000
theorem lifted (os : Os) (started : os.Started) (H : Type) (enc : TypeId × Value → H) :
    ReturnsInHanded {} Try.checked os 10 .any (Rows.currentTellsSpec.pre6 enc Try.prog Try.f10 Rows.currentTellsRow.domain false) (Rows.currentTellsSpec.post enc Try.prog Try.f10 false true false false) := by
  refine returnsInHanded_of_change_sized (C := Try.checked) Lift.own started (by kernel_rfl) Try.func10
    (ChangeSpec.witness6 (enc := enc) (C := Try.checked) false ⟨#[], #[.slice none 0 0, .int .i64 0, .int .i64 0, .int .i64 0, .int .i64 0, .int .i64 0, .int .i64 0, .int .i64 0, .int .i64 0], []⟩ 8 (by kernel_rfl) (by kernel_rfl) (by kernel_rfl) (by kernel_rfl)) ?_
  intro W base args ds gs before hval0 hW hcnd hsz0 _
  have hval : ∀ (j : Nat) t v, Try.f10.params[j]? = some t → args[j]? = some v → Value.okWide Try.prog W .any base t v := hval0
  have hW' := hW
  obtain ⟨p, q, hA0, hV, rfl, hfz, hnd⟩ := hW
  have hA : DataW.TrodAll enc Try.prog W 0 (fun _ => true) true Try.f10.params.toList args.toList ds p := hA0
  rw [Try.params10] at hA hval
  obtain ⟨v0, vs0, d0, ds0, p0, q0, hargs, rfl, rfl, h0, r0⟩ := trodAll_cons hA
  obtain ⟨v1, vs1, d1, ds1, p1, q1, rfl, rfl, rfl, h1, r1⟩ := trodAll_cons r0
  obtain ⟨v2, vs2, d2, ds2, p2, q2, rfl, rfl, rfl, h2, r2⟩ := trodAll_cons r1
  obtain ⟨v3, vs3, d3, ds3, p3, q3, rfl, rfl, rfl, h3, r3⟩ := trodAll_cons r2
  obtain ⟨v4, vs4, d4, ds4, p4, q4, rfl, rfl, rfl, h4, r4⟩ := trodAll_cons r3
  obtain ⟨v5, vs5, d5, ds5, p5, q5, rfl, rfl, rfl, h5, r5⟩ := trodAll_cons r4
  obtain ⟨v6, vs6, d6, ds6, p6, q6, rfl, rfl, rfl, h6, r6⟩ := trodAll_cons r5
  obtain ⟨v7, vs7, d7, ds7, p7, q7, rfl, rfl, rfl, h7, r7⟩ := trodAll_cons r6
  obtain ⟨v8, vs8, d8, ds8, p8, q8, rfl, rfl, rfl, h8, r8⟩ := trodAll_cons r7
  obtain ⟨rfl, rfl, rfl⟩ := trodAll_nil r8
  obtain rfl : args = #[v0, v1, v2, v3, v4, v5, v6, v7, v8] := by cases args; simp_all
  obtain ⟨rfl, rfl⟩ := trodVars_none hV
  have k0 := h0
  have lt0 : ∀ x ∈ p0, x.block < W.heap.size := by obtain ⟨m, hm⟩ := k0; exact DataW.trod_lt m _ _ _ hm
  obtain ⟨A0, c0, z0, rfl, s0, w0⟩ := Lift.ints_of (hval 0 26 v0 rfl rfl) h0
  obtain ⟨a1, rfl, rfl, rfl, x1⟩ := open_int Try.underlying3 (hval 1 3 v1 rfl rfl) h1
  have w1 := I64.of_wf x1
  obtain ⟨a2, rfl, rfl, rfl, x2⟩ := open_int Try.underlying3 (hval 2 3 v2 rfl rfl) h2
  have w2 := I64.of_wf x2
  obtain ⟨a3, rfl, rfl, rfl, x3⟩ := open_int Try.underlying3 (hval 3 3 v3 rfl rfl) h3
  have w3 := I64.of_wf x3
  obtain ⟨a4, rfl, rfl, rfl, x4⟩ := open_int Try.underlying3 (hval 4 3 v4 rfl rfl) h4
  have w4 := I64.of_wf x4
  obtain ⟨a5, rfl, rfl, rfl, x5⟩ := open_int Try.underlying3 (hval 5 3 v5 rfl rfl) h5
  have w5 := I64.of_wf x5
  obtain ⟨a6, rfl, rfl, rfl, x6⟩ := open_int Try.underlying3 (hval 6 3 v6 rfl rfl) h6
  have w6 := I64.of_wf x6
  obtain ⟨a7, rfl, rfl, rfl, x7⟩ := open_int Try.underlying3 (hval 7 3 v7 rfl rfl) h7
  have w7 := I64.of_wf x7
  obtain ⟨a8, rfl, rfl, rfl, x8⟩ := open_int Try.underlying3 (hval 8 3 v8 rfl rfl) h8
  have w8 := I64.of_wf x8
  clear hA0 hval0 hsz0
  refine (curTells_calls A0 c0 z0 (Hp.all W) a1 a2 a3 a4 a5 a6 a7 a8 W (Hp.all_sub W) s0 w0 w1 w2 w3).mono fun e W' ⟨he, bel⟩ => ?_
  subst he
  exact ⟨_, rfl, _, _, _, [], _, [], hW', trodAll_mk1 (shut_bool Try.underlying4 _), (trodAll_cons_mk (Below.trod Lift.laidOut (by kernel_rfl) (of_decide_eq_true (by kernel_rfl)) k0 bel lt0) (trodAll_cons_mk (shut_int Try.underlying3 x1) (trodAll_cons_mk (shut_int Try.underlying3 x2) (trodAll_cons_mk (shut_int Try.underlying3 x3) (trodAll_cons_mk (shut_int Try.underlying3 x4) (trodAll_cons_mk (shut_int Try.underlying3 x5) (trodAll_cons_mk (shut_int Try.underlying3 x6) (trodAll_cons_mk (shut_int Try.underlying3 x7) (trodAll_cons_mk (shut_int Try.underlying3 x8) trodAll_mk0))))))))), rfl, bel.frame _, fun h => by cases h⟩
theorem over : Rows.currentTellsRow.holds Try.pinned (OpenSpec.ofChange Rows.currentTellsSpec) :=
  OpenClaim.holds_of_wide 10 Try.f10 rfl rfl rfl rfl rfl rfl rfl ⟨rfl, rfl, rfl, rfl, rfl⟩ rfl rfl rfl rfl rfl (by kernel_rfl) Try.func10 (by kernel_rfl)
    (of_decide_eq_true (by kernel_rfl)) (by unfold Func.isWrapper; first | (rw [if_pos (by decide +kernel)]; kernel_rfl) | (rw [if_neg (by decide +kernel)]; exact ⟨rfl, rfl⟩))
    (fun os started H enc _ => lifted os started H enc)
end Go.Proofs.Ytpigoegjoagbnaa.currentTells
namespace Go.Proofs.Ytpigoegjoagbnaa
theorem currentTells_holds : Rows.CurrentTellsSaid := currentTells.over
#print axioms currentTells_holds
end Go.Proofs.Ytpigoegjoagbnaa
