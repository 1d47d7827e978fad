/- Walks and plain facts that the laws of this seat share, part 5: contracts of functions, each said at its theorem. -/
import Derived.Test.YtnfedcaehkcffaaGreatPk4
import Derived.OwnWalk
import Derived.Lib.Bytealg
import Derived.Test.YtnfedcaehkcffaaGreatChecked
import Derived.Shelf.SlSortCmp.WholeK
import Derived.Shelf.SlGeneric
import Derived.Shelf.Abstract
import Derived.Laws.CopyRow
set_option linter.all false
section
/- The walks of rate.Floor, use.Room, use.Vector, use.Used, current.right. -/
namespace Go.Sl
open Go Go.RowKit
def floorOk (n r : Int) : Bool := decide (0 ≤ n ∧ n ≤ 100000000000 ∧ 0 ≤ r ∧ r ≤ 1000000)
def floorV (n r : Int) : Int := if floorOk n r then (n * r).tdiv 1000000 else 0
def roomV (income most : Int) : Int := if income < 1 then 0 else floorV income most
def useOf (year : Int) (x : STri) (left : Int) : Int := if year ≤ x.b then min x.c left else 0
def vecGo (year : Int) : List STri → Int → List Int
  | [], _ => []
  | x :: xs, left => useOf year x left :: vecGo year xs (left - useOf year x left)
theorem vecGo_snoc (year : Int) (x : STri) : ∀ (xs : List STri) (left : Int), vecGo year (xs ++ [x]) left = vecGo year xs left ++ [useOf year x (left - (vecGo year xs left).sum)]
  | [], left => by simp [vecGo]
  | y :: ys, left => by
    simp only [List.cons_append, vecGo, List.sum_cons]
    rw [vecGo_snoc year x ys]
    congr 4; omega
theorem vecGo_len (year : Int) : ∀ (xs : List STri) (left : Int), (vecGo year xs left).length = xs.length
  | [], _ => rfl
  | x :: xs, left => by simp [vecGo, vecGo_len year xs]
theorem useOf_bd {year left : Int} {x : STri} (hx : 0 ≤ x.c) (hl : 0 ≤ left) : 0 ≤ useOf year x left ∧ useOf year x left ≤ left ∧ useOf year x left ≤ x.c := by
  unfold useOf; split <;> omega
theorem vecGo_bd (year : Int) : ∀ (xs : List STri) (left : Int), (∀ x ∈ xs, 0 ≤ x.c) → 0 ≤ left → 0 ≤ (vecGo year xs left).sum ∧ (vecGo year xs left).sum ≤ left ∧ ∀ u ∈ vecGo year xs left, 0 ≤ u ∧ u ≤ left
  | [], left, _, h => by simp [vecGo]; exact h
  | x :: xs, left, hx, h => by
    have h1 := useOf_bd (year := year) (hx x (by simp)) h
    obtain ⟨i1, i2, i3⟩ := vecGo_bd year xs (left - useOf year x left) (fun y hy => hx y (by simp [hy])) (by omega)
    simp only [vecGo, List.sum_cons]
    refine ⟨by omega, by omega, fun u hu => ?_⟩
    rcases List.mem_cons.1 hu with rfl | hu
    · omega
    · have := i3 u hu; omega
end Go.Sl
namespace Go.Proofs.YtnfedcaehkcffaaGreat
open Go.RowKit Go.Sl
set_option maxHeartbeats 2000000
set_option maxRecDepth 100000
theorem used_calls (A : Option Addr) (ca : Nat) (us : List Int) (h : Hp) (w : World) (hs : h.sub w) (sx : Sl kInt h A ca us) (hb : ∀ j, j ≤ us.length → -1000000000000000 ≤ (us.take j).sum ∧ (us.take j).sum ≤ 1000000000000000) :
    Calls Tryz.prog 113 #[.slice A us.length ca] w fun e w' => e = .returned (.int .i64 us.sum) ∧ Below w.heap.size w w' := by
  have m1 := sx.small
  have HB := Lib.hid hb
  clear hb
  go_enter Tryz.func113, Tryz.ntmps113
  go_wp2
  go_loopw [3, 8] (fun s i wr => ∃ (j : Nat), j ≤ us.length ∧ i = .int .i64 j ∧ s = .int .i64 (us.take j).sum ∧ Below w.heap.size w wr) (fun _ i _ => us.length - (intOf i).toNat)
  case atStart => exact ⟨0, by omega, rfl, by simp, Below.refl _ _⟩
  case round =>
    obtain ⟨j, hj, rfl, rfl, B⟩ := hrel
    by_cases hlt : j < us.length
    · obtain ⟨u, hu⟩ := some_of_lt hlt
      obtain ⟨b1, o1, rfl, c1⟩ := sx.int (hs.of_below B) hu
      have i1 : (0 : Int) ≤ (j : Int) := by omega
      have i2 : (j : Int) < (us.length : Int) := by omega
      have h1 := HB.out j hj
      have h2 := HB.out (j + 1) (by omega)
      have HS : Hid ((us.take (j + 1)).sum = (us.take j).sum + u) := by unfold Hid; rw [take_next hu, List.sum_append]; simp
      rw [HS.out] at h2
      generalize (us.take j).sum = s at *
      go_wp2
      go_roundw
      case rel => exact ⟨j + 1, by omega, by go_num, by rw [HS.out], B⟩
      case measure => simp [intOf]; omega
    · obtain rfl : j = us.length := by omega
      rw [List.take_length]
      go_wp2
      go_ret
      exact ⟨rfl, B⟩
theorem vector_calls (A : Option Addr) (ca : Nat) (rows : List STri) (year room : Int) (h : Hp) (w : World) (hs : h.sub w) (sx : Sl kTri h A ca rows) (hl : rows.length ≤ 1000) (hc : ∀ x ∈ rows, 0 ≤ x.c) (hr : room ≤ 1000000000000000) (hr2 : -1000000000000000 ≤ room) :
    Calls Tryz.prog 111 #[.slice A rows.length ca, .int .i64 year, .int .i64 room] w fun e w' => ∃ C cap h', e = .returned (.slice C rows.length cap) ∧ Ow kInt h' C cap (vecGo year rows (max 0 room)) ∧ Upd Hp.none h' w w' := by
  have m1 := sx.small
  have E0 := (Env.start w).new (Upd.of_below (Below.refl w.heap.size w))
  simp at E0
  have hmx : (if (0 : Int) ≤ room then room else 0) = max 0 room := by omega
  have L0 : 0 ≤ max 0 room := by omega
  have L1 : max 0 room ≤ 1000000000000000 := by omega
  go_enter Tryz.func111, Tryz.ntmps111
  go_wp2
  generalize hM : max 0 room = M at *
  go_loopw [7, 8, 16] (fun v o i wr => ∃ (j cap : Nat) (C : Option Addr) (hv : Hp), j ≤ rows.length ∧ i = .int .i64 j ∧ v = .int .i64 (M - (vecGo year (rows.take j) M).sum) ∧ o = .slice C j cap ∧ Ow kInt hv C cap (vecGo year (rows.take j) M) ∧ Env w wr [hv]) (fun _ _ i _ => rows.length - (intOf i).toNat)
  case atStart => exact ⟨0, 0, none, Hp.none, by omega, rfl, by simp [vecGo], rfl, Ow.none _ _, E0⟩
  case round =>
    clear E0
    obtain ⟨j, cap, C, hv, hj, rfl, rfl, rfl, o, E⟩ := hrel
    by_cases hlt : j < rows.length
    · obtain ⟨x, hx⟩ := some_of_lt hlt
      obtain ⟨b1, o1, rfl, c1, c2, c3⟩ := sx.tri (hs.of_below E.low) hx
      have i1 : (0 : Int) ≤ (j : Int) := by omega
      have i2 : (j : Int) < (rows.length : Int) := by omega
      have hbd := vecGo_bd year (rows.take j) M (fun z hz => hc z (List.mem_of_mem_take hz)) L0
      have hxc := hc x (List.mem_of_getElem? hx.out)
      have HV : Hid (vecGo year (rows.take (j + 1)) M = vecGo year (rows.take j) M ++ [useOf year x (M - (vecGo year (rows.take j) M).sum)]) := by unfold Hid; rw [take_next hx, vecGo_snoc]
      have hub := useOf_bd (year := year) (x := x) (left := M - (vecGo year (rows.take j) M).sum) hxc (by omega)
      have hvl : Hid ((vecGo year (rows.take j) M).length = j) := by unfold Hid; rw [vecGo_len, List.length_take]; omega
      have HSm : Hid ((vecGo year (rows.take (j + 1)) M).sum = (vecGo year (rows.take j) M).sum + useOf year x (M - (vecGo year (rows.take j) M).sum)) := by unfold Hid; rw [HV.out, List.sum_append]; simp
      by_cases hy : year ≤ x.b
      · have ty : decide (year ≤ x.b) = true := by simpa using hy
        have HU : useOf year x (M - (vecGo year (rows.take j) M).sum) = min x.c (M - (vecGo year (rows.take j) M).sum) := by unfold useOf; rw [if_pos hy]
        rw [HU] at HV HSm hub
        have HRel : Hid (M - (vecGo year (rows.take (j + 1)) M).sum = M - (vecGo year (rows.take j) M).sum - min x.c (M - (vecGo year (rows.take j) M).sum)) := by unfold Hid; rw [HSm.out]; omega
        clear HU hy HSm
        generalize hS : (vecGo year (rows.take j) M).sum = S at *
        generalize vecGo year (rows.take j) M = V1 at *
        obtain ⟨q, hq⟩ : ∃ q, min x.c (M - S) = q := ⟨_, rfl⟩
        rw [hq] at HV HRel hub
        have hwS : IntKind.i64.wrap (M - S - q) = M - S - q := by rw [IntKind.wrap_i64]; omega
        go_wp2_with (at_builtin; refine wpList_eapp 0 q Tryz.underlying35 info_int (by repeat (first | (with_reducible exact E) | (with_reducible apply Env.drew) | (with_reducible apply Env.drewN) | (with_reducible apply Env.alloc'))) (by rfl) o j hvl.out (by rfl) (by rfl) rfl 1 (by rfl) (by rfl) (heap_new_at (by simp)) (by rfl) (by omega) (by omega) ?_; intro C5 n5 w5 h5 o5 E5)
        simp only [List.set_cons_zero] at E5
        go_roundw
        case rel => exact ⟨j + 1, n5, C5, h5, by omega, by go_num, by rw [HRel.out], rfl, by rw [HV.out]; exact o5, E5⟩
        case measure => simp [intOf]; omega
      · have ty : decide (year ≤ x.b) = false := by simpa using hy
        have HU : useOf year x (M - (vecGo year (rows.take j) M).sum) = 0 := by unfold useOf; rw [if_neg hy]
        rw [HU] at HV HSm
        have HRel : Hid (M - (vecGo year (rows.take (j + 1)) M).sum = M - (vecGo year (rows.take j) M).sum) := by unfold Hid; rw [HSm.out]; omega
        clear HU hy HSm
        generalize hS : (vecGo year (rows.take j) M).sum = S at *
        generalize vecGo year (rows.take j) M = V1 at *
        go_wp2_with (at_builtin; refine wpList_eapp 0 (0 : Int) Tryz.underlying35 info_int (by repeat (first | (with_reducible exact E) | (with_reducible apply Env.drew) | (with_reducible apply Env.drewN) | (with_reducible apply Env.alloc'))) (by rfl) o j hvl.out (by rfl) (by rfl) rfl 1 (by rfl) (by rfl) (heap_new_at (by simp)) (by rfl) (by omega) (by omega) ?_; intro C5 n5 w5 h5 o5 E5)
        simp only [List.set_cons_zero] at E5
        go_roundw
        case rel => exact ⟨j + 1, n5, C5, h5, by omega, by go_num, by rw [HRel.out], rfl, by rw [HV.out]; exact o5, E5⟩
        case measure => simp [intOf]; omega
    · obtain rfl : j = rows.length := by omega
      rw [List.take_length] at o
      have UM := E.made (h := hv) (by simp)
      go_wp2
      go_ret
      exact ⟨C, cap, hv, rfl, by rw [hM]; exact o, UM⟩
theorem floor_calls (n r : Int) (w : World) : Calls Tryz.prog 149 #[.int .i64 n, .int .i64 r] w fun e w' => e = .returned (.tuple #[.int .i64 (floorV n r), .bool (floorOk n r)]) ∧ w = w' := by
  have MC := fun W : World => money_calls n W
  have RC := fun W : World => rateRight_calls r W
  have HM : money n = decide (-100000000000 ≤ n ∧ n ≤ 100000000000) := rfl
  have HR : rightRate r = decide (0 ≤ r ∧ r ≤ 1000000) := rfl
  cases hm : money n with
  | false =>
    have hO : floorOk n r = false := by rw [hm] at HM; simp at HM; simp [floorOk]; omega
    have hV : Hid (floorV n r = 0) := by unfold Hid floorV; rw [hO]; rfl
    rw [hm] at MC
    clear HM HR hm
    have hO := Lib.hid hO
    go_enter Tryz.func149, Tryz.ntmps149
    go_wp2_with fail
    refine (MC _).mono ?_
    rintro e w' ⟨rfl, rfl⟩
    go_wp2
    go_ret2
    exact ⟨by rw [hV.out, hO.out]; rfl, rfl⟩
  | true =>
  have hmb : -100000000000 ≤ n ∧ n ≤ 100000000000 := by rw [hm] at HM; simpa using HM.symm
  rw [hm] at MC
  by_cases hn : n < 0
  · have hO : floorOk n r = false := by simp [floorOk]; omega
    have hV : Hid (floorV n r = 0) := by unfold Hid floorV; rw [hO]; rfl
    have t1 : decide (n < 0) = true := by simpa using hn
    clear HM HR hm hn
    have hO := Lib.hid hO
    go_enter Tryz.func149, Tryz.ntmps149
    go_wp2_with fail
    refine (MC _).mono ?_
    rintro e w' ⟨rfl, rfl⟩
    go_wp2
    go_ret2
    exact ⟨by rw [hV.out, hO.out]; rfl, rfl⟩
  have t1 : decide (n < 0) = false := by simpa using hn
  cases hr : rightRate r with
  | false =>
    have hO : floorOk n r = false := by rw [hr] at HR; simp at HR; simp [floorOk]; omega
    have hV : Hid (floorV n r = 0) := by unfold Hid floorV; rw [hO]; rfl
    rw [hr] at RC
    clear HM HR hm hr hn
    have hO := Lib.hid hO
    go_enter Tryz.func149, Tryz.ntmps149
    go_wp2_with fail
    refine (MC _).mono ?_
    rintro e w' ⟨rfl, rfl⟩
    go_wp2_with fail
    refine (RC _).mono ?_
    rintro e w' ⟨rfl, rfl⟩
    go_wp2
    go_ret2
    exact ⟨by rw [hV.out, hO.out]; rfl, rfl⟩
  | true =>
  have hrb : 0 ≤ r ∧ r ≤ 1000000 := by rw [hr] at HR; simpa using HR.symm
  have hO : floorOk n r = true := by simp [floorOk]; omega
  have hV : Hid (floorV n r = (n * r).tdiv 1000000) := by unfold Hid floorV; rw [hO]; rfl
  have hp : 0 ≤ n * r ∧ n * r ≤ 100000000000 * 1000000 := ⟨Int.mul_nonneg (by omega) hrb.1, Int.mul_le_mul hmb.2 hrb.2 hrb.1 (by omega)⟩
  have hwp : IntKind.i64.wrap (n * r) = n * r := by rw [IntKind.wrap_i64]; omega
  have hwq : IntKind.i64.wrap ((n * r).tdiv 1000000) = (n * r).tdiv 1000000 := by rw [IntKind.wrap_i64, Int.tdiv_eq_ediv_of_nonneg hp.1]; omega
  rw [hr] at RC
  clear HM HR hm hr hn
  have hO := Lib.hid hO
  go_enter Tryz.func149, Tryz.ntmps149
  go_wp2_with fail
  refine (MC _).mono ?_
  rintro e w' ⟨rfl, rfl⟩
  go_wp2_with fail
  refine (RC _).mono ?_
  rintro e w' ⟨rfl, rfl⟩
  go_wp2
  go_ret2
  exact ⟨by rw [hV.out, hO.out]; rfl, rfl⟩
theorem room_calls (income most : Int) (w : World) : Calls Tryz.prog 112 #[.int .i64 income, .int .i64 most] w fun e w' => e = .returned (.int .i64 (roomV income most)) ∧ w = w' := by
  have FC := fun W : World => floor_calls income most W
  by_cases h : income < 1
  · have t1 : decide (income < 1) = true := by simpa using h
    have HR : Hid (roomV income most = 0) := by unfold Hid roomV; rw [if_pos h]
    clear h FC
    go_enter Tryz.func112, Tryz.ntmps112
    go_wp2
    go_ret
    exact ⟨by rw [HR.out]; rfl, rfl⟩
  · have t1 : decide (income < 1) = false := by simpa using h
    have HR : Hid (roomV income most = floorV income most) := by unfold Hid roomV; rw [if_neg h]
    clear h
    generalize floorV income most = v at *
    generalize floorOk income most = b at *
    go_enter Tryz.func112, Tryz.ntmps112
    go_wp2_with fail
    refine (FC _).mono ?_
    rintro e w' ⟨rfl, rfl⟩
    go_wp2
    go_ret
    exact ⟨by rw [HR.out]; rfl, rfl⟩
theorem curRight_calls (y : Int) (w : World) : Calls Tryz.prog 107 #[.int .i64 y] w fun e w' => e = .returned (.bool (decide (0 ≤ y ∧ y ≤ 99))) ∧ w = w' := by
  go_enter Tryz.func107, Tryz.ntmps107
  go_wp2
  all_goals
    go_ret
    exact ⟨by simp; omega, rfl⟩
end Go.Proofs.YtnfedcaehkcffaaGreat
end
section
/- The walks of rate.Sum and bridge.Income. -/
namespace Go.Sl
open Go Go.RowKit
def sumOk (zs : List Int) : Bool := zs.all money && money zs.sum
def sumV (zs : List Int) : Int := if sumOk zs then zs.sum else 0
def incOk (b p m : Int) : Bool := money b && (money p && (money m && money (b + p - m)))
def incV (b p m : Int) : Int := if incOk b p m then b + p - m else 0
theorem sum_money : ∀ zs : List Int, (∀ z ∈ zs, money z = true) → -(zs.length * 100000000000 : Int) ≤ zs.sum ∧ zs.sum ≤ zs.length * 100000000000
  | [], _ => by simp
  | z :: zs, h => by
    have h1 : -100000000000 ≤ z ∧ z ≤ 100000000000 := by simpa [money] using h z (by simp)
    have h2 := sum_money zs fun y hy => h y (by simp [hy])
    simp only [List.sum_cons, List.length_cons, Int.natCast_add, Int.natCast_one, Int.add_mul, Int.one_mul]
    omega
end Go.Sl
namespace Go.Proofs.YtnfedcaehkcffaaGreat
open Go.RowKit Go.Sl
set_option maxHeartbeats 2000000
set_option maxRecDepth 100000
theorem sum_calls (A : Option Addr) (ca : Nat) (zs : List Int) (h : Hp) (w : World) (hs : h.sub w) (sx : Sl kInt h A ca zs) (hl : zs.length ≤ 1000) :
    Calls Tryz.prog 148 #[.slice A zs.length ca] w fun e w' => e = .returned (.tuple #[.int .i64 (sumV zs), .bool (sumOk zs)]) ∧ Below w.heap.size w w' := by
  have m1 := sx.small
  go_enter Tryz.func148, Tryz.ntmps148
  go_wp2
  go_loopw [4, 9] (fun s i wr => ∃ (j : Nat), j ≤ zs.length ∧ i = .int .i64 j ∧ s = .int .i64 (zs.take j).sum ∧ Hid (∀ z ∈ zs.take j, money z = true) ∧ Below w.heap.size w wr) (fun _ i _ => zs.length - (intOf i).toNat)
  case atStart => exact ⟨0, by omega, rfl, by simp, by unfold Hid; simp, Below.refl _ _⟩
  case round =>
    obtain ⟨j, hj, rfl, rfl, hm, B⟩ := hrel
    have hb := sum_money (zs.take j) hm.out
    rw [List.length_take] at hb
    by_cases hlt : j < zs.length
    · obtain ⟨z, hz⟩ := some_of_lt hlt
      obtain ⟨b1, o1, rfl, c1⟩ := sx.int (hs.of_below B) hz
      have i1 : (0 : Int) ≤ (j : Int) := by omega
      have i2 : (j : Int) < (zs.length : Int) := by omega
      have MC := fun W : World => money_calls z W
      cases hmz : money z with
      | false =>
        have HO : Hid (sumOk zs = false) := by
          unfold Hid sumOk
          have : zs.all money = false := by rw [List.all_eq_false]; exact ⟨z, List.mem_of_getElem? hz.out, by rw [hmz]; simp⟩
          rw [this]; rfl
        rw [hmz] at MC
        have HV : Hid (sumV zs = 0) := by unfold Hid sumV; rw [HO.out]; rfl
        clear hmz hb
        go_wp2_with fail
        refine (MC _).mono ?_
        rintro e w' ⟨rfl, rfl⟩
        go_wp2
        go_ret2
        exact ⟨by rw [HV.out, HO.out]; rfl, B⟩
      | true =>
        have hzb : -100000000000 ≤ z ∧ z ≤ 100000000000 := by simpa [money] using hmz
        have HS : Hid ((zs.take (j + 1)).sum = (zs.take j).sum + z) := by unfold Hid; rw [take_next hz, List.sum_append]; simp
        have HM : Hid (∀ y ∈ zs.take (j + 1), money y = true) := fun y hy => by
          rw [take_next hz] at hy
          rcases List.mem_append.1 hy with hy | hy
          · exact hm.out y hy
          · simp at hy; rw [hy]; exact hmz
        rw [hmz] at MC
        clear hmz
        generalize (zs.take j).sum = s at *
        go_wp2_with fail
        refine (MC _).mono ?_
        rintro e w' ⟨rfl, rfl⟩
        go_wp2
        go_roundw
        case rel => exact ⟨j + 1, by omega, by go_num, by rw [HS.out], HM, B⟩
        case measure => simp [intOf]; omega
    · obtain rfl : j = zs.length := by omega
      rw [List.take_length] at hm
      rw [List.take_length]
      have HA : zs.all money = true := List.all_eq_true.2 hm.out
      have MC := fun W : World => money_calls zs.sum W
      have HO : Hid (sumOk zs = money zs.sum) := by unfold Hid sumOk; rw [HA]; rfl
      have HV : Hid (sumV zs = if sumOk zs then zs.sum else 0) := rfl
      clear HA hb
      generalize zs.sum = s at *
      cases hms : money s with
      | false =>
        have HO2 : Hid (sumOk zs = false) := by unfold Hid; rw [HO.out, hms]
        have HV2 : Hid (sumV zs = 0) := by unfold Hid; rw [HV.out, HO2.out]; rfl
        clear HV
        rw [hms] at MC
        clear hms
        go_wp2_with fail
        refine (MC _).mono ?_
        rintro e w' ⟨rfl, rfl⟩
        go_wp2
        go_ret2
        exact ⟨by rw [HV2.out, HO2.out]; rfl, B⟩
      | true =>
        have HO2 : Hid (sumOk zs = true) := by unfold Hid; rw [HO.out, hms]
        have HV2 : Hid (sumV zs = s) := by unfold Hid; rw [HV.out, HO2.out]; rfl
        clear HV
        rw [hms] at MC
        clear hms
        go_wp2_with fail
        refine (MC _).mono ?_
        rintro e w' ⟨rfl, rfl⟩
        go_wp2
        go_ret2
        exact ⟨by rw [HV2.out, HO2.out]; rfl, B⟩
theorem income_calls (b p m : Int) (w : World) : Calls Tryz.prog 108 #[.int .i64 b, .int .i64 p, .int .i64 m] w fun e w' => e = .returned (.tuple #[.int .i64 (incV b p m), .bool (incOk b p m)]) ∧ Below w.heap.size w w' := by
  have MC := fun W : World => money_calls m W
  cases hm : money m with
  | false =>
    have HO : Hid (incOk b p m = false) := by unfold Hid incOk; rw [hm]; simp
    have HV : Hid (incV b p m = 0) := by unfold Hid incV; rw [HO.out]; rfl
    rw [hm] at MC
    clear hm
    go_enter Tryz.func108, Tryz.ntmps108
    go_wp2_with fail
    refine (MC _).mono ?_
    rintro e w' ⟨rfl, rfl⟩
    go_wp2
    go_ret2
    exact ⟨by rw [HV.out, HO.out]; rfl, Below.refl _ _⟩
  | true =>
    have hmb : -100000000000 ≤ m ∧ m ≤ 100000000000 := by simpa [money] using hm
    have HO : Hid (incOk b p m = sumOk [b, p, -m]) := by
      unfold Hid incOk sumOk
      have : money (-m) = true := by simp [money]; omega
      simp only [List.all_cons, List.all_nil, this, hm, List.sum_cons, List.sum_nil, Bool.and_true, Bool.true_and]
      rw [show b + (p + (-m + 0)) = b + p - m by omega, Bool.and_assoc]
    have HV : Hid (incV b p m = sumV [b, p, -m]) := by
      unfold Hid incV sumV; rw [HO.out]
      split
      · simp; omega
      · rfl
    have E0 := (Env.start w).alloc (.cells #[.int .i64 b, .int .i64 p, .int .i64 (-m)] 3)
    simp at E0
    have SC := sum_calls (some ⟨w.heap.size, 0, none⟩) 3 [b, p, -m] _ _ (E0.sub 0 rfl) (Sl.litInt (xs := [b, p, -m]) (Hp.one_self _ _) rfl (by unfold maxLen; simp)) (by simp)
    rw [show ([b, p, -m] : List Int).length = 3 from rfl] at SC
    rw [hm] at MC
    clear hm
    rw [HV.out, HO.out]
    clear HV HO
    generalize sumV [b, p, -m] = v at *
    generalize sumOk [b, p, -m] = q at *
    go_enter Tryz.func108, Tryz.ntmps108
    go_wp2_with fail
    refine (MC _).mono ?_
    rintro e w' ⟨rfl, rfl⟩
    go_wp2_with fail
    refine SC.mono ?_
    rintro e w2 ⟨rfl, B2⟩
    go_wp2
    go_ret2
    exact ⟨rfl, (E0.below B2).low⟩
end Go.Proofs.YtnfedcaehkcffaaGreat
end
section
/- The order of strings, plain; pairs of them. No program is named here. -/
namespace Go.Sl
open Go Go.RowKit
def cmpS (a b : ByteArray) : Int := Lib.compareBytes a.data.toList b.data.toList
theorem cmpB_self : ∀ l : List UInt8, Lib.compareBytes l l = 0
  | [] => rfl
  | x :: l => by simp [Lib.compareBytes, UInt8.lt_irrefl, cmpB_self l]
theorem cmpB_rng : ∀ a b : List UInt8, Lib.compareBytes a b = -1 ∨ Lib.compareBytes a b = 0 ∨ Lib.compareBytes a b = 1
  | [], [] => by simp [Lib.compareBytes]
  | [], _ :: _ => by simp [Lib.compareBytes]
  | _ :: _, [] => by simp [Lib.compareBytes]
  | a :: az, b :: bs => by
    unfold Lib.compareBytes
    split
    · simp
    · split
      · simp
      · exact cmpB_rng az bs
theorem u8_tri (a b : UInt8) : a < b ∨ a = b ∨ b < a := by
  simp only [UInt8.lt_iff_toNat_lt, ← UInt8.toNat_inj]; omega
theorem cmpB_eq : ∀ {a b : List UInt8}, Lib.compareBytes a b = 0 → a = b
  | [], [], _ => rfl
  | [], _ :: _, h => by simp [Lib.compareBytes] at h
  | _ :: _, [], h => by simp [Lib.compareBytes] at h
  | a :: az, b :: bs, h => by
    unfold Lib.compareBytes at h
    split at h
    · simp at h
    · split at h
      · simp at h
      · rename_i h1 h2
        rcases u8_tri a b with h3 | h3 | h3
        · exact absurd h3 h1
        · rw [h3, cmpB_eq h]
        · exact absurd h3 h2
theorem u8_asymm {a b : UInt8} (h : a < b) : ¬ b < a := by simp only [UInt8.lt_iff_toNat_lt] at *; omega
theorem cmpB_swap : ∀ a b : List UInt8, Lib.compareBytes b a = -Lib.compareBytes a b
  | [], [] => rfl
  | [], _ :: _ => rfl
  | _ :: _, [] => rfl
  | a :: az, b :: bs => by
    unfold Lib.compareBytes
    by_cases h1 : a < b
    · rw [if_pos h1, if_neg (u8_asymm h1), if_pos h1]; rfl
    · by_cases h2 : b < a
      · rw [if_pos h2, if_neg h1, if_pos h2]
      · rw [if_neg h2, if_neg h1, if_neg h1, if_neg h2]; exact cmpB_swap az bs
theorem cmpB_trans : ∀ {a b c : List UInt8}, Lib.compareBytes a b = -1 → Lib.compareBytes b c = -1 → Lib.compareBytes a c = -1
  | [], [], _, h, _ => by simp [Lib.compareBytes] at h
  | [], _ :: _, [], _, h => by simp [Lib.compareBytes] at h
  | [], _ :: _, _ :: _, _, _ => rfl
  | _ :: _, [], _, h, _ => by simp [Lib.compareBytes] at h
  | _ :: _, _ :: _, [], _, h => by simp [Lib.compareBytes] at h
  | a :: az, b :: bs, c :: cs, h1, h2 => by
    unfold Lib.compareBytes at h1 h2 ⊢
    by_cases x1 : a < b
    · by_cases x2 : b < c
      · rw [if_pos (UInt8.lt_trans x1 x2)]
      · rw [if_neg x2] at h2
        by_cases x3 : c < b
        · rw [if_pos x3] at h2; simp at h2
        · have : b = c := by rcases u8_tri b c with h | h | h
                             · exact absurd h x2
                             · exact h
                             · exact absurd h x3
          subst this; rw [if_pos x1]
    · rw [if_neg x1] at h1
      by_cases x3 : b < a
      · rw [if_pos x3] at h1; simp at h1
      · have e : a = b := by rcases u8_tri a b with h | h | h
                             · exact absurd h x1
                             · exact h
                             · exact absurd h x3
        subst e
        rw [if_neg x1] at h1
        by_cases x2 : a < c
        · rw [if_pos x2]
        · rw [if_neg x2] at h2 ⊢
          by_cases x4 : c < a
          · rw [if_pos x4] at h2; simp at h2
          · rw [if_neg x4] at h2 ⊢
            exact cmpB_trans h1 h2
theorem ba_ext {a b : ByteArray} (h : a.data.toList = b.data.toList) : a = b := by
  cases a; cases b; congr 1; exact Array.toList_inj.1 h
theorem cmpS_eq {a b : ByteArray} : cmpS a b = 0 ↔ a = b := ⟨fun h => ba_ext (cmpB_eq h), fun h => by rw [h]; exact cmpB_self _⟩
/-- By the first, then the second. -/
def ordStr2 : Ord (ByteArray × ByteArray) := ⟨fun x y => decide (cmpS x.1 y.1 = -1 ∨ x.1 = y.1 ∧ cmpS x.2 y.2 = -1), by
    intro x; simp [cmpS, cmpB_self], by
    intro x y z h1 h2
    simp only [decide_eq_true_eq] at *
    rcases h1 with h1 | ⟨e1, h1⟩ <;> rcases h2 with h2 | ⟨e2, h2⟩
    · exact .inl (cmpB_trans h1 h2)
    · rw [← e2]; exact .inl h1
    · rw [e1]; exact .inl h2
    · exact .inr ⟨e1.trans e2, cmpB_trans h1 h2⟩, by
    intro x y
    simp only [decide_eq_true_eq]
    have s1 : cmpS y.1 x.1 = -cmpS x.1 y.1 := cmpB_swap _ _
    have s2 : cmpS y.2 x.2 = -cmpS x.2 y.2 := cmpB_swap _ _
    rcases cmpB_rng x.1.data.toList y.1.data.toList with h | h | h
    · exact .inl (.inl h)
    · have e := cmpS_eq.1 h
      rcases cmpB_rng x.2.data.toList y.2.data.toList with h' | h' | h'
      · exact .inl (.inr ⟨e, h'⟩)
      · exact .inr (.inl (Prod.ext e (cmpS_eq.1 h')))
      · exact .inr (.inr (.inr ⟨e.symm, by rw [s2, show cmpS x.2 y.2 = 1 from h']⟩))
    · exact .inr (.inr (.inl (by rw [s1, show cmpS x.1 y.1 = 1 from h])))⟩
def pkey (x : SPair) : ByteArray × ByteArray := (x.s, x.b)
end Go.Sl
end
section
/- Profit that is still in the group, plain. -/
namespace Go.Sl
open Go Go.RowKit
def noS (b : ByteArray) : Bool := b.toList.isEmpty
def hasP (l : List SPair) (s b : ByteArray) : Int := match find pkey (s, b) l with | some r => r.amt | none => 0
def isP (s b : ByteArray) (x : SPair) : Bool := decide (x.s = s ∧ x.b = b)
def nextP (l : List SPair) (s b : ByteArray) (v : Int) : List SPair := (l.filter fun x => !isP s b x) ++ (if v = 0 then [] else [⟨s, b, v⟩])
def addE (l : List SPair) (s b : ByteArray) (n : Int) : Int :=
  if (noS s || (noS b || (decide (s = b) || !money n))) = true then 1
  else if (decide (hasP l s b + n < 0) || !money (hasP l s b + n)) = true then 6
  else if 8 < (nextP l s b (hasP l s b + n)).length then 5 else 0
def addW (l : List SPair) (s b : ByteArray) (n : Int) : List SPair := if addE l s b n = 0 then isort ordStr2 pkey (nextP l s b (hasP l s b + n)) else l
/-- What holds of all. -/
structure GoodP (l : List SPair) : Prop where
  rise : Rising ordStr2 pkey l
  amt : ∀ x ∈ l, 1 ≤ x.amt ∧ x.amt ≤ 100000000000
  len : l.length ≤ 8
theorem GoodP.nil : GoodP [] := ⟨List.Pairwise.nil, by simp, by simp⟩
theorem filter_isP (l : List SPair) (s b : ByteArray) : (l.filter fun x => !isP s b x) = del pkey (s, b) l := by
  unfold del
  congr 1; funext x
  simp [isP, pkey]
theorem nextP_dist {l : List SPair} (h : Rising ordStr2 pkey l) (s b : ByteArray) (v : Int) : (nextP l s b v).Pairwise fun x y => pkey x ≠ pkey y := by
  unfold nextP
  rw [filter_isP]
  refine List.pairwise_append.2 ⟨(h.del ordStr2 pkey _).imp fun e => ordStr2.ne e, by split <;> simp, fun x hx y hy => ?_⟩
  split at hy
  · cases hy
  · simp at hy; subst hy
    exact (mem_del pkey |>.1 hx).2
theorem nextP_put {l : List SPair} (h : Rising ordStr2 pkey l) (s b : ByteArray) (v : Int) : isort ordStr2 pkey (nextP l s b v) = if v = 0 then del pkey (s, b) l else put ordStr2 pkey ⟨s, b, v⟩ l := by
  refine Rising.ext ordStr2 pkey (isort_rising _) ?_ fun x => ?_
  · split
    · exact h.del _ _ _
    · exact h.put _ _ _
  · rw [mem_isort (nextP_dist h s b v)]
    unfold nextP
    rw [filter_isP, List.mem_append]
    split
    · simp
    · rw [mem_put, mem_del]
      simp only [List.mem_singleton]
      constructor
      · rintro (h | h)
        · exact .inr h
        · exact .inl h
      · rintro (h | h)
        · exact .inr h
        · exact .inl h
theorem hasP_bd {l : List SPair} (g : GoodP l) (s b : ByteArray) : 0 ≤ hasP l s b ∧ hasP l s b ≤ 100000000000 := by
  unfold hasP
  split
  · rename_i r hr
    have := g.amt r (find_some hr).1; omega
  · omega
theorem addE_ok {l : List SPair} {s b : ByteArray} {n : Int} (h : addE l s b n = 0) : 0 ≤ hasP l s b + n ∧ hasP l s b + n ≤ 100000000000 ∧ (nextP l s b (hasP l s b + n)).length ≤ 8 := by
  unfold addE at h
  split at h
  · cases h
  · split at h
    · cases h
    · split at h
      · cases h
      · rename_i h1 h2 h3
        simp [money] at h2
        omega
theorem isort_length {l : List SPair} (h : l.Pairwise fun x y => pkey x ≠ pkey y) : (isort ordStr2 pkey l).length = l.length := by
  induction l with
  | nil => rfl
  | cons x l ih =>
    obtain ⟨h1, h2⟩ := List.pairwise_cons.1 h
    show (put ordStr2 pkey x (isort ordStr2 pkey l)).length = _
    have hn : find pkey (pkey x) (isort ordStr2 pkey l) = none := by
      unfold find; rw [List.find?_eq_none]; intro y hy
      have := h1 y ((mem_isort h2).1 hy)
      simpa using this.symm
    rw [len_put x (isort_rising l), del_none hn, ih h2]; rfl
theorem GoodP.add {l : List SPair} (g : GoodP l) (s b : ByteArray) (n : Int) : GoodP (addW l s b n) := by
  unfold addW
  split
  · rename_i h
    obtain ⟨h1, h2, h3⟩ := addE_ok h
    have hd := nextP_dist g.rise s b (hasP l s b + n)
    refine ⟨isort_rising _, fun x hx => ?_, by rw [isort_length hd]; exact h3⟩
    have hx := (mem_isort hd).1 hx
    unfold nextP at hx
    rcases List.mem_append.1 hx with hx | hx
    · exact g.amt x (List.mem_filter.1 hx).1
    · split at hx
      · cases hx
      · simp at hx; subst hx; show 1 ≤ hasP l s b + n ∧ hasP l s b + n ≤ 100000000000; omega
  · exact g
theorem hasP_idx (l : List SPair) (s b : ByteArray) : (idx (isP s b) l = -1 ∧ hasP l s b = 0) ∨ ∃ (i : Nat) (x : SPair), l[i]? = some x ∧ idx (isP s b) l = i ∧ hasP l s b = x.amt := by
  by_cases h : l.any (isP s b) = true
  · right
    have hlt : l.findIdx (isP s b) < l.length := List.findIdx_lt_length.2 (List.any_eq_true.1 h)
    refine ⟨l.findIdx (isP s b), l[l.findIdx (isP s b)], by simp [hlt], by unfold idx; rw [if_pos h], ?_⟩
    have hp := List.findIdx_getElem (w := hlt)
    unfold hasP find
    have : l.find? (fun y => decide (pkey y = (s, b))) = some l[l.findIdx (isP s b)] := by
      rw [List.find?_eq_some_iff_getElem]
      refine ⟨by simpa [isP, pkey] using hp, l.findIdx (isP s b), hlt, rfl, fun j hj => ?_⟩
      have := List.not_of_lt_findIdx hj
      have hf : isP s b l[j] = false := by simpa using this
      have e : isP s b l[j] = decide (pkey l[j] = (s, b)) := by simp [isP, pkey]
      rw [← e, hf]; rfl
    rw [this]
  · left
    have hn : ∀ y ∈ l, isP s b y = false := fun y hy => by
      cases e : isP s b y with
      | false => rfl
      | true => exact absurd (List.any_eq_true.2 ⟨y, hy, e⟩) h
    refine ⟨idx_miss hn, ?_⟩
    unfold hasP find
    have : l.find? (fun y => decide (pkey y = (s, b))) = none := by
      rw [List.find?_eq_none]; intro y hy; have := hn y hy; simpa [isP, pkey] using this
    rw [this]
/-- A struct's own: one slice of a kind. -/
def kOne {α : Type} (k : Kd α) : Kd (List α) where
  size := 1
  K h l cs := ∃ A cap, cs = [.slice A l.length cap] ∧ Ow k h A cap l
  pos := by decide
  len := by rintro h x cs ⟨A, cap, rfl, _⟩; rfl
  one := by rintro h x cs ⟨A, cap, rfl, _⟩ u hu; simp at hu; subst hu; rfl
  mono := by rintro h h' x cs ⟨A, cap, e, s⟩ l; exact ⟨A, cap, e, s.mono l⟩
theorem Pt.one {α : Type} {k : Kd α} {T : TypeId} {h : Hp} {b : Nat} {l : List α} {w : World} (p : Pt (kOne k) T h b l) (s : h.sub w) : ∃ A ca, h b = some (.cells #[.slice A l.length ca] T (0, 0)) ∧ w.cell? ⟨b, 0, .none⟩ = some (.slice A l.length ca) ∧ Ow k (h.del b) A ca l ∧ ∀ n, w.frozen? ⟨b, n, .none⟩ = false := by
  obtain ⟨cs, hb, A, ca, rfl, ow⟩ := p
  exact ⟨A, ca, hb, by rw [cell_of_row w b 0 _ _ _ (s b _ hb)]; rfl, ow, fun n => frozen_of_row w b n _ _ (s b _ hb)⟩
end Go.Sl
end
section
/- The library's slices.SortFunc over api.Vintage, laid at this program in plain words. -/
namespace Go.Proofs
open Go.Shelf
def Tryz.sortVint_ren : Go.Shelf.Ren := ⟨fun | 6 => 135 | 15 => 125 | 14 => 163 | 28 => 160 | 29 => 161 | 20 => 174 | 21 => 175 | 22 => 176 | 23 => 177 | 24 => 178 | 25 => 179 | 26 => 180 | 27 => 181 | 46 => 184 | 47 => 170 | 48 => 171 | 49 => 185 | 50 => 186 | 57 => 195 | n => n, fun | 22 => 76 | 24 => 100 | 25 => 188 | 3 => 3 | 39 => 182 | 0 => 0 | 53 => 204 | 55 => 206 | 4 => 4 | 46 => 198 | 45 => 197 | 50 => 146 | 5 => 5 | 9 => 9 | 66 => 212 | 70 => 216 | 76 => 224 | 77 => 225 | n => n, fun | n => n⟩
theorem Tryz.sortVint : Go.Proofs.SlLaysF0.n6 Tryz.prog Tryz.sortVint_ren := {
  mixed := by kernel_rfl
  f6 := ⟨Tryz.f135.name, by decide, Tryz.func135.trans (congrArg some (by kernel_rfl))⟩
  f14 := ⟨Tryz.f163.name, by decide, Tryz.func163.trans (congrArg some (by kernel_rfl))⟩
  f15 := Tryz.func125.trans (congrArg some (by kernel_rfl))
  f20 := ⟨Tryz.f174.name, by decide, Tryz.func174.trans (congrArg some (by kernel_rfl))⟩
  f21 := ⟨Tryz.f175.name, by decide, Tryz.func175.trans (congrArg some (by kernel_rfl))⟩
  f22 := ⟨Tryz.f176.name, by decide, Tryz.func176.trans (congrArg some (by kernel_rfl))⟩
  f23 := ⟨Tryz.f177.name, by decide, Tryz.func177.trans (congrArg some (by kernel_rfl))⟩
  f24 := ⟨Tryz.f178.name, by decide, Tryz.func178.trans (congrArg some (by kernel_rfl))⟩
  f25 := ⟨Tryz.f179.name, by decide, Tryz.func179.trans (congrArg some (by kernel_rfl))⟩
  f26 := ⟨Tryz.f180.name, by decide, Tryz.func180.trans (congrArg some (by kernel_rfl))⟩
  f27 := ⟨Tryz.f181.name, by decide, Tryz.func181.trans (congrArg some (by kernel_rfl))⟩
  f28 := Tryz.func160.trans (congrArg some (by kernel_rfl))
  f29 := Tryz.func161.trans (congrArg some (by kernel_rfl))
  f46 := ⟨Tryz.f184.name, by decide, Tryz.func184.trans (congrArg some (by kernel_rfl))⟩
  f47 := Tryz.func170.trans (congrArg some (by kernel_rfl))
  f48 := Tryz.func171.trans (congrArg some (by kernel_rfl))
  f49 := ⟨Tryz.f185.name, by decide, Tryz.func185.trans (congrArg some (by kernel_rfl))⟩
  f50 := ⟨Tryz.f186.name, by decide, Tryz.func186.trans (congrArg some (by kernel_rfl))⟩
  f57 := ⟨Tryz.f195.name, by decide, Tryz.func195.trans (congrArg some (by kernel_rfl))⟩
  t0 := Tryz.underlying0
  a0 := Tryz.isAgg0
  z0 := Tryz.sizeOf0
  v0 := Tryz.zeroValue0
  t3 := Tryz.underlying3
  a3 := Tryz.isAgg3
  z3 := Tryz.sizeOf3
  v3 := Tryz.zeroValue3
  t4 := Tryz.underlying4
  a4 := Tryz.isAgg4
  z4 := Tryz.sizeOf4
  v4 := Tryz.zeroValue4
  t5 := Tryz.underlying5
  a5 := Tryz.isAgg5
  z5 := Tryz.sizeOf5
  v5 := Tryz.zeroValue5
  t9 := Tryz.underlying9
  a9 := Tryz.isAgg9
  z9 := Tryz.sizeOf9
  v9 := Tryz.zeroValue9
  t22 := Tryz.underlying76
  a22 := Tryz.isAgg76
  z22 := Tryz.sizeOf76
  v22 := Tryz.zeroValue76
  t25 := Tryz.underlying188
  a25 := Tryz.isAgg188
  z25 := Tryz.sizeOf188
  v25 := Tryz.zeroValue188
  t39 := Tryz.underlying182
  a39 := Tryz.isAgg182
  z39 := Tryz.sizeOf182
  v39 := Tryz.zeroValue182
  t45 := Tryz.underlying197
  a45 := Tryz.isAgg197
  z45 := Tryz.sizeOf197
  v45 := Tryz.zeroValue197
  t46 := Tryz.underlying198
  a46 := Tryz.isAgg198
  z46 := Tryz.sizeOf198
  v46 := Tryz.zeroValue198
  t50 := Tryz.underlying146
  a50 := Tryz.isAgg146
  z50 := Tryz.sizeOf146
  v50 := Tryz.zeroValue146
  t53 := Tryz.underlying204
  a53 := Tryz.isAgg204
  z53 := Tryz.sizeOf204
  v53 := Tryz.zeroValue204
  t55 := Tryz.underlying206
  a55 := Tryz.isAgg206
  z55 := Tryz.sizeOf206
  v55 := Tryz.zeroValue206
  t66 := Tryz.underlying212
  a66 := Tryz.isAgg212
  z66 := Tryz.sizeOf212
  v66 := Tryz.zeroValue212
  t70 := Tryz.underlying216
  a70 := Tryz.isAgg216
  z70 := Tryz.sizeOf216
  v70 := Tryz.zeroValue216
  t76 := Tryz.underlying224
  a76 := Tryz.isAgg224
  z76 := Tryz.sizeOf224
  v76 := Tryz.zeroValue224
  t77 := Tryz.underlying225
  a77 := Tryz.isAgg225
  z77 := Tryz.sizeOf225
  v77 := Tryz.zeroValue225 }
end Go.Proofs
end
section
/- slices.SortFunc over api.Vintage, whatever the order. -/
namespace Go.Proofs.YtnfedcaehkcffaaGreat
open Go.RowKit Go.Sl Go.Sort
set_option maxHeartbeats 1000000
set_option maxRecDepth 100000
theorem ins0_vint (p : Option Addr) (cap : Nat) (fv : Value) (w : World) : Calls Tryz.prog 174 #[.slice p 0 cap, .int .i64 0, .int .i64 0, fv] w fun e w' => e = .returned (.tuple #[]) ∧ w = w' := by
  go_enter Tryz.func174, Tryz.ntmps174
  go_wp2
  go_loop [8] (fun i => i = .int .i64 1) (fun _ => 0)
  case atStart => exact rfl
  case round =>
    obtain rfl := hrel
    go_wp2
    go_end0
    exact ⟨rfl, rfl⟩
theorem pdq0_vint (p : Option Addr) (cap : Nat) (lim : Int) (fv : Value) (w : World) : Calls Tryz.prog 163 #[.slice p 0 cap, .int .i64 0, .int .i64 0, .int .i64 lim, fv] w fun e w' => e = .returned (.tuple #[]) ∧ w = w' := by
  go_enter Tryz.func163, Tryz.ntmps163
  go_wp2
  go_loop [10, 1, 2] (fun b x y => b = .bool true ∧ x = .int .i64 0 ∧ y = .int .i64 0) (fun _ _ _ => 0)
  case atStart => exact ⟨rfl, rfl, rfl⟩
  case round =>
    obtain ⟨rfl, rfl, rfl⟩ := hrel
    go_wp2_with fail
    refine (ins0_vint p cap fv w).mono ?_
    rintro e w' ⟨rfl, rfl⟩
    go_wp2
    exact bodyPost_ret (v := .tuple #[]) (by simp [results, Tryz.results163, go_sem]) rfl ⟨rfl, rfl⟩
theorem sortNone_vint (p : Option Addr) (cap : Nat) (fv : Value) (w : World) : Calls Tryz.prog 135 #[.slice p 0 cap, fv] w fun e w' => e = .returned (.tuple #[]) ∧ w = w' := by
  have hl : ∀ W, Calls Tryz.prog 125 #[.int .u64 0] W fun e w' => e = .returned (.int .i64 (Go.Lib.bitLen 0 : Nat)) ∧ w' = W := fun W =>
    Go.Proofs.Any.bits_Len (Go.Proofs.SlLaysF0.n15.bits (P := Tryz.prog) (ρ := Tryz.sortVint_ren) { Tryz.sortVint with }) 0 W (by omega) (by omega)
  go_enter Tryz.func135, Tryz.ntmps135
  go_wp2_with fail
  refine (hl _).mono ?_
  rintro e w' ⟨rfl, rfl⟩
  go_wp2_with fail
  refine (pdq0_vint p cap _ fv _).mono ?_
  rintro e w' ⟨rfl, rfl⟩
  go_wp2
  go_end0
  exact ⟨rfl, rfl⟩
theorem sortFunc_vint {κ : Type} [DecidableEq κ] (od : Go.Sl.Ord κ) (key : STri → κ) (cf : STri → STri → Int) (hlt : ∀ x y, Go.Proofs.ltOf cf x y = od.lt (key x) (key y)) (g : FuncId) (eg : Enters Tryz.prog g)
    (hc : ∀ (x y : STri) (W : World), Calls Tryz.prog g #[.agg #[.int .i64 x.a, .int .i64 x.b, .int .i64 x.c], .agg #[.int .i64 y.a, .int .i64 y.b, .int .i64 y.c]] W fun e W' => e = .returned (.int .i64 (cf x y)) ∧ ∃ q os', W' = grow (W.drewN q) os')
    (A : Option Addr) (ca : Nat) (rows : List STri) (h : Hp) (w : World) (hs : h.sub w) (o : Ow kTri h A ca rows) (hn : rows.Pairwise fun x y => key x ≠ key y) (hl : rows.length ≤ 1000000) :
    Calls Tryz.prog 135 #[.slice A rows.length ca, .func (.func g) #[] #[]] w fun e w' => ∃ h', e = .returned (.tuple #[]) ∧ Ow kTri h' A ca (isort od key rows) ∧ Upd h h' w w' := by
  by_cases h0 : 0 < rows.length
  · obtain ⟨ad, hA⟩ := o.some_of_lt h0
    obtain ⟨b, off, cur, T, e, hbk, _, _⟩ := o.row ad hA (by have := o.le; omega)
    subst e
    subst hA
    have hH := o.holds hs h0
    have hblk : b < w.heap.size := hs.lt (by simp [hbk])
    have hcmp : Go.Proofs.CmpLays Tryz.prog g #[] STri.cells 3 cf b off rows.toArray.size w := fun _ _ _ _ x y => hc x y _
    have key' := Go.Proofs.AnyQ.slices_SortFunc Tryz.sortVint 3 (fun w => by kernel_rfl) (fun w => by kernel_rfl) STri.cells (fun _ => rfl) (fun x v hv => by simp [STri.cells] at hv; rcases hv with rfl | rfl | rfl <;> rfl) cf (swo_ord od key _ hlt) g #[] b off ca rows.toArray w eg hcmp hH hblk (by simp; omega)
    refine key'.mono ?_
    rintro e w' ⟨he, d, n, os, hp, hso, hw⟩
    have hd : d.size = rows.length := by simpa using hp.1
    obtain ⟨h', o', u'⟩ := o.sorted hs h0 hd hw
    rw [isort_of hn hlt (by simpa using hp) (by simpa using hso)] at o'
    exact ⟨h', he, o', u'⟩
  · have hz0 : rows = [] := List.eq_nil_of_length_eq_zero (by omega)
    subst hz0
    exact (sortNone_vint A ca _ w).mono fun _ _ ⟨he, hw⟩ => ⟨h, he, o, by subst hw; exact Upd.stay hs (Below.refl _ _)⟩
end Go.Proofs.YtnfedcaehkcffaaGreat
end
section
/- slices.IndexFunc over api.Vintage, whatever the predicate. -/
namespace Go.Proofs.YtnfedcaehkcffaaGreat
open Go.RowKit Go.Sl
set_option maxHeartbeats 1000000
set_option maxRecDepth 100000
theorem indexFunc_vint (g : FuncId) (lb : Array Value) (eg : Enters Tryz.prog g) (p : STri → Bool) (A : Option Addr) (ca : Nat) (xs : List STri) (h : Hp) (w : World) (hs : h.sub w) (sx : Sl kTri h A ca xs)
    (hp : ∀ (x : STri) (W : World), Below w.heap.size w W → Calls Tryz.prog g (#[.agg #[.int .i64 x.a, .int .i64 x.b, .int .i64 x.c]] ++ lb) W fun e W' => e = .returned (.bool (p x)) ∧ Below W.heap.size W W') :
    Calls Tryz.prog 132 #[.slice A xs.length ca, .func (.func g) #[] lb] w fun e w' => e = .returned (.int .i64 (idx p xs)) ∧ Below w.heap.size w w' := by
  have m1 := sx.small
  have eg' := fun (args : Array Value) (w : World) => eg args w
  go_enter Tryz.func132, Tryz.ntmps132
  go_wp2
  go_loopw [8] (fun i wr => ∃ (j : Nat), j ≤ xs.length ∧ i = .int .i64 j ∧ Hid (∀ y ∈ xs.take j, p y = false) ∧ Below w.heap.size w wr) (fun i _ => xs.length - (intOf i).toNat)
  case atStart => exact ⟨0, by omega, rfl, by unfold Hid; simp, Below.refl _ _⟩
  case round =>
    obtain ⟨j, hj, rfl, hn, hb⟩ := hrel
    by_cases hlt : j < xs.length
    · obtain ⟨x, hx⟩ := some_of_lt hlt
      obtain ⟨b1, o1, rfl, c1, c2, c3⟩ := sx.tri (hs.of_below hb) hx
      have i1 : (0 : Int) ≤ (j : Int) := by omega
      have i2 : (j : Int) < (xs.length : Int) := by omega
      have hpx := Lib.hid (hp x wr hb)
      by_cases hpp : p x = true
      · have HF : Hid (idx p xs = j) := idx_hit hn.out hx.out hpp
        go_wp2_with fail
        refine hpx.out.mono ?_
        rintro e w1 ⟨rfl, b1⟩
        go_wp2
        go_ret
        exact ⟨by rw [HF.out]; rfl, hb.trans (b1.mono hb.size)⟩
      · have hpf : p x = false := by simpa using hpp
        have HN : Hid (∀ y ∈ xs.take (j + 1), p y = false) := by
          intro y hy
          rw [take_next hx] at hy
          rcases List.mem_append.1 hy with hy | hy
          · exact hn.out y hy
          · simp at hy; subst hy; exact hpf
        clear hpp
        go_wp2_with fail
        refine hpx.out.mono ?_
        rintro e w1 ⟨rfl, b1⟩
        go_wp2
        go_roundw
        case rel => exact ⟨j + 1, by omega, by go_num, HN, hb.trans (b1.mono hb.size)⟩
        case measure => simp [intOf]; omega
    · have HF : Hid (idx p xs = -1) := idx_miss (fun y hy => hn.out y (by rw [List.take_of_length_le (by omega)]; exact hy))
      go_wp2
      go_ret
      exact ⟨by rw [HF.out]; rfl, hb⟩
end Go.Proofs.YtnfedcaehkcffaaGreat
end
section
/- clear of the rest of an owned slice; elements moved to the front. No program is named here. -/
namespace Go.Sl
open Go Go.RowKit
section
variable {P : Program} {α : Type} {k : Kd α} {h : Hp} {b off cap : Nat} {xs : List α} {w : World}
/-- A row that stands in its first m elements. -/
theorem Ow.rowTake {E : TypeId} {cur cur' : Array Value} (o : Ow k h (some ⟨b, off, .none⟩) cap xs) (s : h.sub w) (h0 : 0 < cap) (hb : h b = some (.cells cur E (0, 0))) (hsz : cur'.size = cur.size) {m : Nat} (hm : m ≤ xs.length)
    (hc : ∀ q, q < off + m * k.size → cur'[q]? = cur[q]?) : ∃ h', Ow k h' (some ⟨b, off, .none⟩) cap (xs.take m) ∧ Upd h h' w (w.setRow b cur') := by
  obtain ⟨b', off', cur0, E0, e, hb0, hsz0, hrow⟩ := o.row _ rfl h0
  cases e
  rw [hb] at hb0
  cases hb0
  have hbw := s b _ hb
  have hdel : (h.put b (.cells cur' E (0, 0))).del b = h.del b := by
    funext q; simp only [Hp.del, Hp.put]; split <;> simp_all
  refine ⟨h.put b (.cells cur' E (0, 0)), ⟨by have := o.le; rw [List.length_take]; omega, o.max, o.nil, ?_⟩, rfl, rfl, rfl, by simp, fun q hq hn => setRow_other w b q _ (fun e => by rw [e, hb] at hn; cases hn), ?_, ?_⟩
  · rintro ad ⟨⟩ _
    refine ⟨b, off, _, E, rfl, if_pos rfl, by rw [hsz]; exact hsz0, fun i x hx => ?_⟩
    rw [hdel]
    rw [List.getElem?_take] at hx
    split at hx
    · rename_i hi
      obtain ⟨cs, hK, hcs⟩ := hrow i x hx
      refine ⟨cs, hK, fun j u hu => ?_⟩
      have hj : j < k.size := by rw [← k.len hK]; exact (List.getElem?_eq_some_iff.1 hu).1
      have h1 : (i + 1) * k.size ≤ m * k.size := Nat.mul_le_mul_right _ hi
      rw [Nat.add_mul] at h1
      rw [hc _ (by omega)]
      exact hcs j u hu
    · cases hx
  · intro q o' e'
    simp only [Hp.put] at e'
    split at e'
    · rename_i hq; cases e'; rw [hq]; exact setRow_heap w b cur _ E _ hbw
    · rename_i hq; rw [setRow_other w b q _ hq]; exact s q o' e'
  · intro q hq
    left
    simp only [Hp.put] at hq
    split at hq
    · rename_i h2; rw [h2, hb]; simp
    · exact hq
theorem run_clear_none {t e ty : TypeId} {A : Option Addr} {c : Nat} (ht : P.underlying t = some (.slice e)) (w : World) : (Builtin.clear_ #[t] ty #[.slice A 0 c]).run P w = .ok (.tuple #[]) w := by
  cases A <;> simp [Builtin.clear_, run_underlying ht]
theorem run_clear_rest {t e ty : TypeId} {z : Value} (ht : P.underlying t = some (.slice e)) (hv : ∀ w, (zeroValue e).run P w = .ok z w) (hz : z.cells.size = k.size) (hz1 : ∀ u ∈ z.cells.toList, u.oneCell' = true)
    (o : Ow k h (some ⟨b, off, .none⟩) cap xs) (s : h.sub w) {i : Nat} (hi : i < xs.length) (c : Nat) :
    ∃ w' h', (Builtin.clear_ #[t] ty #[.slice (some ⟨b, off + i * k.size, .none⟩) (xs.length - i) c]).run P w = .ok (.tuple #[]) w' ∧ Ow k h' (some ⟨b, off, .none⟩) cap (xs.take i) ∧ Upd h h' w w' := by
  have hcap := o.le
  obtain ⟨b', off', cur, E, e, hb, hsz, hrow⟩ := o.row _ rfl (by omega)
  cases e
  have hbw := s b _ hb
  generalize hzs : (Builtin.zeroCells z.cells (xs.length - i)).toList = zs
  have hlen : zs.length = (xs.length - i) * k.size := by rw [← hzs]; simp [Builtin.zeroCells, hz]
  have hz2 : ∀ u ∈ zs, u.oneCell' = true := by
    intro u hu
    rw [← hzs] at hu
    simp only [Builtin.zeroCells, Array.toList_map, List.mem_map] at hu
    obtain ⟨q, hq, rfl⟩ := hu
    have hp : 0 < z.cells.size := by rw [hz]; exact k.pos
    have hlt : q % z.cells.size < z.cells.size := Nat.mod_lt _ hp
    rw [getElem!_pos z.cells _ hlt]
    exact hz1 _ (by simp)
  have hmul : (xs.length - i) * k.size = xs.length * k.size - i * k.size := Nat.sub_mul _ _ _
  have hle1 : i * k.size ≤ xs.length * k.size := Nat.mul_le_mul_right _ (by omega)
  have hle2 : xs.length * k.size ≤ cap * k.size := Nat.mul_le_mul_right _ hcap
  have hst := run_storeCells_at P b (off + i * k.size) E zs 0 cur w hbw (by rw [hlen]; omega) hz2
  simp only [Nat.add_zero] at hst
  obtain ⟨h', o', u'⟩ := o.rowTake (cur' := (cur.toList.take (off + i * k.size) ++ zs ++ cur.toList.drop (off + i * k.size + zs.length)).toArray) s (by omega) hb (by simp; omega) (m := i) (by omega) (fun q hq => by
    rw [List.getElem?_toArray, List.append_assoc, List.getElem?_append_left (by rw [List.length_take, Array.length_toList]; omega), List.getElem?_take, if_pos hq]; simp)
  obtain ⟨m, hm⟩ : ∃ m, xs.length - i = m + 1 := ⟨xs.length - i - 1, by omega⟩
  rw [hm] at hzs ⊢
  exact ⟨_, h', by simp [Builtin.clear_, run_underlying ht, hv, hzs, hst], o', u'⟩
end
theorem filter_take_next {α : Type} {p : α → Bool} {xs : List α} {j : Nat} {x : α} (h : Hid (xs[j]? = some x)) : (xs.take (j + 1)).filter p = (xs.take j).filter p ++ (if p x then [x] else []) := by
  rw [take_next h, List.filter_append]
  congr 1
  cases hp : p x <;> simp [hp]
end Go.Sl
end
