/- The law BucketOwn: for every input it returns true, and its arguments read behind the call as before it. No conditions. -/
import Derived.Test.YtdcfojohgcmpcaaPk6
import Derived.OwnWalk
import Derived.Deep.DeepCutAuto
import Derived.Deep.RegionWith
import Derived.Deep.RegionHeld3
section
/- Registers that are moved in one order and in the other, plain. No program is named here. -/
namespace Go.Sl
open Go Go.RowKit
/-- Two registers that have the same in each bucket are one. -/
theorem GoodR.ext {l m : List STri} (g : GoodR l) (g' : GoodR m) (h : ∀ c y, getB l c y = getB m c y) : l = m := by
  have key : ∀ {l m : List STri}, GoodR l → GoodR m → (∀ c y, getB l c y = getB m c y) → ∀ x, x ∈ l → x ∈ m := by
    intro l m g g' h x hx
    have h1 := find_mem (o := ordPair) (key := rkey) g.rise hx
    have h2 := h x.a x.b
    have e : getB l x.a x.b = x.c := by unfold getB; rw [show ((x.a, x.b) : Int × Int) = rkey x from rfl, h1]
    rw [e] at h2
    have hz := g.nz x hx
    unfold getB at h2
    cases hf : find rkey (x.a, x.b) m with
    | none => rw [hf] at h2; exact absurd h2 hz
    | some y =>
      rw [hf] at h2
      obtain ⟨hm, hk⟩ := find_some hf
      have : y = x := by
        cases x; cases y; simp [rkey] at hk h2; simp [hk, h2]
      rw [← this]; exact hm
  exact Rising.ext ordPair rkey g.rise g'.rise fun x => ⟨key g g' h x, key g' g (fun c y => (h c y).symm) x⟩
namespace BW
def cl (x : Nat → Int) : Int := 1 + within (x 1) 3
def yr (x : Nat → Int) : Int := within (x 2) 4
def am (x : Nat → Int) : Int := within (x 5) 1000 - 500
def step (l : List STri) (x : Nat → Int) : List STri := moveR l (cl x) (yr x) (am x)
def F (zs : List (Nat → Int)) : List STri := zs.foldl step []
structure Inv (l : List STri) (k : Nat) : Prop where
  good : GoodR l
  len : l.length ≤ k
  slo : -(500 * k : Int) ≤ sumC l
  shi : sumC l ≤ 500 * k
  glo : ∀ c y, -(500 * k : Int) ≤ getB l c y
  ghi : ∀ c y, getB l c y ≤ 500 * k
theorem bd (x : Nat → Int) : 1 ≤ cl x ∧ cl x ≤ 3 ∧ 0 ≤ yr x ∧ yr x ≤ 3 ∧ -500 ≤ am x ∧ am x ≤ 499 := by
  have h1 := within_lo (x 1) (n := 3) (by omega)
  have h2 := within_hi (x 1) (n := 3) (by omega)
  have h3 := within_lo (x 2) (n := 4) (by omega)
  have h4 := within_hi (x 2) (n := 4) (by omega)
  have h5 := within_lo (x 5) (n := 1000) (by omega)
  have h6 := within_hi (x 5) (n := 1000) (by omega)
  unfold cl yr am
  omega
theorem Inv.ok {l : List STri} {k : Nat} (v : Inv l k) (hk : k < 10) (x : Nat → Int) : moveE l (cl x) (yr x) (am x) = 0 := by
  obtain ⟨b1, b2, b3, b4, b5, b6⟩ := bd x
  have g1 := v.glo (cl x) (yr x)
  have g2 := v.ghi (cl x) (yr x)
  have s1 := v.slo
  have s2 := v.shi
  have hl := len_setB v.good.rise (cl x) (yr x) (getB l (cl x) (yr x) + am x)
  have hl2 := v.len
  unfold moveE
  rw [if_neg (by simp [bucketOk, money]; omega), if_neg (by simp [money]; omega), if_neg (by omega)]
theorem Inv.get {l : List STri} {k : Nat} (v : Inv l k) (hk : k < 10) (x : Nat → Int) (c y : Int) : getB (step l x) c y = getB l c y + (if cl x = c ∧ yr x = y then am x else 0) := by
  unfold step moveR
  rw [if_pos (v.ok hk x), getB_setB v.good.rise]
  by_cases h : c = cl x ∧ y = yr x
  · rw [if_pos h, if_pos ⟨h.1.symm, h.2.symm⟩, h.1, h.2]
  · rw [if_neg h, if_neg fun e => h ⟨e.1.symm, e.2.symm⟩]; omega
theorem Inv.step {l : List STri} {k : Nat} (v : Inv l k) (hk : k < 10) (x : Nat → Int) : Inv (step l x) (k + 1) := by
  obtain ⟨b1, b2, b3, b4, b5, b6⟩ := bd x
  have hm : BW.step l x = setB l (cl x) (yr x) (getB l (cl x) (yr x) + am x) := by unfold BW.step moveR; rw [if_pos (v.ok hk x)]
  have hs := sumC_setB v.good.rise (cl x) (yr x) (getB l (cl x) (yr x) + am x)
  have hl := len_setB v.good.rise (cl x) (yr x) (getB l (cl x) (yr x) + am x)
  have hg := v.get hk x
  refine ⟨v.good.move _ _ _, ?_, ?_, ?_, fun c y => ?_, fun c y => ?_⟩
  · rw [hm]; have := v.len; omega
  · rw [hm, hs]; have := v.slo; omega
  · rw [hm, hs]; have := v.shi; omega
  · rw [hg]; have := v.glo c y; split <;> omega
  · rw [hg]; have := v.ghi c y; split <;> omega
theorem Inv.fold : ∀ (zs : List (Nat → Int)) {l : List STri} {k : Nat}, Inv l k → k + zs.length ≤ 10 → Inv (zs.foldl BW.step l) (k + zs.length) ∧ ∀ c y, getB (zs.foldl BW.step l) c y = getB l c y + (zs.map fun x => if cl x = c ∧ yr x = y then am x else 0).sum
  | [], l, k, v, _ => ⟨v, fun c y => by simp⟩
  | x :: zs, l, k, v, h => by
    simp only [List.length_cons] at h
    obtain ⟨i1, i2⟩ := Inv.fold zs (v.step (by omega) x) (by omega)
    refine ⟨by simp only [List.foldl_cons, List.length_cons]; rwa [show k + (zs.length + 1) = k + 1 + zs.length by omega], fun c y => ?_⟩
    simp only [List.foldl_cons, List.map_cons, List.sum_cons]
    rw [i2, v.get (by omega)]; omega
theorem Inv.nil : Inv [] 0 := ⟨.nil, by simp, by simp [sumC], by simp [sumC], fun c y => by simp [getB, find], fun c y => by simp [getB, find]⟩
theorem inv (zs : List (Nat → Int)) (h : zs.length ≤ 10) : Inv (F zs) zs.length := by
  have := (Inv.fold zs Inv.nil (by omega)).1
  rwa [Nat.zero_add] at this
/-- The order does not count. -/
theorem F_rev (zs : List (Nat → Int)) (h : zs.length ≤ 10) : F zs.reverse = F zs := by
  have a := Inv.fold zs Inv.nil (by omega)
  have b := Inv.fold zs.reverse Inv.nil (by simp; omega)
  refine GoodR.ext b.1.good a.1.good fun c y => ?_
  unfold F
  rw [a.2, b.2, List.map_reverse, sum_perm (List.reverse_perm _)]
theorem F_take {zs : List (Nat → Int)} {j : Nat} {x : Nat → Int} (hx : Hid (zs[j]? = some x)) : F (zs.take (j + 1)) = step (F (zs.take j)) x := by
  unfold F; rw [take_next hx, List.foldl_append]; rfl
theorem ok {zs : List (Nat → Int)} (h : zs.length ≤ 10) {j : Nat} (hj : j < zs.length) (x : Nat → Int) : moveE (F (zs.take j)) (cl x) (yr x) (am x) = 0 := by
  have hl : (zs.take j).length = j := by rw [List.length_take]; omega
  have := (inv (zs.take j) (by omega)).ok (by omega) x
  exact this
end BW
end Go.Sl
end
section
/- The walk of law10.BucketOwn. -/
namespace Go.Proofs.Ytdcfojohgcmpcaa
open Go.RowKit Go.Sl
set_option maxHeartbeats 4000000
set_option maxRecDepth 100000
theorem bucketOwn_calls (A : Option Addr) (ca : Nat) (xs : List (Nat → Int)) (k1 : Hp) (w : World) (hs1 : k1.sub w) (s1 : Sl (kFun 6 (by decide)) k1 A ca xs) :
    Calls Try.prog 9 #[.slice A xs.length ca] w fun e w' => e = .returned (.bool true) ∧ Below w.heap.size w w' := by
  have E0 := Env.start w
  have m1 := s1.small
  obtain ⟨n, hn, hn10, hnl, hmin⟩ : ∃ n : Nat, n = min xs.length 10 ∧ n ≤ 10 ∧ n ≤ xs.length ∧ min (xs.length : Int) 10 = (n : Int) := ⟨min xs.length 10, rfl, by omega, by omega, by omega⟩
  have hzl : Hid ((xs.take n).length = n) := by unfold Hid; rw [List.length_take]; omega
  have HZ : ∀ j, j < n → (xs.take n)[j]? = xs[j]? := fun j hj => by rw [List.getElem?_take, if_pos hj]
  have HR : ∀ j, j < n → (xs.take n).reverse[j]? = xs[n - 1 - j]? := fun j hj => by rw [List.getElem?_reverse (by rw [hzl.out]; exact hj), hzl.out, HZ _ (by omega)]
  have HF := BW.F_rev (xs.take n) (by rw [hzl.out]; exact hn10)
  have HO1 : ∀ j, j < n → ∀ x, moveE (BW.F ((xs.take n).take j)) (BW.cl x) (BW.yr x) (BW.am x) = 0 := fun j hj x => BW.ok (by rw [hzl.out]; exact hn10) (by rw [hzl.out]; exact hj) x
  have HO2 : ∀ j, j < n → ∀ x, moveE (BW.F ((xs.take n).reverse.take j)) (BW.cl x) (BW.yr x) (BW.am x) = 0 := fun j hj x => BW.ok (by rw [List.length_reverse, hzl.out]; exact hn10) (by rw [List.length_reverse, hzl.out]; exact hj) x
  have hrl : Hid ((xs.take n).reverse.length = n) := by unfold Hid; rw [List.length_reverse]; exact hzl.out
  have HFv := BW.inv (xs.take n) (by rw [hzl.out]; exact hn10)
  generalize (xs.take n).reverse = rs at *
  generalize xs.take n = zs at *
  clear hn
  go_enter Try.func9, Try.ntmps9
  go_upto_region 1 with fail
  go_wp2_with fail
  refine (Regi.new E0).mono ?_
  rintro e w1 ⟨h1, c1, rfl, S1, E1⟩
  try simp at E1
  go_wp2_with fail
  refine (Regi.new E1).mono ?_
  rintro e w2 ⟨h2, c2, rfl, S2, E2⟩
  try simp at E2
  go_wp2_with fail
  go_loopw [6] (fun i wr => ∃ (j : Nat) (g1 g2 : Hp), j ≤ n ∧ i = .int .i64 j ∧ Regi g1 c1 (BW.F (zs.take j)) ∧ Regi g2 c2 (BW.F (rs.take j)) ∧ Env w wr [g1, g2]) (fun i _ => n - (intOf i).toNat)
  case atStart => exact ⟨0, _, _, by omega, rfl, S1, S2, E2⟩
  case round =>
    clear S1 S2 E1 E2
    obtain ⟨j, g1, g2, hj, rfl, S, P, E⟩ := hrel
    by_cases hlt : j < n
    · have HRj := HR j hlt
      obtain ⟨m, hm⟩ : ∃ m : Nat, n - 1 - j = m := ⟨_, rfl⟩
      rw [hm] at HRj
      have hmj : (n : Int) - 1 - (j : Int) = (m : Int) := by omega
      obtain ⟨x, hx⟩ := some_of_lt (show j < xs.length by omega)
      obtain ⟨y, hy⟩ := some_of_lt (show m < xs.length by omega)
      obtain ⟨ba, oa, rfl, d0, d1, d2, d3, d4, d5⟩ := s1.fn6 (hs1.of_below E.low) hx
      obtain ⟨ba', oa', he, e0, e1, e2, e3, e4, e5⟩ := s1.fn6 (hs1.of_below E.low) hy
      cases he
      have i1 : (0 : Int) ≤ (j : Int) := by omega
      have i2 : (j : Int) < (xs.length : Int) := by omega
      have i3 : (j : Int) < (n : Int) := by omega
      have i4 : (0 : Int) ≤ (m : Int) := by omega
      have i5 : (m : Int) < (xs.length : Int) := by omega
      have T1 := BW.F_take (zs := zs) (j := j) (x := x) (by unfold Hid; rw [HZ j hlt]; exact hx.out)
      have T2 := BW.F_take (zs := rs) (j := j) (x := y) (by unfold Hid; rw [HRj]; exact hy.out)
      have O1 := HO1 j hlt x
      have O2 := HO2 j hlt y
      have hw1 : IntKind.i64.wrap ((n : Int) - 1) = (n : Int) - 1 := by simp [IntKind.wrap, IntKind.bits]; omega
      have hw2 : IntKind.i64.wrap ((n : Int) - 1 - (j : Int)) = (m : Int) := by rw [hmj]; simp [IntKind.wrap, IntKind.bits]; omega
      clear hmj hm
      go_upto_region 8 with fail
      go_cut [7, 8] (fun p q wx => ∃ b7 b8, p = .pointer (some ⟨b7, 0, none⟩) ∧ q = .pointer (some ⟨b8, 0, none⟩) ∧ Env w wx [g1, g2, Hp.box b7 [.int .i64 (x 0), .int .i64 (x 1), .int .i64 (x 2), .int .i64 (x 3), .int .i64 (x 4), .int .i64 (x 5)] 75, Hp.box b8 [.int .i64 (y 0), .int .i64 (y 1), .int .i64 (y 2), .int .i64 (y 3), .int .i64 (y 4), .int .i64 (y 5)] 75])
      case first =>
        go_region_held3 (fun w' => w'.cell? ⟨ba, oa + j * 6, none⟩ = some (.int .i64 (x 0)) ∧ w'.cell? ⟨ba, oa + j * 6 + 1, none⟩ = some (.int .i64 (x 1)) ∧ w'.cell? ⟨ba, oa + j * 6 + 2, none⟩ = some (.int .i64 (x 2)) ∧ w'.cell? ⟨ba, oa + j * 6 + 3, none⟩ = some (.int .i64 (x 3)) ∧ w'.cell? ⟨ba, oa + j * 6 + 4, none⟩ = some (.int .i64 (x 4)) ∧ w'.cell? ⟨ba, oa + j * 6 + 5, none⟩ = some (.int .i64 (x 5)) ∧ w'.cell? ⟨ba, oa + m * 6, none⟩ = some (.int .i64 (y 0)) ∧ w'.cell? ⟨ba, oa + m * 6 + 1, none⟩ = some (.int .i64 (y 1)) ∧ w'.cell? ⟨ba, oa + m * 6 + 2, none⟩ = some (.int .i64 (y 2)) ∧ w'.cell? ⟨ba, oa + m * 6 + 3, none⟩ = some (.int .i64 (y 3)) ∧ w'.cell? ⟨ba, oa + m * 6 + 4, none⟩ = some (.int .i64 (y 4)) ∧ w'.cell? ⟨ba, oa + m * 6 + 5, none⟩ = some (.int .i64 (y 5))) (go_keep) (fail)
        all_goals
          go_wp2_with fail
          go_meet
          have Ea := (E.alloc (.cells #[.int .i64 (x 0), .int .i64 (x 1), .int .i64 (x 2), .int .i64 (x 3), .int .i64 (x 4), .int .i64 (x 5)] 75)).alloc (.cells #[.int .i64 (y 0), .int .i64 (y 1), .int .i64 (y 2), .int .i64 (y 3), .int .i64 (y 4), .int .i64 (y 5)] 75)
          have Eb := (E.alloc (.cells #[.int .i64 (y 0), .int .i64 (y 1), .int .i64 (y 2), .int .i64 (y 3), .int .i64 (y 4), .int .i64 (y 5)] 75)).alloc (.cells #[.int .i64 (x 0), .int .i64 (x 1), .int .i64 (x 2), .int .i64 (x 3), .int .i64 (x 4), .int .i64 (x 5)] 75)
          simp at Ea Eb
          first
            | exact ⟨_, _, rfl, rfl, Ea.drew⟩
            | exact ⟨_, _, rfl, rfl, Eb.swap2.drew⟩
      case rest =>
        obtain ⟨b7, b8, rfl, rfl, E2⟩ := hcut
        clear E d0 d1 d2 d3 d4 d5 e0 e1 e2 e3 e4 e5 HO1 HO2 HR HZ
        have q1 := E2.cell 2 rfl 1 rfl
        have q2 := E2.cell 2 rfl 2 rfl
        have q5 := E2.cell 2 rfl 5 rfl
        have p1 := E2.cell 3 rfl 1 rfl
        have p2 := E2.cell 3 rfl 2 rfl
        have p5 := E2.cell 3 rfl 5 rfl
        have KC : ∀ (W : World) (h1 h2 : Hp), Env w W [h1, h2, Hp.box b7 [.int .i64 (x 0), .int .i64 (x 1), .int .i64 (x 2), .int .i64 (x 3), .int .i64 (x 4), .int .i64 (x 5)] 75, Hp.box b8 [.int .i64 (y 0), .int .i64 (y 1), .int .i64 (y 2), .int .i64 (y 3), .int .i64 (y 4), .int .i64 (y 5)] 75] → (W.cell? ⟨b7, 1, none⟩ = some (.int .i64 (x 1)) ∧ W.cell? ⟨b7, 2, none⟩ = some (.int .i64 (x 2)) ∧ W.cell? ⟨b7, 5, none⟩ = some (.int .i64 (x 5))) ∧ W.cell? ⟨b8, 1, none⟩ = some (.int .i64 (y 1)) ∧ W.cell? ⟨b8, 2, none⟩ = some (.int .i64 (y 2)) ∧ W.cell? ⟨b8, 5, none⟩ = some (.int .i64 (y 5)) := fun W h1 h2 E => ⟨⟨E.cell 2 rfl 1 rfl, E.cell 2 rfl 2 rfl, E.cell 2 rfl 5 rfl⟩, E.cell 3 rfl 1 rfl, E.cell 3 rfl 2 rfl, E.cell 3 rfl 5 rfl⟩
        have M1 := fun W L (E : Env w W L) (hi : L[0]? = some g1) => Regi.move S E 0 hi (1 + within (x 1) 3) (within (x 2) 4) (within (x 5) 1000 - 500) ⟨O1, T1.symm⟩
        have M2 := fun W L (E : Env w W L) (hi : L[1]? = some g2) => Regi.move P E 1 hi (1 + within (y 1) 3) (within (y 2) 4) (within (y 5) 1000 - 500) ⟨O2, T2.symm⟩
        have X1 := fun W => within_calls (x 1) 3 W (by omega) (by omega)
        have X2 := fun W => within_calls (x 2) 4 W (by omega) (by omega)
        have X5 := fun W => within_calls (x 5) 1000 W (by omega) (by omega)
        have Y1 := fun W => within_calls (y 1) 3 W (by omega) (by omega)
        have Y2 := fun W => within_calls (y 2) 4 W (by omega) (by omega)
        have Y5 := fun W => within_calls (y 5) 1000 W (by omega) (by omega)
        have bx1 := within_hi (x 1) (n := 3) (by omega)
        have bx2 := within_lo (x 1) (n := 3) (by omega)
        have bx3 := within_hi (x 5) (n := 1000) (by omega)
        have bx4 := within_lo (x 5) (n := 1000) (by omega)
        have by1 := within_hi (y 1) (n := 3) (by omega)
        have by2 := within_lo (y 1) (n := 3) (by omega)
        have by3 := within_hi (y 5) (n := 1000) (by omega)
        have by4 := within_lo (y 5) (n := 1000) (by omega)
        generalize within (x 1) 3 = vx1 at *
        generalize within (x 2) 4 = vx2 at *
        generalize within (x 5) 1000 = vx5 at *
        generalize within (y 1) 3 = vy1 at *
        generalize within (y 2) 4 = vy2 at *
        generalize within (y 5) 1000 = vy5 at *
        generalize x 0 = x0 at *
        generalize x 1 = x1 at *
        generalize x 2 = x2 at *
        generalize x 3 = x3 at *
        generalize x 4 = x4 at *
        generalize x 5 = x5 at *
        generalize y 0 = y0 at *
        generalize y 1 = y1 at *
        generalize y 2 = y2 at *
        generalize y 3 = y3 at *
        generalize y 4 = y4 at *
        generalize y 5 = y5 at *
        have hwx : IntKind.i64.wrap (1 + vx1) = 1 + vx1 := by simp [IntKind.wrap, IntKind.bits]; omega
        have hwx5 : IntKind.i64.wrap (vx5 - 500) = vx5 - 500 := by rw [IntKind.wrap_i64]; omega
        have hwy : IntKind.i64.wrap (1 + vy1) = 1 + vy1 := by simp [IntKind.wrap, IntKind.bits]; omega
        have hwy5 : IntKind.i64.wrap (vy5 - 500) = vy5 - 500 := by rw [IntKind.wrap_i64]; omega
        go_upto_region 9 with fail
        go_region_held3 (fun W => (W.cell? ⟨b7, 1, none⟩ = some (.int .i64 x1) ∧ W.cell? ⟨b7, 2, none⟩ = some (.int .i64 x2) ∧ W.cell? ⟨b7, 5, none⟩ = some (.int .i64 x5)) ∧ W.cell? ⟨b8, 1, none⟩ = some (.int .i64 y1) ∧ W.cell? ⟨b8, 2, none⟩ = some (.int .i64 y2) ∧ W.cell? ⟨b8, 5, none⟩ = some (.int .i64 y5)) (first | go_keep | (exact hkeep))
          (first
            | (go_at_call 15; ((with_reducible refine (X1 _).mono ?_)); rintro e w' ⟨rfl, rfl⟩)
            | (go_at_call 15; ((with_reducible refine (X2 _).mono ?_)); rintro e w' ⟨rfl, rfl⟩)
            | (go_at_call 15; ((with_reducible refine (X5 _).mono ?_)); rintro e w' ⟨rfl, rfl⟩)
            | (go_at_call 15; ((with_reducible refine (Y1 _).mono ?_)); rintro e w' ⟨rfl, rfl⟩)
            | (go_at_call 15; ((with_reducible refine (Y2 _).mono ?_)); rintro e w' ⟨rfl, rfl⟩)
            | (go_at_call 15; ((with_reducible refine (Y5 _).mono ?_)); rintro e w' ⟨rfl, rfl⟩)
            | (go_at_call 36; ((with_reducible refine (M1 _ _ (by repeat (first | (with_reducible exact E2) | (with_reducible apply Env.drew) | (with_reducible apply Env.drewN) | (with_reducible apply Env.alloc'))) rfl).mono ?_)); rintro e w8 ⟨h8, rfl, S8, E8⟩; simp only [List.set_cons_zero] at E8; have hkeep := KC _ _ _ E8)
            | (go_at_call 36; ((with_reducible refine (M2 _ _ (by repeat (first | (with_reducible exact E8) | (with_reducible apply Env.drew) | (with_reducible apply Env.drewN) | (with_reducible apply Env.alloc'))) rfl).mono ?_)); rintro e w9 ⟨h9, rfl, S9, E9⟩; simp at E9; have hkeep := KC _ _ _ E9)
            | fail)
        all_goals
          have E10 := (E9.drop 3).drop 2
          simp at E10
          go_wp2
          go_roundw
          case rel => exact ⟨j + 1, _, _, by omega, by go_num, S8, S9, (by repeat (first | (with_reducible exact E10) | (with_reducible apply Env.drew) | (with_reducible apply Env.drewN) | (with_reducible apply Env.alloc')))⟩
          case measure => simp [intOf]; omega
    · obtain rfl : j = n := by omega
      rw [List.take_of_length_le (by rw [hzl.out]; omega)] at S
      rw [List.take_of_length_le (by rw [hrl.out]; omega), HF] at P
      have hln := HFv.len
      rw [hzl.out] at hln
      generalize BW.F zs = l at *
      clear HO1 HO2 HZ HR HF HFv
      go_wp2_with fail
      refine (Regi.rows S E 0 rfl l.length rfl).mono ?_
      rintro e w3 ⟨C3, n3, h3, rfl, o3, E3⟩
      simp at E3
      go_wp2_with fail
      refine (Regi.rows P E3 1 rfl l.length rfl).mono ?_
      rintro e w4 ⟨C4, n4, h4, rfl, o4, E4⟩
      simp at E4
      have SB := same_bucket C3 C4 n3 n4 l l h3 h4 w4 (E4.sub 2 rfl) (E4.sub 3 rfl) o3.sl o4.sl
      rw [eqB_t rfl] at SB
      go_wp2_with fail
      refine SB.mono ?_
      rintro e w5 ⟨rfl, b5⟩
      have E5 := (E4.below b5).drop 3
      simp at E5
      clear E E3 E4 SB
      have lm := o3.small
      go_wp2_with fail
      go_loopw [77] (fun i wr => ∃ (q : Nat) (L : List STri) (h : Hp), q ≤ l.length ∧ i = .int .i64 q ∧ Hid (L.length = l.length) ∧ Ow kTri h C3 n3 L ∧ Env w wr [g1, g2, h]) (fun i _ => l.length - (intOf i).toNat)
      case atStart => exact ⟨0, l, h3, by omega, rfl, rfl, o3, E5⟩
      case round =>
        clear o3 E5
        obtain ⟨q, L, h, hq, rfl, hL, o, E⟩ := hrel
        by_cases hlt : q < l.length
        · obtain ⟨x, hx⟩ := some_of_lt (show q < L.length by rw [hL.out]; exact hlt)
          obtain ⟨b1, o1, rfl, c1, c2, c3⟩ := o.sl.tri (E.sub 2 rfl) hx
          have hfx := o.cell_free (E.sub 2 rfl) (by rw [hL.out]; omega)
          obtain ⟨h', o', u'⟩ := Ow.set (x' := ⟨x.a, x.b, wrap64 (x.c + 1)⟩) (v := .int .i64 (wrap64 (x.c + 1))) (j := 2) o (E.sub 2 rfl) hx.out (by decide) rfl
          have E' := E.upd 2 rfl u'
          simp at E'
          have hL' : Hid ((L.set q (⟨x.a, x.b, wrap64 (x.c + 1)⟩ : STri)).length = l.length) := by unfold Hid; rw [List.length_set]; exact hL.out
          clear u' o
          have i1 : (0 : Int) ≤ (q : Int) := by omega
          have i2 : (q : Int) < (l.length : Int) := by omega
          go_wp2
          go_roundw
          case rel => exact ⟨q + 1, _, h', by omega, by go_num, hL', o', E'⟩
          case measure => simp [intOf]; omega
        · have E6 := E.drop 2
          simp at E6
          clear o E
          go_wp2_with fail
          refine (Regi.rows S E6 0 rfl l.length rfl).mono ?_
          rintro e w7 ⟨C7, n7, h7, rfl, o7, E7⟩
          simp at E7
          go_wp2_with fail
          refine (Regi.rows P E7 1 rfl l.length rfl).mono ?_
          rintro e w8 ⟨C8, n8, h8, rfl, o8, E8⟩
          simp at E8
          have SB := same_bucket C7 C8 n7 n8 l l h7 h8 w8 (E8.sub 2 rfl) (E8.sub 3 rfl) o7.sl o8.sl
          rw [eqB_t rfl] at SB
          go_wp2_with fail
          refine SB.mono ?_
          rintro e w9 ⟨rfl, b9⟩
          have E9 := E8.below b9
          clear SB E6 E7 E8
          go_wp2_with fail
          refine (Regi.total S E9 0 rfl rfl).mono ?_
          rintro e w10 ⟨rfl, E10⟩
          go_wp2_with fail
          refine (Regi.total P E10 1 rfl rfl).mono ?_
          rintro e w11 ⟨rfl, E11⟩
          go_wp2_with fail
          refine (wakes10 _).mono ?_
          rintro e w12 ⟨rfl, B12⟩
          go_wp2
          go_ret
          exact ⟨rfl, (E11.below B12).low⟩
end Go.Proofs.Ytdcfojohgcmpcaa
end
namespace Go.Proofs.Ytdcfojohgcmpcaa.bucketOwn
open Go.ChangeShapes Go.WideShapes Go.ChangeAt Go.RowKit Go.Sl
set_option linter.unusedVariables false
set_option maxRecDepth 100000
set_option maxHeartbeats 2000000
theorem lifted (os : Os) (started : os.Started) (H : Type) (enc : TypeId × Value → H) :
    ReturnsInHanded {} Try.checked os 9 .any (Rows.bucketOwnSpec.pre6 enc Try.prog Try.f9 Rows.bucketOwnRow.domain false) (Rows.bucketOwnSpec.post enc Try.prog Try.f9 false true false false) := by
  refine returnsInHanded_of_change_sized (C := Try.checked) Lift.own started (by kernel_rfl) Try.func9
    (ChangeSpec.witness6 (enc := enc) (C := Try.checked) false ⟨#[], #[.slice none 0 0], []⟩ 8 (by kernel_rfl) (by kernel_rfl) (by kernel_rfl) (by kernel_rfl)) ?_
  intro W base args ds gs before hval0 hW hcnd hsz0 _
  have hval : ∀ (j : Nat) t v, Try.f9.params[j]? = some t → args[j]? = some v → Value.okWide Try.prog W .any base t v := hval0
  have hW' := hW
  obtain ⟨p, q, hA0, hV, rfl, hfz, hnd⟩ := hW
  have hA : DataW.TrodAll enc Try.prog W 0 (fun _ => true) true Try.f9.params.toList args.toList ds p := hA0
  rw [Try.params9] at hA hval
  obtain ⟨v0, vs0, d0, ds0, p0, q0, hargs, rfl, rfl, h0, r0⟩ := trodAll_cons hA
  obtain ⟨rfl, rfl, rfl⟩ := trodAll_nil r0
  obtain rfl : args = #[v0] := by cases args; simp_all
  obtain ⟨rfl, rfl⟩ := trodVars_none hV
  have k0 := h0
  have lt0 : ∀ x ∈ p0, x.block < W.heap.size := by obtain ⟨m, hm⟩ := k0; exact DataW.trod_lt m _ _ _ hm
  obtain ⟨a0_0, len0_0, cap0_0, rfl⟩ := okWide_slice Try.underlying71 (hval 0 71 v0 rfl rfl)
  obtain ⟨fuel0, hf0⟩ := h0
  obtain ⟨A0, c0, z0, hcs0, s0, w0⟩ := open_acts 6 (by decide) Try.underlying71 Try.underlying75 (by kernel_rfl) (fun i hi => match i, hi with | 0, _ => ⟨_, rfl, rfl, Try.underlying3, by kernel_rfl⟩ | 1, _ => ⟨_, rfl, rfl, Try.underlying3, by kernel_rfl⟩ | 2, _ => ⟨_, rfl, rfl, Try.underlying3, by kernel_rfl⟩ | 3, _ => ⟨_, rfl, rfl, Try.underlying3, by kernel_rfl⟩ | 4, _ => ⟨_, rfl, rfl, Try.underlying3, by kernel_rfl⟩ | 5, _ => ⟨_, rfl, rfl, Try.underlying3, by kernel_rfl⟩ | k + 6, h => absurd h (by omega)) hf0
  simp [Value.cells] at hcs0
  obtain ⟨rfl, rfl, rfl⟩ := hcs0
  clear hA0 hval0 hsz0
  refine (bucketOwn_calls a0_0 cap0_0 z0 (Hp.all W) W (Hp.all_sub W) s0).mono fun e W' ⟨he, bel⟩ => ?_
  subst he
  exact ⟨_, rfl, _, _, _, [], _, [], hW', trodAll_mk1 (shut_bool Try.underlying4 _), (trodAll_cons_mk (Below.trod Lift.laidOut (by kernel_rfl) (of_decide_eq_true (by kernel_rfl)) k0 bel lt0) trodAll_mk0), rfl, bel.frame _, fun h => by cases h⟩
theorem over : Rows.bucketOwnRow.holds Try.pinned (OpenSpec.ofChange Rows.bucketOwnSpec) :=
  OpenClaim.holds_of_wide 9 Try.f9 rfl rfl rfl rfl rfl rfl rfl ⟨rfl, rfl, rfl, rfl, rfl⟩ rfl rfl rfl rfl rfl (by kernel_rfl) Try.func9 (by kernel_rfl)
    (of_decide_eq_true (by kernel_rfl)) (by unfold Func.isWrapper; first | (rw [if_pos (by decide +kernel)]; kernel_rfl) | (rw [if_neg (by decide +kernel)]; exact ⟨rfl, rfl⟩))
    (fun os started H enc _ => lifted os started H enc)
end Go.Proofs.Ytdcfojohgcmpcaa.bucketOwn
namespace Go.Proofs.Ytdcfojohgcmpcaa
theorem bucketOwn_holds : Rows.BucketOwnSaid := bucketOwn.over
#print axioms bucketOwn_holds
end Go.Proofs.Ytdcfojohgcmpcaa
