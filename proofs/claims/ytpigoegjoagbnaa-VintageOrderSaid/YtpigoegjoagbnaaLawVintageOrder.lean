/- The law VintageOrder: for every input it returns true, and its arguments read behind the call as before it. No conditions. -/
import Derived.Test.YtpigoegjoagbnaaPk5
import Derived.OwnWalk
import Derived.Deep.DeepCutAuto
import Derived.Deep.RegionWith
import Derived.Deep.RegionHeld3
section
/- Losses that come in one order and in the other, plain. No program is named here. -/
namespace Go.Sl
open Go Go.RowKit
theorem getV_mem {l : List STri} (hr : RisingV l) (hz : ∀ b ∈ l, b.c ≠ 0) (x : STri) : x ∈ l ↔ getV l x.a x.b = x.c ∧ x.c ≠ 0 := by
  constructor
  · intro hx
    have h1 := find_mem (o := ordPair) (key := vkey) hr hx
    refine ⟨?_, hz x hx⟩
    unfold getV; rw [show ((x.b, x.a) : Int × Int) = vkey x from rfl, h1]
  · rintro ⟨h1, h2⟩
    unfold getV at h1
    cases hf : find vkey (x.b, x.a) l with
    | none => rw [hf] at h1; exact absurd h1.symm h2
    | some y =>
      rw [hf] at h1
      obtain ⟨hm, hk⟩ := find_some hf
      have : y = x := by cases x; cases y; simp [vkey] at hk h1; simp [hk, h1]
      rw [← this]; exact hm
theorem GoodV.nz {l : List STri} (g : GoodV l) : ∀ b ∈ l, b.c ≠ 0 := fun b hb => by have := g.lo b hb; omega
theorem GoodV.ext {l m : List STri} (g : GoodV l) (g' : GoodV m) (h : ∀ o e, getV l o e = getV m o e) : l = m :=
  Rising.ext ordPair vkey g.rise g'.rise fun x => by rw [getV_mem g.rise g.nz, getV_mem g'.rise g'.nz, h]
theorem getV_putV {l : List STri} (hr : RisingV l) (o e n o' e' : Int) : getV (putV l o e n) o' e' = if o' = o ∧ e' = e then n else getV l o' e' := by
  unfold getV putV
  rw [find_put _ hr]
  by_cases h : (e', o') = (e, o)
  · rw [if_pos (by simpa [vkey] using h), if_pos (by simp at h; exact ⟨h.2, h.1⟩)]
  · rw [if_neg (by simpa [vkey] using h), if_neg (by simp at h; exact fun k => h k.2 k.1)]
/-- Numbers that rise within bounds are few. -/
theorem rise_len : ∀ (l : List Int) (m : Int), l.Pairwise (· < ·) → (∀ x ∈ l, m ≤ x ∧ x ≤ 8) → (l.length : Int) ≤ 9 - m ∨ l = []
  | [], _, _, _ => .inr rfl
  | x :: l, m, hp, h => by
    left
    obtain ⟨h1, h2⟩ := List.pairwise_cons.1 hp
    have hx := h x (by simp)
    rcases rise_len l (x + 1) h2 (fun y hy => by have := h1 y hy; have := h y (by simp [hy]); omega) with h3 | h3
    · simp only [List.length_cons, Int.natCast_add, Int.natCast_one]; omega
    · subst h3; simp; omega
namespace VO
def og (x : SVA) : Int := within (x.f 1) 3
def ex (x : SVA) : Int := within (x.f 1) 3 + within (x.f 2) 3
def am (x : SVA) : Int := 1 + within (x.f 3) 1000
def step (l : List STri) (x : SVA) : List STri := vAdd l (og x) (ex x) (am x)
def F (zs : List SVA) : List STri := zs.foldl step []
def okK (x : STri) : Prop := 0 ≤ x.a ∧ x.a ≤ 2 ∧ x.a ≤ x.b ∧ x.b ≤ x.a + 2
def rank (x : STri) : Int := x.a + (if x.b = 0 then 0 else if x.b = 1 then 1 else if x.b = 2 then 3 else if x.b = 3 then 5 else 6)
theorem len9 {l : List STri} (hr : RisingV l) (h : ∀ x ∈ l, okK x) : l.length ≤ 9 := by
  have hp : (l.map rank).Pairwise (· < ·) := by
    refine List.pairwise_map.2 (hr.imp_of_mem fun {a b} ha hb hab => ?_)
    have h1 := h a ha
    have h2 := h b hb
    simp [ordPair, vkey] at hab
    unfold okK at h1 h2
    unfold rank
    have : a.b = 0 ∨ a.b = 1 ∨ a.b = 2 ∨ a.b = 3 ∨ a.b = 4 := by omega
    have : b.b = 0 ∨ b.b = 1 ∨ b.b = 2 ∨ b.b = 3 ∨ b.b = 4 := by omega
    repeat' split
    all_goals omega
  rcases rise_len (l.map rank) 0 hp (fun q hq => by
    obtain ⟨x, hx, rfl⟩ := List.mem_map.1 hq
    have h1 := h x hx
    unfold okK at h1
    unfold rank
    repeat' split
    all_goals omega) with h3 | h3
  · simp at h3; omega
  · simp at h3; simp [h3]
structure Inv (l : List STri) (k : Nat) : Prop where
  good : GoodV l
  keys : ∀ x ∈ l, okK x
  sum : sumC l ≤ 1000 * k
theorem bd (x : SVA) : 0 ≤ og x ∧ og x ≤ 2 ∧ og x ≤ ex x ∧ ex x ≤ og x + 2 ∧ 1 ≤ am x ∧ am x ≤ 1000 := by
  have h1 := within_lo (x.f 1) (n := 3) (by omega)
  have h2 := within_hi (x.f 1) (n := 3) (by omega)
  have h3 := within_lo (x.f 2) (n := 3) (by omega)
  have h4 := within_hi (x.f 2) (n := 3) (by omega)
  have h5 := within_lo (x.f 3) (n := 1000) (by omega)
  have h6 := within_hi (x.f 3) (n := 1000) (by omega)
  unfold og ex am
  omega
theorem Inv.ok {l : List STri} {k : Nat} (v : Inv l k) (hk : k < 10) (x : SVA) : vAddE l (og x) (ex x) (am x) = 0 := by
  obtain ⟨b1, b2, b3, b4, b5, b6⟩ := bd x
  have hs := v.sum
  have hp := sumC_pos v.good.lo
  have hl := len9 v.good.rise v.keys
  unfold vAddE
  rw [if_neg (by simp [vOk, money]; omega), if_neg (by simp [money]; omega)]
  split
  · rfl
  · rw [if_neg (by omega)]
theorem Inv.get {l : List STri} {k : Nat} (v : Inv l k) (hk : k < 10) (x : SVA) (o e : Int) : getV (step l x) o e = getV l o e + (if og x = o ∧ ex x = e then am x else 0) := by
  unfold step vAdd
  rw [if_pos (v.ok hk x), getV_putV v.good.rise]
  by_cases h : o = og x ∧ e = ex x
  · rw [if_pos h, if_pos ⟨h.1.symm, h.2.symm⟩, h.1, h.2]
  · rw [if_neg h, if_neg fun k => h ⟨k.1.symm, k.2.symm⟩]; omega
theorem Inv.step {l : List STri} {k : Nat} (v : Inv l k) (hk : k < 10) (x : SVA) : Inv (step l x) (k + 1) := by
  obtain ⟨b1, b2, b3, b4, b5, b6⟩ := bd x
  have hm : VO.step l x = putV l (og x) (ex x) (getV l (og x) (ex x) + am x) := by unfold VO.step vAdd; rw [if_pos (v.ok hk x)]
  refine ⟨v.good.add _ _ _, fun y hy => ?_, ?_⟩
  · rw [hm] at hy
    rcases (mem_put ordPair vkey).1 hy with rfl | ⟨h, _⟩
    · exact ⟨b1, b2, b3, b4⟩
    · exact v.keys y h
  · rw [hm, sumC_put v.good.rise]; have := v.sum; omega
theorem Inv.fold : ∀ (zs : List SVA) {l : List STri} {k : Nat}, Inv l k → k + zs.length ≤ 10 → Inv (zs.foldl VO.step l) (k + zs.length) ∧ ∀ o e, getV (zs.foldl VO.step l) o e = getV l o e + (zs.map fun x => if og x = o ∧ ex x = e then am x else 0).sum
  | [], l, k, v, _ => ⟨v, fun o e => by simp⟩
  | x :: zs, l, k, v, h => by
    simp only [List.length_cons] at h
    obtain ⟨i1, i2⟩ := Inv.fold zs (v.step (by omega) x) (by omega)
    refine ⟨by simp only [List.foldl_cons, List.length_cons]; rwa [show k + (zs.length + 1) = k + 1 + zs.length by omega], fun o e => ?_⟩
    simp only [List.foldl_cons, List.map_cons, List.sum_cons]
    rw [i2, v.get (by omega)]; omega
theorem Inv.nil : Inv [] 0 := ⟨.nil, by simp, by simp [sumC]⟩
theorem inv (zs : List SVA) (h : zs.length ≤ 10) : Inv (F zs) zs.length := by
  have := (Inv.fold zs Inv.nil (by omega)).1
  rwa [Nat.zero_add] at this
/-- The order does not count. -/
theorem F_rev (zs : List SVA) (h : zs.length ≤ 10) : F zs.reverse = F zs := by
  have a := Inv.fold zs Inv.nil (by omega)
  have b := Inv.fold zs.reverse Inv.nil (by simp; omega)
  refine GoodV.ext b.1.good a.1.good fun o e => ?_
  unfold F
  rw [a.2, b.2, List.map_reverse, sum_perm (List.reverse_perm _)]
theorem F_take {zs : List SVA} {j : Nat} {x : SVA} (hx : Hid (zs[j]? = some x)) : F (zs.take (j + 1)) = step (F (zs.take j)) x := by
  unfold F; rw [take_next hx, List.foldl_append]; rfl
theorem ok {zs : List SVA} (h : zs.length ≤ 10) {j : Nat} (hj : j < zs.length) (x : SVA) : vAddE (F (zs.take j)) (og x) (ex x) (am x) = 0 := by
  have hl : (zs.take j).length = j := by rw [List.length_take]; omega
  have := (inv (zs.take j) (by omega)).ok (by omega) x
  exact this
/-- Nothing is taken. -/
theorem take0 {l : List STri} (g : GoodV l) : vTakeE l (List.replicate l.length 0) = 0 ∧ vTake l (List.replicate l.length 0) = l := by
  have hz : List.zipWith lessV l (List.replicate l.length 0) = l := by
    refine List.ext_getElem? fun j => ?_
    rw [List.getElem?_zipWith, List.getElem?_replicate]
    by_cases h : j < l.length
    · rw [if_pos h, List.getElem?_eq_getElem h]; simp [lessV]
    · rw [if_neg h, List.getElem?_eq_none (by omega)]
  have hE : vTakeE l (List.replicate l.length 0) = 0 := by
    unfold vTakeE
    refine if_pos ⟨by simp, ?_⟩
    rw [List.any_eq_false]
    intro b hb
    obtain ⟨j, hj⟩ := List.mem_iff_getElem?.1 hb
    rw [List.getElem?_zipWith, List.getElem?_replicate] at hj
    by_cases h : j < l.length
    · rw [if_pos h, List.getElem?_eq_getElem h] at hj
      simp at hj
      have := g.lo l[j] (List.getElem_mem h)
      rw [← hj]; simp [badU]; omega
    · rw [if_neg h, List.getElem?_eq_none (by omega)] at hj; cases hj
  refine ⟨hE, ?_⟩
  unfold vTake
  rw [if_pos hE, hz]
  exact List.filter_eq_self.2 fun x hx => by have := g.lo x hx; simp [zeroB]; omega
end VO
end Go.Sl
end
section
/- The walk of law13.VintageOrder. -/
namespace Go.Proofs.Ytpigoegjoagbnaa
open Go.RowKit Go.Sl
set_option maxHeartbeats 4000000
set_option maxRecDepth 100000
theorem vintOrder_calls (A : Option Addr) (ca : Nat) (xs : List SVA) (k1 : Hp) (w : World) (hs1 : k1.sub w) (s1 : Sl kVA k1 A ca xs) :
    Calls Try.prog 6 #[.slice A xs.length ca] w fun e w' => e = .returned (.bool true) ∧ Below w.heap.size w w' := by
  have E0 := Env.start w
  have m1 := s1.small
  obtain ⟨n, hn, hn10, hnl, hmin⟩ : ∃ n : Nat, n = min xs.length 10 ∧ n ≤ 10 ∧ n ≤ xs.length ∧ min (xs.length : Int) 10 = (n : Int) := ⟨min xs.length 10, rfl, by omega, by omega, by omega⟩
  have hzl : Hid ((xs.take n).length = n) := by unfold Hid; rw [List.length_take]; omega
  have HZ : ∀ j, j < n → (xs.take n)[j]? = xs[j]? := fun j hj => by rw [List.getElem?_take, if_pos hj]
  have HR : ∀ j, j < n → (xs.take n).reverse[j]? = xs[n - 1 - j]? := fun j hj => by rw [List.getElem?_reverse (by rw [hzl.out]; exact hj), hzl.out, HZ _ (by omega)]
  have HF := VO.F_rev (xs.take n) (by rw [hzl.out]; exact hn10)
  have HO1 : ∀ j, j < n → ∀ x, vAddE (VO.F ((xs.take n).take j)) (VO.og x) (VO.ex x) (VO.am x) = 0 := fun j hj x => VO.ok (by rw [hzl.out]; exact hn10) (by rw [hzl.out]; exact hj) x
  have HO2 : ∀ j, j < n → ∀ x, vAddE (VO.F ((xs.take n).reverse.take j)) (VO.og x) (VO.ex x) (VO.am x) = 0 := fun j hj x => VO.ok (by rw [List.length_reverse, hzl.out]; exact hn10) (by rw [List.length_reverse, hzl.out]; exact hj) x
  have hrl : Hid ((xs.take n).reverse.length = n) := by unfold Hid; rw [List.length_reverse]; exact hzl.out
  have HFv := VO.inv (xs.take n) (by rw [hzl.out]; exact hn10)
  generalize (xs.take n).reverse = rs at *
  generalize xs.take n = zs at *
  clear hn
  go_enter Try.func6, Try.ntmps6
  go_upto_region 1 with fail
  go_wp2_with fail
  refine (Vnt.new E0).mono ?_
  rintro e w1 ⟨h1, c1, rfl, S1, E1⟩
  try simp at E1
  go_wp2_with fail
  refine (Vnt.new E1).mono ?_
  rintro e w2 ⟨h2, c2, rfl, S2, E2⟩
  try simp at E2
  go_wp2_with fail
  go_loopw [6] (fun i wr => ∃ (j : Nat) (g1 g2 : Hp), j ≤ n ∧ i = .int .i64 j ∧ Vnt g1 c1 (VO.F (zs.take j)) ∧ Vnt g2 c2 (VO.F (rs.take j)) ∧ Env w wr [g1, g2]) (fun i _ => n - (intOf i).toNat)
  case atStart => exact ⟨0, _, _, by omega, rfl, S1, S2, E2⟩
  case round =>
    clear S1 S2 E1 E2
    obtain ⟨j, g1, g2, hj, rfl, S, P, E⟩ := hrel
    by_cases hlt : j < n
    · have HRj := HR j hlt
      obtain ⟨m, hm⟩ : ∃ m : Nat, n - 1 - j = m := ⟨_, rfl⟩
      rw [hm] at HRj
      have hmj : (n : Int) - 1 - (j : Int) = (m : Int) := by omega
      obtain ⟨x, hx⟩ := some_of_lt (show j < xs.length by omega)
      obtain ⟨y, hy⟩ := some_of_lt (show m < xs.length by omega)
      obtain ⟨ba, oa, U, cu, rfl, su, d0, d1, d2, d3, d4⟩ := s1.va (hs1.of_below E.low) hx
      obtain ⟨ba', oa', U', cu', he, su', e0, e1, e2, e3, e4⟩ := s1.va (hs1.of_below E.low) hy
      cases he
      have i1 : (0 : Int) ≤ (j : Int) := by omega
      have i2 : (j : Int) < (xs.length : Int) := by omega
      have i3 : (j : Int) < (n : Int) := by omega
      have i4 : (0 : Int) ≤ (m : Int) := by omega
      have i5 : (m : Int) < (xs.length : Int) := by omega
      have T1 := VO.F_take (zs := zs) (j := j) (x := x) (by unfold Hid; rw [HZ j hlt]; exact hx.out)
      have T2 := VO.F_take (zs := rs) (j := j) (x := y) (by unfold Hid; rw [HRj]; exact hy.out)
      have O1 := HO1 j hlt x
      have O2 := HO2 j hlt y
      have hw1 : IntKind.i64.wrap ((n : Int) - 1) = (n : Int) - 1 := by simp [IntKind.wrap, IntKind.bits]; omega
      have hw2 : IntKind.i64.wrap ((n : Int) - 1 - (j : Int)) = (m : Int) := by rw [hmj]; simp [IntKind.wrap, IntKind.bits]; omega
      clear hmj hm
      go_upto_region 8 with fail
      go_cut [7, 8] (fun p q wx => ∃ b7 b8, p = .pointer (some ⟨b7, 0, none⟩) ∧ q = .pointer (some ⟨b8, 0, none⟩) ∧ Env w wx [g1, g2, Hp.box b7 [.int .i64 (x.f 0), .int .i64 (x.f 1), .int .i64 (x.f 2), .int .i64 (x.f 3), .slice U x.us.length cu] 28, Hp.box b8 [.int .i64 (y.f 0), .int .i64 (y.f 1), .int .i64 (y.f 2), .int .i64 (y.f 3), .slice U' y.us.length cu'] 28])
      case first =>
        go_region_held3 (fun w' => w'.cell? ⟨ba, oa + j * 5, none⟩ = some (.int .i64 (x.f 0)) ∧ w'.cell? ⟨ba, oa + j * 5 + 1, none⟩ = some (.int .i64 (x.f 1)) ∧ w'.cell? ⟨ba, oa + j * 5 + 2, none⟩ = some (.int .i64 (x.f 2)) ∧ w'.cell? ⟨ba, oa + j * 5 + 3, none⟩ = some (.int .i64 (x.f 3)) ∧ w'.cell? ⟨ba, oa + j * 5 + 4, none⟩ = some (.slice U x.us.length cu) ∧ w'.cell? ⟨ba, oa + m * 5, none⟩ = some (.int .i64 (y.f 0)) ∧ w'.cell? ⟨ba, oa + m * 5 + 1, none⟩ = some (.int .i64 (y.f 1)) ∧ w'.cell? ⟨ba, oa + m * 5 + 2, none⟩ = some (.int .i64 (y.f 2)) ∧ w'.cell? ⟨ba, oa + m * 5 + 3, none⟩ = some (.int .i64 (y.f 3)) ∧ w'.cell? ⟨ba, oa + m * 5 + 4, none⟩ = some (.slice U' y.us.length cu')) (go_keep) (fail)
        all_goals
          go_wp2_with fail
          go_meet
          have Ea := (E.alloc (.cells #[.int .i64 (x.f 0), .int .i64 (x.f 1), .int .i64 (x.f 2), .int .i64 (x.f 3), .slice U x.us.length cu] 28)).alloc (.cells #[.int .i64 (y.f 0), .int .i64 (y.f 1), .int .i64 (y.f 2), .int .i64 (y.f 3), .slice U' y.us.length cu'] 28)
          have Eb := (E.alloc (.cells #[.int .i64 (y.f 0), .int .i64 (y.f 1), .int .i64 (y.f 2), .int .i64 (y.f 3), .slice U' y.us.length cu'] 28)).alloc (.cells #[.int .i64 (x.f 0), .int .i64 (x.f 1), .int .i64 (x.f 2), .int .i64 (x.f 3), .slice U x.us.length cu] 28)
          simp at Ea Eb
          first
            | exact ⟨_, _, rfl, rfl, Ea.drew⟩
            | exact ⟨_, _, rfl, rfl, Eb.swap2.drew⟩
      case rest =>
        obtain ⟨b7, b8, rfl, rfl, E2⟩ := hcut
        clear E d0 d1 d2 d3 d4 e0 e1 e2 e3 e4 HO1 HO2 HR HZ
        have KC : ∀ (W : World) (h1 h2 : Hp), Env w W [h1, h2, Hp.box b7 [.int .i64 (x.f 0), .int .i64 (x.f 1), .int .i64 (x.f 2), .int .i64 (x.f 3), .slice U x.us.length cu] 28, Hp.box b8 [.int .i64 (y.f 0), .int .i64 (y.f 1), .int .i64 (y.f 2), .int .i64 (y.f 3), .slice U' y.us.length cu'] 28] → (W.cell? ⟨b7, 1, none⟩ = some (.int .i64 (x.f 1)) ∧ W.cell? ⟨b7, 2, none⟩ = some (.int .i64 (x.f 2)) ∧ W.cell? ⟨b7, 3, none⟩ = some (.int .i64 (x.f 3))) ∧ W.cell? ⟨b8, 1, none⟩ = some (.int .i64 (y.f 1)) ∧ W.cell? ⟨b8, 2, none⟩ = some (.int .i64 (y.f 2)) ∧ W.cell? ⟨b8, 3, none⟩ = some (.int .i64 (y.f 3)) := fun W h1 h2 E => ⟨⟨E.cell 2 rfl 1 rfl, E.cell 2 rfl 2 rfl, E.cell 2 rfl 3 rfl⟩, E.cell 3 rfl 1 rfl, E.cell 3 rfl 2 rfl, E.cell 3 rfl 3 rfl⟩
        have M1 := fun W L (E : Env w W L) (hi : L[0]? = some g1) => Vnt.add S E 0 hi (within (x.f 1) 3) (within (x.f 1) 3 + within (x.f 2) 3) (1 + within (x.f 3) 1000) ⟨O1, T1.symm⟩
        have M2 := fun W L (E : Env w W L) (hi : L[1]? = some g2) => Vnt.add P E 1 hi (within (y.f 1) 3) (within (y.f 1) 3 + within (y.f 2) 3) (1 + within (y.f 3) 1000) ⟨O2, T2.symm⟩
        have X1 := fun W => within_calls (x.f 1) 3 W (by omega) (by omega)
        have X2 := fun W => within_calls (x.f 2) 3 W (by omega) (by omega)
        have X3 := fun W => within_calls (x.f 3) 1000 W (by omega) (by omega)
        have Y1 := fun W => within_calls (y.f 1) 3 W (by omega) (by omega)
        have Y2 := fun W => within_calls (y.f 2) 3 W (by omega) (by omega)
        have Y3 := fun W => within_calls (y.f 3) 1000 W (by omega) (by omega)
        obtain ⟨p1, p2, p3, p4, p5, p6⟩ := VO.bd x
        obtain ⟨r1, r2, r3, r4, r5, r6⟩ := VO.bd y
        simp only [VO.og, VO.ex, VO.am] at p1 p2 p3 p4 p5 p6 r1 r2 r3 r4 r5 r6
        generalize within (x.f 1) 3 = vx1 at *
        generalize within (x.f 2) 3 = vx2 at *
        generalize within (x.f 3) 1000 = vx3 at *
        generalize within (y.f 1) 3 = vy1 at *
        generalize within (y.f 2) 3 = vy2 at *
        generalize within (y.f 3) 1000 = vy3 at *
        generalize x.f 0 = x0 at *
        generalize x.f 1 = x1 at *
        generalize x.f 2 = x2 at *
        generalize x.f 3 = x3 at *
        generalize y.f 0 = y0 at *
        generalize y.f 1 = y1 at *
        generalize y.f 2 = y2 at *
        generalize y.f 3 = y3 at *
        obtain ⟨⟨q1, q2, q3⟩, z1, z2, z3⟩ := KC _ _ _ E2
        have hwx : IntKind.i64.wrap (vx1 + vx2) = vx1 + vx2 := by rw [IntKind.wrap_i64]; omega
        have hwx3 : IntKind.i64.wrap (1 + vx3) = 1 + vx3 := by rw [IntKind.wrap_i64]; omega
        have hwy : IntKind.i64.wrap (vy1 + vy2) = vy1 + vy2 := by rw [IntKind.wrap_i64]; omega
        have hwy3 : IntKind.i64.wrap (1 + vy3) = 1 + vy3 := by rw [IntKind.wrap_i64]; omega
        go_upto_region 9 with fail
        go_quiet (first | (go_at_call 13; (first | (with_reducible exact quiet_one (X1 _)) | (with_reducible exact quiet_more (X1 _)) | (with_reducible exact quiet_one (Y1 _)) | (with_reducible exact quiet_more (Y1 _)))))
        go_upto_region 10 with fail
        go_region_held3 (fun W => (W.cell? ⟨b7, 1, none⟩ = some (.int .i64 x1) ∧ W.cell? ⟨b7, 2, none⟩ = some (.int .i64 x2) ∧ W.cell? ⟨b7, 3, none⟩ = some (.int .i64 x3)) ∧ W.cell? ⟨b8, 1, none⟩ = some (.int .i64 y1) ∧ W.cell? ⟨b8, 2, none⟩ = some (.int .i64 y2) ∧ W.cell? ⟨b8, 3, none⟩ = some (.int .i64 y3)) (first | go_keep | (exact hkeep))
          (first
            | (go_at_call 13; ((with_reducible refine (X2 _).mono ?_)); rintro e w' ⟨rfl, rfl⟩)
            | (go_at_call 13; ((with_reducible refine (X3 _).mono ?_)); rintro e w' ⟨rfl, rfl⟩)
            | (go_at_call 13; ((with_reducible refine (Y2 _).mono ?_)); rintro e w' ⟨rfl, rfl⟩)
            | (go_at_call 13; ((with_reducible refine (Y3 _).mono ?_)); rintro e w' ⟨rfl, rfl⟩)
            | (go_at_call 14; ((with_reducible refine (M1 _ _ (by repeat (first | (with_reducible exact E2) | (with_reducible apply Env.drew) | (with_reducible apply Env.drewN) | (with_reducible apply Env.alloc'))) rfl).mono ?_)); rintro e w8 ⟨h8, rfl, S8, E8⟩; simp only [List.set_cons_zero] at E8; have hkeep := KC _ _ _ E8)
            | (go_at_call 14; ((with_reducible refine (M2 _ _ (by repeat (first | (with_reducible exact E8) | (with_reducible apply Env.drew) | (with_reducible apply Env.drewN) | (with_reducible apply Env.alloc'))) rfl).mono ?_)); rintro e w9 ⟨h9, rfl, S9, E9⟩; simp at E9; have hkeep := KC _ _ _ E9)
            | fail)
        all_goals
          have E10 := (E9.drop 3).drop 2
          simp at E10
          go_wp2
          go_roundw
          case rel => exact ⟨j + 1, _, _, by omega, by go_num, S8, S9, (by repeat (first | (with_reducible exact E10) | (with_reducible apply Env.drew) | (with_reducible apply Env.drewN) | (with_reducible apply Env.alloc')))⟩
          case measure => simp [intOf]; omega
    · obtain rfl : j = n := by omega
      rw [List.take_of_length_le (by rw [hzl.out]; omega)] at S
      rw [List.take_of_length_le (by rw [hrl.out]; omega), HF] at P
      have hl9 := VO.len9 HFv.good.rise HFv.keys
      have gF := HFv.good
      generalize VO.F zs = l at *
      clear HO1 HO2 HZ HR HF HFv
      obtain ⟨tk1, tk2⟩ := VO.take0 gF
      have HTK := Lib.hid (And.intro tk1 tk2)
      clear tk1 tk2
      have lmx : l.length ≤ 1000000 := by omega
      have hmk := fun W => make_ints l.length lmx W
      have tl9 : decide ((9 : Int) < (l.length : Int)) = false := by simp; omega
      go_wp2_with fail
      refine (Vnt.rows S E 0 rfl l.length rfl).mono ?_
      rintro e w3 ⟨C3, n3, h3, rfl, o3, E3⟩
      simp at E3
      go_wp2_with fail
      refine (Vnt.rows P E3 1 rfl l.length rfl).mono ?_
      rintro e w4 ⟨C4, n4, h4, rfl, o4, E4⟩
      simp at E4
      have SB := same_vint C3 C4 n3 n4 l l h3 h4 w4 (E4.sub 2 rfl) (E4.sub 3 rfl) o3.sl o4.sl
      rw [eqB_t rfl] at SB
      go_wp2_with fail
      refine SB.mono ?_
      rintro e w5 ⟨rfl, b5⟩
      have E5 := (E4.below b5).drop 3
      simp at E5
      clear E E3 E4 SB
      have lm := o3.small
      go_wp2_with fail
      go_loopw [89] (fun i wr => ∃ (q : Nat) (L : List STri) (h : Hp), q ≤ l.length ∧ i = .int .i64 q ∧ Hid (L.length = l.length) ∧ Ow kTri h C3 n3 L ∧ Env w wr [g1, g2, h]) (fun i _ => l.length - (intOf i).toNat)
      case atStart => exact ⟨0, l, h3, by omega, rfl, rfl, o3, E5⟩
      case round =>
        clear o3 E5
        obtain ⟨q, L, h, hq, rfl, hL, o, E⟩ := hrel
        by_cases hlt : q < l.length
        · obtain ⟨x, hx⟩ := some_of_lt (show q < L.length by rw [hL.out]; exact hlt)
          obtain ⟨b1, o1, rfl, c1, c2, c3⟩ := o.sl.tri (E.sub 2 rfl) hx
          have hfx := o.cell_free (E.sub 2 rfl) (by rw [hL.out]; omega)
          obtain ⟨h', o', u'⟩ := Ow.set (x' := ⟨x.a, x.b, wrap64 (x.c + 1)⟩) (v := .int .i64 (wrap64 (x.c + 1))) (j := 2) o (E.sub 2 rfl) hx.out (by decide) rfl
          have E' := E.upd 2 rfl u'
          simp at E'
          have hL' : Hid ((L.set q (⟨x.a, x.b, wrap64 (x.c + 1)⟩ : STri)).length = l.length) := by unfold Hid; rw [List.length_set]; exact hL.out
          clear u' o
          have i1 : (0 : Int) ≤ (q : Int) := by omega
          have i2 : (q : Int) < (l.length : Int) := by omega
          go_wp2
          go_roundw
          case rel => exact ⟨q + 1, _, h', by omega, by go_num, hL', o', E'⟩
          case measure => simp [intOf]; omega
        · have E6 := E.drop 2
          simp at E6
          clear o E
          go_wp2_with fail
          refine (Vnt.rows S E6 0 rfl l.length rfl).mono ?_
          rintro e w7 ⟨C7, n7, h7, rfl, o7, E7⟩
          simp at E7
          go_wp2_with fail
          refine (Vnt.rows P E7 1 rfl l.length rfl).mono ?_
          rintro e w8 ⟨C8, n8, h8, rfl, o8, E8⟩
          simp at E8
          have SB := same_vint C7 C8 n7 n8 l l h7 h8 w8 (E8.sub 2 rfl) (E8.sub 3 rfl) o7.sl o8.sl
          rw [eqB_t rfl] at SB
          go_wp2_with fail
          refine SB.mono ?_
          rintro e w9 ⟨rfl, b9⟩
          have E9 := ((E8.below b9).drop 3).drop 2
          simp at E9
          clear SB E6 E7 E8
          go_wp2_with fail
          refine (Vnt.left S E9 0 rfl rfl).mono ?_
          rintro e w10 ⟨rfl, E10⟩
          go_wp2_with fail
          refine (Vnt.left P E10 1 rfl rfl).mono ?_
          rintro e w11 ⟨rfl, E11⟩
          go_wp2_with fail
          have E12 := E11.alloc (.cells (madeInts l.length) 3)
          simp at E12
          refine (Vnt.take S E12 0 rfl (E12.sub 2 rfl) (Ow.made (Hp.one_self _ _) (by unfold maxLen; omega)).sl (fun u hu => by rw [(List.mem_replicate.1 hu).2]; exact ⟨by omega, by omega⟩) l.length (by simp) HTK.out).mono ?_
          rintro e w13 ⟨h13, rfl, S13, E13⟩
          have E14 := E13.drop 2
          simp at E14
          go_wp2_with fail
          refine (Vnt.rows S13 E14 0 rfl l.length rfl).mono ?_
          rintro e w15 ⟨C15, n15, h15, rfl, o15, E15⟩
          simp at E15
          go_wp2_with fail
          refine (Vnt.rows P E15 1 rfl l.length rfl).mono ?_
          rintro e w16 ⟨C16, n16, h16, rfl, o16, E16⟩
          simp at E16
          have SB := same_vint C15 C16 n15 n16 l l h15 h16 w16 (E16.sub 2 rfl) (E16.sub 3 rfl) o15.sl o16.sl
          rw [eqB_t rfl] at SB
          go_wp2_with fail
          refine SB.mono ?_
          rintro e w17 ⟨rfl, b17⟩
          go_wp2_with fail
          refine (wakes13 _).mono ?_
          rintro e w18 ⟨rfl, B18⟩
          go_wp2
          go_ret
          exact ⟨rfl, ((E16.below b17).below B18).low⟩
end Go.Proofs.Ytpigoegjoagbnaa
end
namespace Go.Proofs.Ytpigoegjoagbnaa.vintageOrder
open Go.ChangeShapes Go.WideShapes Go.ChangeAt Go.RowKit Go.Sl
set_option linter.unusedVariables false
set_option maxRecDepth 100000
set_option maxHeartbeats 2000000
theorem lifted (os : Os) (started : os.Started) (H : Type) (enc : TypeId × Value → H) :
    ReturnsInHanded {} Try.checked os 6 .any (Rows.vintageOrderSpec.pre6 enc Try.prog Try.f6 Rows.vintageOrderRow.domain false) (Rows.vintageOrderSpec.post enc Try.prog Try.f6 false true false false) := by
  refine returnsInHanded_of_change_sized (C := Try.checked) Lift.own started (by kernel_rfl) Try.func6
    (ChangeSpec.witness6 (enc := enc) (C := Try.checked) false ⟨#[], #[.slice none 0 0], []⟩ 8 (by kernel_rfl) (by kernel_rfl) (by kernel_rfl) (by kernel_rfl)) ?_
  intro W base args ds gs before hval0 hW hcnd hsz0 _
  have hval : ∀ (j : Nat) t v, Try.f6.params[j]? = some t → args[j]? = some v → Value.okWide Try.prog W .any base t v := hval0
  have hW' := hW
  obtain ⟨p, q, hA0, hV, rfl, hfz, hnd⟩ := hW
  have hA : DataW.TrodAll enc Try.prog W 0 (fun _ => true) true Try.f6.params.toList args.toList ds p := hA0
  rw [Try.params6] at hA hval
  obtain ⟨v0, vs0, d0, ds0, p0, q0, hargs, rfl, rfl, h0, r0⟩ := trodAll_cons hA
  obtain ⟨rfl, rfl, rfl⟩ := trodAll_nil r0
  obtain rfl : args = #[v0] := by cases args; simp_all
  obtain ⟨rfl, rfl⟩ := trodVars_none hV
  have k0 := h0
  have lt0 : ∀ x ∈ p0, x.block < W.heap.size := by obtain ⟨m, hm⟩ := k0; exact DataW.trod_lt m _ _ _ hm
  obtain ⟨a0_0, len0_0, cap0_0, rfl⟩ := okWide_slice Try.underlying22 (hval 0 22 v0 rfl rfl)
  obtain ⟨fuel0, hf0⟩ := h0
  obtain ⟨A0, c0, z0, hcs0, s0, w0⟩ := open_vacts Try.underlying22 Try.underlying28 (by kernel_rfl) (fun i hi => match i, hi with | 0, _ => ⟨_, rfl, rfl, Try.underlying3, by kernel_rfl⟩ | 1, _ => ⟨_, rfl, rfl, Try.underlying3, by kernel_rfl⟩ | 2, _ => ⟨_, rfl, rfl, Try.underlying3, by kernel_rfl⟩ | 3, _ => ⟨_, rfl, rfl, Try.underlying3, by kernel_rfl⟩ | k + 4, h => absurd h (by omega)) ⟨_, rfl, rfl, rfl, by kernel_rfl⟩ Try.underlying26 Try.underlying3 (by kernel_rfl) hf0
  simp [Value.cells] at hcs0
  obtain ⟨rfl, rfl, rfl⟩ := hcs0
  clear hA0 hval0 hsz0
  refine (vintOrder_calls a0_0 cap0_0 z0 (Hp.all W) W (Hp.all_sub W) s0).mono fun e W' ⟨he, bel⟩ => ?_
  subst he
  exact ⟨_, rfl, _, _, _, [], _, [], hW', trodAll_mk1 (shut_bool Try.underlying4 _), (trodAll_cons_mk (Below.trod Lift.laidOut (by kernel_rfl) (of_decide_eq_true (by kernel_rfl)) k0 bel lt0) trodAll_mk0), rfl, bel.frame _, fun h => by cases h⟩
theorem over : Rows.vintageOrderRow.holds Try.pinned (OpenSpec.ofChange Rows.vintageOrderSpec) :=
  OpenClaim.holds_of_wide 6 Try.f6 rfl rfl rfl rfl rfl rfl rfl ⟨rfl, rfl, rfl, rfl, rfl⟩ rfl rfl rfl rfl rfl (by kernel_rfl) Try.func6 (by kernel_rfl)
    (of_decide_eq_true (by kernel_rfl)) (by unfold Func.isWrapper; first | (rw [if_pos (by decide +kernel)]; kernel_rfl) | (rw [if_neg (by decide +kernel)]; exact ⟨rfl, rfl⟩))
    (fun os started H enc _ => lifted os started H enc)
end Go.Proofs.Ytpigoegjoagbnaa.vintageOrder
namespace Go.Proofs.Ytpigoegjoagbnaa
theorem vintageOrder_holds : Rows.VintageOrderSaid := vintageOrder.over
#print axioms vintageOrder_holds
end Go.Proofs.Ytpigoegjoagbnaa
