/- Walks and plain facts that the laws of this seat share, part 6: contracts of functions, each said at its theorem. -/
import Derived.Test.YtnfedcaehkcffaaGreatPk5
import Derived.Lib.BufferMore
import Derived.Deep.RegionHeld3
import Derived.Deep.DeepCutAuto
import Derived.Deep.RegionLaw
import Derived.OwnWalk
set_option linter.all false
section
/- slices.DeleteFunc over api.Vintage, whatever the predicate. -/
namespace Go.Proofs.YtnfedcaehkcffaaGreat
open Go.RowKit Go.Sl
set_option maxHeartbeats 1000000
set_option maxRecDepth 100000
theorem deleteFunc_vint (g : FuncId) (lb : Array Value) (eg : Enters Tryz.prog g) (p : STri → Bool) (A : Option Addr) (ca : Nat) (xs : List STri) (h : Hp) (w : World) (hs : h.sub w) (o : Ow kTri h A ca xs) (hl : xs.length ≤ 1000000)
    (hp : ∀ (x : STri) (W : World) (k : Hp), Upd h k w W → Calls Tryz.prog g (#[.agg #[.int .i64 x.a, .int .i64 x.b, .int .i64 x.c]] ++ lb) W fun e W' => e = .returned (.bool (p x)) ∧ Below W.heap.size W W') :
    Calls Tryz.prog 150 #[.slice A xs.length ca, .func (.func g) #[] lb] w fun e w' => ∃ h', e = .returned (.slice A (xs.filter fun x => !p x).length ca) ∧ Ow kTri h' A ca (xs.filter fun x => !p x) ∧ Upd h h' w w' := by
  have m1 := o.small
  have eg' := fun (args : Array Value) (w : World) => eg args w
  have IC := indexFunc_vint g lb eg p A ca xs h w hs o.sl (fun x W hW => hp x W h (Upd.stay hs hW))
  by_cases hany : xs.any p = true
  · have hlt : xs.findIdx p < xs.length := List.findIdx_lt_length.2 (List.any_eq_true.1 hany)
    obtain ⟨x0, hx0⟩ := some_of_lt hlt
    have hp0 : p x0 = true := by
      have := List.findIdx_getElem (w := hlt); rw [(List.getElem?_eq_some_iff.1 hx0.out).2] at this; exact this
    have hn0 : ∀ y ∈ xs.take (xs.findIdx p), p y = false := fun y hy => by
      obtain ⟨q, hq, rfl⟩ := List.mem_take_iff_getElem.1 hy
      have := List.not_of_lt_findIdx (show q < xs.findIdx p by omega)
      simpa using this
    have hF : idx p xs = (xs.findIdx p : Nat) := by unfold idx; rw [if_pos hany]
    rw [hF] at IC
    have hS : Hid ((xs.take (xs.findIdx p)) = (xs.take (xs.findIdx p + 1)).filter fun x => !p x) := by
      unfold Hid
      rw [filter_take_next hx0, hp0]
      simp only [Bool.not_true, Bool.false_eq_true, if_false, List.append_nil]
      exact (List.filter_eq_self.2 fun y hy => by simp [hn0 y hy]).symm
    generalize xs.findIdx p = i0 at *
    obtain ⟨ad, hA⟩ := o.some_of_lt hlt
    obtain ⟨b, off, cur, T, e, hbk, _, _⟩ := o.row ad hA (by have := o.le; omega)
    subst e
    subst hA
    have i1 : (0 : Int) ≤ (i0 : Int) := by omega
    have i2 : (i0 : Int) < (xs.length : Int) := by omega
    have hq0 : ((i0 : Int) == -1) = false := by simp
    clear hany hx0 hp0 hn0 hF hbk
    go_enter Tryz.func150, Tryz.ntmps150
    go_wp2_with fail
    refine IC.mono ?_
    rintro e w1 ⟨rfl, b1⟩
    have E1 := Upd.stay hs b1
    clear IC
    go_wp2
    go_loopw [5, 6] (fun iv jv wr => ∃ (i j : Nat) (zs : List STri) (h' : Hp), iv = .int .i64 i ∧ jv = .int .i64 j ∧ i < j ∧ j ≤ xs.length ∧ Hid (zs.length = xs.length) ∧ Hid (zs.take i = (xs.take j).filter fun x => !p x) ∧ Hid (∀ q, j ≤ q → zs[q]? = xs[q]?) ∧ Ow kTri h' (some ⟨b, off, none⟩) ca zs ∧ Upd h h' w wr) (fun _ jv _ => xs.length - (intOf jv).toNat)
    case atStart => exact ⟨i0, i0 + 1, xs, h, rfl, by go_num, by omega, by omega, rfl, hS, fun _ _ => rfl, o, E1⟩
    case round =>
      clear E1 hS i1 i2 hlt b1
      obtain ⟨i, j, zs, h', rfl, rfl, hij, hj, hzl, hzt, hzd, oz, uz⟩ := hrel
      by_cases hlt : j < xs.length
      · obtain ⟨x, hx⟩ := some_of_lt hlt
        have hzx : Hid (zs[j]? = some x) := by unfold Hid; rw [hzd.out j (Nat.le_refl _)]; exact hx.out
        obtain ⟨b1, o1, e1, c1, c2, c3⟩ := oz.sl.tri uz.sub hzx
        cases e1
        obtain ⟨y, hy⟩ := some_of_lt (show i < zs.length by rw [hzl.out]; omega)
        obtain ⟨_, _, e2, d1, d2, d3⟩ := oz.sl.tri uz.sub hy
        cases e2
        have hlz : i < zs.length := (List.getElem?_eq_some_iff.1 hy.out).1
        have hfr := oz.cell_free uz.sub (lt_of_some hy.out)
        have hb0 : b < wr.heap.size := World.block_lt_of_cell? _ _ c1
        have i1 : (0 : Int) ≤ (j : Int) := by omega
        have i2 : (j : Int) < (xs.length : Int) := by omega
        have i3 : (0 : Int) ≤ (i : Int) := by omega
        have i4 : (i : Int) < (xs.length : Int) := by omega
        have hpx := fun (W : World) (hW : Below wr.heap.size wr W) => hp x W h' (uz.after hW)
        have HT := Lib.hid (filter_take_next (p := fun x => !p x) hx)
        have ST : ∀ V : World, h'.sub V → ∃ k, Ow kTri k (some ⟨b, off, none⟩) ca (zs.set i x) ∧ Upd h' k V (((V.setCell ⟨b, off + i * 3, none⟩ (.int .i64 x.a)).setCell ⟨b, off + i * 3 + 1, none⟩ (.int .i64 x.b)).setCell ⟨b, off + i * 3 + 2, none⟩ (.int .i64 x.c)) := fun V S => by
          obtain ⟨k1, p1, u1⟩ := Ow.set (x' := ⟨x.a, y.b, y.c⟩) (v := .int .i64 x.a) (j := 0) oz S hy.out (by decide) rfl
          obtain ⟨k2, p2, u2⟩ := Ow.set (x' := ⟨x.a, x.b, y.c⟩) (v := .int .i64 x.b) (j := 1) p1 (u1.sub) (List.getElem?_set_self hlz) (by decide) rfl
          obtain ⟨k3, p3, u3⟩ := Ow.set (x' := ⟨x.a, x.b, x.c⟩) (v := .int .i64 x.c) (j := 2) p2 (u2.sub) (List.getElem?_set_self (by simpa using hlz)) (by decide) rfl
          rw [List.set_set, List.set_set] at p3
          exact ⟨k3, p3, ((u1.trans u2).trans u3)⟩
        cases hpp : p x with
        | true =>
          rw [hpp] at hpx HT
          have HT2 : Hid ((xs.take (j + 1)).filter (fun x => !p x) = (xs.take j).filter fun x => !p x) := by unfold Hid; rw [HT.out]; simp
          clear hpp HT ST hlz hy hfr
          go_wp2_with fail
          refine (hpx _ (by repeat (first | exact Below.refl _ _ | apply Below.drew | refine Below.alloc ?_ (by simp) _))).mono ?_
          rintro e w2 ⟨rfl, b2⟩
          go_wp2
          go_roundw
          case rel => exact ⟨i, j + 1, zs, h', rfl, by go_num, by omega, by omega, hzl, by unfold Hid; rw [HT2.out]; exact hzt.out, fun q hq => hzd.out q (by omega), oz, uz.after (((Below.refl _ _).alloc (Nat.le_refl _) _).trans (b2.mono (by simp)))⟩
          case measure => simp [intOf]; omega
        | false =>
          rw [hpp] at hpx HT
          have HT2 : Hid ((xs.take (j + 1)).filter (fun x => !p x) = (xs.take j).filter (fun x => !p x) ++ [x]) := by unfold Hid; rw [HT.out]; simp
          have HZ : Hid ((zs.set i x).take (i + 1) = zs.take i ++ [x]) := by
            unfold Hid
            rw [take_next (xs := zs.set i x) (x := x) (show Hid ((zs.set i x)[i]? = some x) from List.getElem?_set_self hlz), List.take_set_of_le (Nat.le_refl _)]
          clear hpp HT hlz hy
          go_wp2_with fail
          refine (hpx _ (by repeat (first | exact Below.refl _ _ | apply Below.drew | refine Below.alloc ?_ (by simp) _))).mono ?_
          rintro e w2 ⟨rfl, b2⟩
          have hz2 := b2.size
          simp at hz2
          have bb := ((Below.refl wr.heap.size wr).alloc (Nat.le_refl _) (.cells #[.int .i64 x.a, .int .i64 x.b, .int .i64 x.c] 100)).trans (b2.mono (by simp))
          have q1 : w2.cell? ⟨wr.heap.size, 0, none⟩ = some (.int .i64 x.a) := (b2.cell (by simp)).trans (by rw [cell_new rfl]; rfl)
          have q2 : w2.cell? ⟨wr.heap.size, 1, none⟩ = some (.int .i64 x.b) := (b2.cell (by simp)).trans (by rw [cell_new rfl]; rfl)
          have q3 : w2.cell? ⟨wr.heap.size, 2, none⟩ = some (.int .i64 x.c) := (b2.cell (by simp)).trans (by rw [cell_new rfl]; rfl)
          have fr2 : ∀ n, w2.frozen? ⟨b, n, none⟩ = false := fun n => (bb.frozen (p := ⟨b, n, none⟩) hb0).trans (hfr n)
          have e1 : w2.cell? ⟨b, off + i * 3, none⟩ = some (.int .i64 y.a) := (bb.cell (p := ⟨b, off + i * 3, none⟩) hb0).trans d1
          have e2 : w2.cell? ⟨b, off + i * 3 + 1, none⟩ = some (.int .i64 y.b) := (bb.cell (p := ⟨b, off + i * 3 + 1, none⟩) hb0).trans d2
          have e3 : w2.cell? ⟨b, off + i * 3 + 2, none⟩ = some (.int .i64 y.c) := (bb.cell (p := ⟨b, off + i * 3 + 2, none⟩) hb0).trans d3
          obtain ⟨k, ok, uk⟩ := ST w2 (uz.sub.of_below bb)
          go_wp2
          go_roundw
          case rel => exact ⟨i + 1, j + 1, _, k, by go_num, by go_num, by omega, by omega, by unfold Hid; rw [List.length_set]; exact hzl.out, by unfold Hid; rw [HZ.out, HT2.out, hzt.out], fun q hq => by rw [List.getElem?_set_ne (by omega)]; exact hzd.out q (by omega), ok, (uz.after bb).trans uk⟩
          case measure => simp [intOf]; omega
      · obtain rfl : j = xs.length := by omega
        rw [List.take_length] at hzt
        obtain ⟨w2, h2, hrun, o2, u2⟩ := run_clear_rest (P := Tryz.prog) (t := 76) (e := 100) (ty := 0) (z := .agg #[.int .i64 0, .int .i64 0, .int .i64 0]) Tryz.underlying76 (fun w => by kernel_rfl) (by rfl) (List.all_eq_true.1 (show ((.agg #[.int .i64 0, .int .i64 0, .int .i64 0] : Value).cells.toList.all fun u => u.oneCell') = true from rfl)) oz uz.sub (i := i) (by rw [hzl.out]; omega) (ca - i)
        rw [hzl.out, show kTri.size = 3 from rfl] at hrun
        rw [hzt.out] at o2
        have hcap := oz.le
        rw [hzl.out] at hcap
        have i1 : (0 : Int) ≤ (i : Int) := by omega
        have i2 : (i : Int) ≤ (xs.length : Int) := by omega
        have i3 : (i : Int) ≤ (ca : Int) := by omega
        have hne : ¬ ca = i := by omega
        have hL : Hid ((xs.filter fun x => !p x).length = i) := by
          unfold Hid; rw [← hzt.out, List.length_take, hzl.out]; omega
        clear hlt
        go_wp2
        go_ret
        exact ⟨h2, by rw [hL.out]; rfl, o2, uz.trans u2⟩
  · have hn : ∀ y ∈ xs, p y = false := fun y hy => by
      cases e : p y with
      | false => rfl
      | true => exact absurd (List.any_eq_true.2 ⟨y, hy, e⟩) hany
    have hF : idx p xs = -1 := idx_miss hn
    have hfl : Hid ((xs.filter fun x => !p x) = xs) := List.filter_eq_self.2 fun y hy => by simp [hn y hy]
    rw [hF] at IC
    clear hany hF hn
    go_enter Tryz.func150, Tryz.ntmps150
    go_wp2_with fail
    refine IC.mono ?_
    rintro e w1 ⟨rfl, b1⟩
    go_wp2
    go_ret
    exact ⟨h, by rw [hfl.out]; rfl, by rw [hfl.out]; exact o, Upd.stay hs b1⟩
end Go.Proofs.YtnfedcaehkcffaaGreat
end
section
/- slices.Clone over api.Vintage. -/
namespace Go.Proofs.YtnfedcaehkcffaaGreat
open Go.RowKit Go.Sl
set_option maxHeartbeats 1000000
set_option maxRecDepth 100000
theorem clone_vint (A : Option Addr) (ca : Nat) (xs : List STri) (h : Hp) (w : World) (hs : h.sub w) (sx : Sl kTri h A ca xs) (hl : xs.length ≤ 1000000) :
    Calls Tryz.prog 100 #[.slice A xs.length ca] w fun e w' => ∃ C cap h', e = .returned (.slice C xs.length cap) ∧ Ow kTri h' C cap xs ∧ Upd Hp.none h' w w' := by
  cases A with
  | none =>
    have h0 := sx.nil rfl
    have h1 := sx.le
    obtain rfl : xs = [] := List.eq_nil_of_length_eq_zero (by omega)
    subst h0
    have hn : ∀ W, (binOp .eql 76 (.slice none 0 0) (.slice none 0 0)).run Tryz.prog W = .ok (.bool true) W := fun W => Lib.run_eql_slice_nil_nil W _ _ Tryz.underlying76
    go_enter Tryz.func100, Tryz.ntmps100
    go_wp2
    go_ret
    exact ⟨none, 0, Hp.none, rfl, Ow.none _ _, Upd.of_below (Below.refl _ _)⟩
  | some ad =>
    have hn : ∀ W, (binOp .eql 76 (.slice (some ad) xs.length ca) (.slice none 0 0)).run Tryz.prog W = .ok (.bool false) W := fun W => Lib.run_eql_slice_some_nil W _ _ _ Tryz.underlying76
    go_enter Tryz.func100, Tryz.ntmps100
    go_wp2_with (at_builtin; refine wpList_clone Tryz.underlying76 info_vint (by rfl) (by rfl) rfl xs.length ca (by rfl) (by rfl) rfl kTri_flat sx (hs.of_below (by repeat (first | exact Below.refl _ _ | apply Below.drew | refine Below.alloc ?_ (by simp) _))) (by omega) (by omega) ?_; intro C' cap' w1 h1 ho1 hu1)
    go_ret
    exact ⟨C', cap', h1, rfl, ho1, hu1.before (by repeat (first | exact Below.refl _ _ | apply Below.drew | refine Below.alloc ?_ (by simp) _))⟩
end Go.Proofs.YtnfedcaehkcffaaGreat
end
section
/- The walks of vintage.New, Rows, Clone, Left, right, and of the functions that Add and Take hand on. -/
namespace Go.Sl
def cfVint (x y : STri) : Int := orI (cmpI x.b y.b) (cmpI x.a y.a)
theorem lt_vint (x y : STri) : Go.Proofs.ltOf cfVint x y = ordPair.lt (vkey x) (vkey y) := by
  unfold Go.Proofs.ltOf cfVint orI cmpI
  simp only [ordPair, vkey]
  rw [decide_eq_decide]
  split <;> split <;> (try split) <;> (try split) <;> omega
end Go.Sl
namespace Go.Proofs.YtnfedcaehkcffaaGreat
open Go.RowKit Go.Sl Go.Sort
set_option maxHeartbeats 2000000
set_option maxRecDepth 100000
abbrev PtV (h : Hp) (b : Nat) (r : List STri) : Prop := Pt (kOne kTri) 128 h b r
theorem vintNew_calls (w : World) : Calls Tryz.prog 24 #[] w fun e w' => ∃ h b, e = .returned (.pointer (some ⟨b, 0, none⟩)) ∧ PtV h b [] ∧ Upd Hp.none h w w' := by
  go_enter Tryz.func24, Tryz.ntmps24
  go_wp2
  go_ret
  exact ⟨_, _, rfl, ⟨_, Hp.one_self _ _, none, 0, rfl, Ow.none _ _⟩, Upd.newBlock w _⟩
theorem vintRows_calls (b : Nat) (r : List STri) (h : Hp) (w : World) (hs : h.sub w) (p : PtV h b r) (hl : r.length ≤ 1000000) :
    Calls Tryz.prog 43 #[.pointer (some ⟨b, 0, none⟩)] w fun e w' => ∃ C cap h', e = .returned (.slice C r.length cap) ∧ Ow kTri h' C cap r ∧ Upd Hp.none h' w w' := by
  obtain ⟨A, ca, hb, hc, ow, _⟩ := p.one hs
  have CC := clone_vint A ca r (h.del b) w (hs.del b) ow.sl hl
  go_enter Tryz.func43, Tryz.ntmps43
  go_wp2_with fail
  refine CC.mono ?_
  rintro e w1 ⟨C, cap, h1, rfl, o1, u1⟩
  go_wp2
  go_ret
  exact ⟨C, cap, h1, rfl, o1, u1⟩
theorem vintClone_calls (b : Nat) (r : List STri) (h : Hp) (w : World) (hs : h.sub w) (p : PtV h b r) (hl : r.length ≤ 1000000) :
    Calls Tryz.prog 109 #[.pointer (some ⟨b, 0, none⟩)] w fun e w' => ∃ h' b', e = .returned (.pointer (some ⟨b', 0, none⟩)) ∧ PtV h' b' r ∧ Upd Hp.none h' w w' := by
  have CC := vintRows_calls b r h w hs p hl
  go_enter Tryz.func109, Tryz.ntmps109
  go_wp2_with fail
  refine CC.mono ?_
  rintro e w1 ⟨C, cap, h1, rfl, o1, u1⟩
  go_wp2
  go_ret
  exact ⟨_, _, rfl, ⟨_, Hp.put_self, C, cap, rfl, by rw [Hp.put_del (u1.sub.free (Nat.le_refl _))]; exact o1⟩, u1.put⟩
theorem vintCmp_calls (x y : STri) (W : World) : Calls Tryz.prog 136 #[.agg #[.int .i64 x.a, .int .i64 x.b, .int .i64 x.c], .agg #[.int .i64 y.a, .int .i64 y.b, .int .i64 y.c]] W fun e W' => e = .returned (.int .i64 (cfVint x y)) ∧ ∃ q os', W' = grow (W.drewN q) os' := by
  have HC : Hid (cfVint x y = orI (cmpI x.b y.b) (cmpI x.a y.a)) := rfl
  generalize cfVint x y = r at *
  have C1 := fun W : World => compare_calls x.b y.b W
  have C2 := fun W : World => compare_calls x.a y.a W
  generalize cmpI x.b y.b = a at *
  generalize cmpI x.a y.a = b at *
  go_enter Tryz.func136, Tryz.ntmps136
  go_wp2
  go_region_held3 (fun w' => w'.cell? ⟨W.heap.size, 0, none⟩ = some (.int .i64 x.a) ∧ w'.cell? ⟨W.heap.size, 1, none⟩ = some (.int .i64 x.b) ∧ w'.cell? ⟨W.heap.size + 1, 0, none⟩ = some (.int .i64 y.a) ∧ w'.cell? ⟨W.heap.size + 1, 1, none⟩ = some (.int .i64 y.b))
    (go_keep)
    (first
      | (go_at_call 65; ((with_reducible refine (C1 _).mono ?_)); rintro e w' ⟨rfl, rfl⟩)
      | (go_at_call 65; ((with_reducible refine (C2 _).mono ?_)); rintro e w' ⟨rfl, rfl⟩)
      | (go_at_call 64; have OC := fun (V : World) (h0 : V.heap[W.heap.size + 1 + 1]? = some (.cells #[.int .i64 a, .int .i64 b] 3)) => or_calls (W.heap.size + 1 + 1) a b V (by rw [cell_of_row V _ 0 _ _ _ h0]; rfl) (by rw [cell_of_row V _ 1 _ _ _ h0]; rfl); refine (OC _ (by rw [show ∀ V : World, V.drew.heap = V.heap from fun _ => rfl]; exact heap_new_at (by simp))).mono ?_; rintro e w' ⟨rfl, rfl⟩)
      | fail)
  go_wp2
  go_ret
  exact ⟨by rw [HC.out]; rfl, 1, _, by rw [alloc_eq_grow, alloc_eq_grow, alloc_eq_grow]; simp only [grow_grow, drew_grow]; rfl⟩
theorem vintSame_calls (x : STri) (b5 b6 : Nat) (c y : Int) (W : World) (c5 : W.cell? ⟨b5, 0, none⟩ = some (.int .i64 c)) (c6 : W.cell? ⟨b6, 0, none⟩ = some (.int .i64 y)) :
    Calls Tryz.prog 133 #[.agg #[.int .i64 x.a, .int .i64 x.b, .int .i64 x.c], .pointer (some ⟨b5, 0, none⟩), .pointer (some ⟨b6, 0, none⟩)] W fun e W' => e = .returned (.bool (isV c y x)) ∧ Below W.heap.size W W' := by
  have c5a := fun o => (cell_alloc (o := o) (World.block_lt_of_cell? _ _ c5)).trans c5
  have c6a := fun o => (cell_alloc (o := o) (World.block_lt_of_cell? _ _ c6)).trans c6
  have HI : isV c y x = decide (x.a = c ∧ x.b = y) := rfl
  generalize isV c y x = r at *
  by_cases h1 : x.a = c
  · have t1 : (x.a == c) = true := by simpa using h1
    by_cases h2 : x.b = y
    · have t2 : (x.b == y) = true := by simpa using h2
      have hr : Hid (r = true) := by unfold Hid; rw [HI]; simp [h1, h2]
      clear HI h1 h2
      go_enter Tryz.func133, Tryz.ntmps133
      go_wp2
      go_ret
      exact ⟨by rw [hr.out]; rfl, (by repeat (first | exact Below.refl _ _ | apply Below.drew | refine Below.alloc ?_ (by simp) _))⟩
    · have t2 : (x.b == y) = false := by simpa using h2
      have hr : Hid (r = false) := by unfold Hid; rw [HI]; simp [h2]
      clear HI h1 h2
      go_enter Tryz.func133, Tryz.ntmps133
      go_wp2
      go_ret
      exact ⟨by rw [hr.out]; rfl, (by repeat (first | exact Below.refl _ _ | apply Below.drew | refine Below.alloc ?_ (by simp) _))⟩
  · have t1 : (x.a == c) = false := by simpa using h1
    have hr : Hid (r = false) := by unfold Hid; rw [HI]; simp [h1]
    clear HI h1
    go_enter Tryz.func133, Tryz.ntmps133
    go_wp2
    go_ret
    exact ⟨by rw [hr.out]; rfl, (by repeat (first | exact Below.refl _ _ | apply Below.drew | refine Below.alloc ?_ (by simp) _))⟩
theorem vintLeft_calls (b : Nat) (r : List STri) (h : Hp) (w : World) (hs : h.sub w) (p : PtV h b r) (hl : r.length ≤ 1000) (hm : ∀ b ∈ r, -100000000000 ≤ b.c ∧ b.c ≤ 100000000000) :
    Calls Tryz.prog 19 #[.pointer (some ⟨b, 0, none⟩)] w fun e w' => e = .returned (.int .i64 (sumC r)) ∧ Below w.heap.size w w' := by
  obtain ⟨A, ca, _, hc, ow, _⟩ := p.one hs
  have sx := ow.sl
  have m1 := sx.small
  have HM := Lib.hid hm
  clear hm
  go_enter Tryz.func19, Tryz.ntmps19
  go_wp2
  go_loopw [3, 11] (fun s i wr => ∃ (j : Nat), j ≤ r.length ∧ i = .int .i64 j ∧ s = .int .i64 (sumC (r.take j)) ∧ Below w.heap.size w wr) (fun _ i _ => r.length - (intOf i).toNat)
  case atStart => exact ⟨0, by omega, rfl, rfl, Below.refl _ _⟩
  case round =>
    obtain ⟨j, hj, rfl, rfl, hb⟩ := hrel
    by_cases hlt : j < r.length
    · obtain ⟨x, hx⟩ := some_of_lt hlt
      obtain ⟨b1, o1, rfl, c1, c2, c3⟩ := sx.tri ((hs.del b).of_below hb) hx
      have i1 : (0 : Int) ≤ (j : Int) := by omega
      have i2 : (j : Int) < (r.length : Int) := by omega
      have q1 := HM.out x (List.mem_of_getElem? hx.out)
      have q2 := sumC_bd (m := 100000000000) (by omega) (r.take j) fun b hb => HM.out b (List.mem_of_mem_take hb)
      rw [List.length_take] at q2
      obtain ⟨q3, q4⟩ : -1000000000000000 ≤ sumC (r.take j) ∧ sumC (r.take j) ≤ 1000000000000000 := by omega
      clear q2
      have HT : Hid (sumC (r.take (j + 1)) = sumC (r.take j) + x.c) := by unfold Hid; rw [take_next hx, sumC_snoc]
      go_wp2
      go_roundw
      case rel => exact ⟨j + 1, by omega, by go_num, by rw [HT.out], hb.alloc hb.size _⟩
      case measure => simp [intOf]; omega
    · obtain rfl : j = r.length := by omega
      rw [List.take_length]
      go_wp2
      go_ret
      exact ⟨rfl, hb⟩
theorem vintZero_calls (x : STri) (W : World) : Calls Tryz.prog 151 #[.agg #[.int .i64 x.a, .int .i64 x.b, .int .i64 x.c]] W fun e W' => e = .returned (.bool (zeroB x)) ∧ Below W.heap.size W W' := by
  have t : Hid ((x.c == 0) = zeroB x) := by unfold Hid zeroB; rw [Bool.eq_iff_iff]; simp
  go_enter Tryz.func151, Tryz.ntmps151
  go_wp2
  go_ret
  exact ⟨by rw [← t.out]; rfl, (by repeat (first | exact Below.refl _ _ | apply Below.drew | refine Below.alloc ?_ (by simp) _))⟩
theorem ret_bool' {b b' : Bool} (h : b = true ↔ b' = true) : Ending.returned (.bool b) = .returned (.bool b') := by rw [Bool.eq_iff_iff.2 h]
theorem vintRight_calls (c y : Int) (w : World) : Calls Tryz.prog 134 #[.int .i64 c, .int .i64 y] w fun e w' => e = .returned (.bool (vOk c y)) ∧ w = w' := by
  have HB : Hid (vOk c y = decide (0 ≤ c ∧ c ≤ 99 ∧ c ≤ y ∧ y ≤ 198)) := rfl
  go_enter Tryz.func134, Tryz.ntmps134
  go_wp2
  all_goals
    go_ret
    exact ⟨by rw [HB.out]; exact ret_bool' (by simp; omega), rfl⟩
end Go.Proofs.YtnfedcaehkcffaaGreat
end
section
/- The walk of vintage.Add. -/
namespace Go.Proofs.YtnfedcaehkcffaaGreat
open Go.RowKit Go.Sl Go.Sort
set_option maxHeartbeats 4000000
set_option maxRecDepth 100000
/-- What Add and Take return. -/
def VAns (b : Nat) (q : Int) (L : List STri) (h : Hp) (w : World) (e : Ending) (w' : World) : Prop := ∃ h', e = .returned (.int .i64 q) ∧ PtV h' b L ∧ Upd h h' w w'
theorem VAns.no {b : Nat} {l L : List STri} {h : Hp} {w w' : World} {q q' : Int} (hq : q' = q) (hL : L = l) (hp : PtV h b l) (hs : h.sub w) (hb : Below w.heap.size w w') :
    VAns b q' L h w (.returned (.int .i64 q)) w' := ⟨h, by rw [hq], by rw [hL]; exact hp, Upd.stay hs hb⟩
theorem vAdd_no {l : List STri} {o e n q : Int} (h : vAddE l o e n = q) (h0 : q ≠ 0) : vAdd l o e n = l := by unfold vAdd; rw [if_neg (by rw [h]; exact h0)]
theorem vintAdd_calls (b : Nat) (l : List STri) (o e n : Int) (h : Hp) (w : World) (hs : h.sub w) (hp : PtV h b l) (g : GoodV l) :
    Calls Tryz.prog 83 #[.pointer (some ⟨b, 0, none⟩), .int .i64 o, .int .i64 e, .int .i64 n] w (VAns b (vAddE l o e n) (vAdd l o e n) h w) := by
  obtain ⟨A, ca, hb, hc, ow, hf⟩ := hp.one hs
  have hlt : b < w.heap.size := World.block_lt_of_cell? _ _ hc
  have lm := ow.small
  have gl := g.len
  have EW := ((Env.start w).alloc (.cells #[.int .i64 o] 3)).alloc (.cells #[.int .i64 e] 3)
  simp at EW
  have hcE := (EW.low.cell (p := ⟨b, 0, none⟩) hlt).trans hc
  have eg : ∀ args w, (callFunc 133 args).run Tryz.prog w = .ok (.enter 133 args) w := enters_of Tryz.func133 (by kernel_rfl) rfl
  have eg2 : ∀ args w, (callFunc 136 args).run Tryz.prog w = .ok (.enter 136 args) w := enters_of Tryz.func136 (by kernel_rfl) rfl
  have IC := fun (W : World) (E : Env w W [Hp.box w.heap.size [.int .i64 o] 3, Hp.box (w.heap.size + 1) [.int .i64 e] 3]) =>
    indexFunc_vint 133 #[.pointer (some ⟨w.heap.size, 0, none⟩), .pointer (some ⟨w.heap.size + 1, 0, none⟩)] eg (isV o e) A ca l (h.del b) W ((hs.del b).of_below E.low) ow.sl
      (fun x W' hW => vintSame_calls x w.heap.size (w.heap.size + 1) o e W' ((E.below hW).cell 0 rfl 0 rfl) ((E.below hW).cell 1 rfl 0 rfl))
  rcases getV_idx g.rise o e with ⟨hi, ha, hv⟩ | ⟨i, x, hx, hi, hv, ha, hxa, hxb⟩
  · rw [hi] at IC
    clear hi
    have NO : ∀ {q : Int} {W : World}, vAddE l o e n = q → q ≠ 0 → Below w.heap.size w W → VAns b (vAddE l o e n) (vAdd l o e n) h w (.returned (.int .i64 q)) W := fun h1 h2 h3 => .no h1 (vAdd_no h1 h2) hp hs h3
    go_enter Tryz.func83, Tryz.ntmps83
    go_wp2_with fail
    refine (IC _ EW).mono ?_
    rintro e' w1 ⟨rfl, b1⟩
    have E1 := EW.below b1
    have hc1 := (E1.low.cell (p := ⟨b, 0, none⟩) hlt).trans hc
    have hf1 := (E1.low.frozen (p := ⟨b, 0, none⟩) hlt).trans (hf 0)
    have k0 := E1.cell 0 rfl 0 rfl
    have k1 := E1.cell 1 rfl 0 rfl
    cases h1 : vOk o e with
    | false =>
      have HE : Hid (vAddE l o e n = 1) := by unfold Hid vAddE; rw [if_pos (by simp [h1])]
      have RC := fun W : World => vintRight_calls o e W
      rw [h1] at RC
      clear h1
      go_wp2_with fail
      refine (RC _).mono ?_
      rintro e' w' ⟨rfl, rfl⟩
      go_wp2
      go_ret
      exact NO HE.out (by decide) E1.low
    | true =>
    have RC := fun W : World => vintRight_calls o e W
    rw [h1] at RC
    by_cases h2 : n < 1
    · have t2 : decide (n < 1) = true := by simpa using h2
      have HE : Hid (vAddE l o e n = 1) := by unfold Hid vAddE; rw [if_pos (by simp; intro _ _; omega)]
      clear h1 h2
      go_wp2_with fail
      refine (RC _).mono ?_
      rintro e' w' ⟨rfl, rfl⟩
      go_wp2
      go_ret
      exact NO HE.out (by decide) E1.low
    have t2 : decide (n < 1) = false := by simpa using h2
    cases h3 : money n with
    | false =>
      have HE : Hid (vAddE l o e n = 1) := by unfold Hid vAddE; rw [if_pos (by simp [h3])]
      have MC := fun W : World => money_calls n W
      rw [h3] at MC
      clear h1 h2 h3
      go_wp2_with fail
      refine (RC _).mono ?_
      rintro e' w' ⟨rfl, rfl⟩
      go_wp2_with fail
      refine (MC _).mono ?_
      rintro e' w' ⟨rfl, rfl⟩
      go_wp2
      go_ret
      exact NO HE.out (by decide) E1.low
    | true =>
    have MC := fun W : World => money_calls n W
    rw [h3] at MC
    have h3' : -100000000000 ≤ n ∧ n ≤ 100000000000 := by simpa [money] using h3
    have HM : Hid (vAddE l o e n = if money (sumC l + n) = false then 6 else if l.any (isV o e) = true then 0 else if 12 ≤ l.length then 5 else 0) := by
      unfold Hid vAddE; rw [if_neg (by simp [h1, h3]; omega)]
    have HR : Hid (vAddE l o e n = 0 → vAdd l o e n = putV l o e (getV l o e + n)) := fun h => by unfold vAdd; rw [if_pos h]
    have hs0 := sumC_pos g.lo
    have hs1 := g.mon
    have LC := fun (W : World) (hW : Below w.heap.size w W) => vintLeft_calls b l h W (hs.of_below hW) hp (by omega) (fun x hx => by have := g.lo x hx; have := le_sumC g.lo hx; omega)
    clear h1 h3
    generalize sumC l = s at *
    have M1 := fun W : World => money_calls (s + n) W
    cases h4 : money (s + n) with
    | false =>
      have HE : Hid (vAddE l o e n = 6) := by unfold Hid; rw [HM.out, h4]; rfl
      rw [h4] at M1
      clear h4
      go_wp2_with fail
      refine (RC _).mono ?_
      rintro e' w' ⟨rfl, rfl⟩
      go_wp2_with fail
      refine (MC _).mono ?_
      rintro e' w' ⟨rfl, rfl⟩
      go_wp2_with fail
      refine (LC _ E1.low).mono ?_
      rintro e' w2 ⟨rfl, b2⟩
      go_wp2_with fail
      refine (M1 _).mono ?_
      rintro e' w' ⟨rfl, rfl⟩
      go_wp2
      go_ret
      exact NO HE.out (by decide) (E1.below b2).low
    | true =>
    have HM2 : Hid (vAddE l o e n = if l.any (isV o e) = true then 0 else if 12 ≤ l.length then 5 else 0) := by unfold Hid; rw [HM.out, h4]; rfl
    rw [h4] at M1
    clear h4 HM
    go_wp2_with fail
    refine (RC _).mono ?_
    rintro e' w' ⟨rfl, rfl⟩
    go_wp2_with fail
    refine (MC _).mono ?_
    rintro e' w' ⟨rfl, rfl⟩
    go_wp2_with fail
    refine (LC _ E1.low).mono ?_
    rintro e' w2 ⟨rfl, b2⟩
    have E2 := E1.below b2
    have hc2 := (E2.low.cell (p := ⟨b, 0, none⟩) hlt).trans hc
    have hf2 := (E2.low.frozen (p := ⟨b, 0, none⟩) hlt).trans (hf 0)
    have k02 := E2.cell 0 rfl 0 rfl
    have k12 := E2.cell 1 rfl 0 rfl
    go_wp2_with fail
    refine (M1 _).mono ?_
    rintro e' w' ⟨rfl, rfl⟩
    clear RC MC LC M1 hc1 hf1 k0 k1 E1
    rw [ha] at HM2
    by_cases h5 : 12 ≤ l.length
    · have t5 : decide ((12 : Int) ≤ (l.length : Int)) = true := by simp; omega
      have HE : Hid (vAddE l o e n = 5) := by unfold Hid; rw [HM2.out, if_neg (by simp), if_pos h5]
      clear HM2 HR h5
      go_wp2
      go_ret
      exact NO HE.out (by decide) E2.low
    · have t5 : decide ((12 : Int) ≤ (l.length : Int)) = false := by simp; omega
      have HE : Hid (vAddE l o e n = 0) := by unfold Hid; rw [HM2.out, if_neg (by simp), if_neg h5]
      obtain ⟨hd, hso⟩ := isort_putV g.rise (n := n) ha
      have HRe : Hid (vAdd l o e n = isort ordPair vkey (l ++ [⟨o, e, n⟩])) := by unfold Hid; rw [HR.out HE.out, hv, Int.zero_add, hso]
      clear HM2 HR hso ha hv
      have hd1 := (hs.del b).of_below E2.low
      have hne : (h.del b) b = Option.none := Hp.del_self
      have hlt2 := World.block_lt_of_cell? _ _ hc2
      have hca2 : ∀ o, (w2.alloc o).cell? ⟨b, 0, none⟩ = some (.slice A l.length ca) := fun o => (cell_alloc hlt2).trans hc2
      have hfa2 : ∀ o, (w2.alloc o).frozen? ⟨b, 0, none⟩ = false := fun o => (frozen_alloc hlt2).trans hf2
      go_upto_region 11 with fail
      go_cut [8] (fun s wx => s = .int .i64 0 ∧ ∃ (C' : Option Addr) (cap' : Nat) (h3 : Hp), Ow kTri h3 C' cap' (l ++ [⟨o, e, n⟩]) ∧ h3 b = Option.none ∧ Upd h (h3.put b (.cells #[.slice C' (l.length + 1) cap'] 128 (0, 0))) w wx)
      case first =>
        go_region_law (refine step_app1f (h := h.del b) (xs := l) (A := A) (cap := ca) (y := ⟨o, e, n⟩) Tryz.underlying76 info_vint (by rfl) (by rfl) rfl l.length 1 (by rfl) (by rfl) rfl ow (hd1.of_below (by repeat (first | exact Below.refl _ _ | apply Below.drew | refine Below.alloc ?_ (by simp) _))) (heap_new_at (by simp)) rfl (by omega) (by omega) ?_; intro C' cap' w3 h3 ho3 hu3; have hcv : w3.cell? ⟨b, 0, none⟩ = _ := hu3.cell (hca2 _) hne; have hfv : w3.frozen? ⟨b, 0, none⟩ = _ := (hu3.frozen (p := ⟨b, 0, none⟩) (by have := World.block_lt_of_cell? _ _ (hca2 (.cells #[] 0)); simp at this ⊢; omega) hne).trans (hfa2 _))
        all_goals
          go_wp2_with fail
          go_meet
          have U0 : Upd (h.del b) h3 w w3 := hu3.before (by repeat (first | exact E2.low | apply Below.drew | refine Below.alloc ?_ E2.low.size _))
          obtain ⟨UF, hn3⟩ := Upd.field (v := .slice C' (l.length + 1) cap') 0 hb hs (Hp.le_refl _) U0
          exact ⟨rfl, C', cap', h3, ho3, hn3, UF⟩
      case rest =>
        obtain ⟨rfl, C', cap', h3, ho3, hn3, UF⟩ := hcut
        have hs3 : (h3.put b (.cells #[.slice C' (l.length + 1) cap'] 128 (0, 0))).sub _ := UF.sub
        have hd3 := hs3.del b
        rw [Hp.put_del hn3] at hd3
        have hc3 := hs3.cell (i := 0) (v := .slice C' (l.length + 1) cap') Hp.put_self rfl
        have SC := sortFunc_vint ordPair vkey cfVint lt_vint 136 eg2 vintCmp_calls C' cap' (l ++ [⟨o, e, n⟩]) h3 _ hd3 ho3 hd (by simp; omega)
        rw [show (l ++ [(⟨o, e, n⟩ : STri)]).length = l.length + 1 by simp] at SC
        have hil : Hid ((isort ordPair vkey (l ++ [(⟨o, e, n⟩ : STri)])).length = l.length + 1) := by unfold Hid; rw [(isort_perm hd).length_eq]; simp
        clear hc2 k02 k12 hca2 hfa2 hf2 E2 hd hd1 EW IC hcE ho3
        generalize isort ordPair vkey (l ++ [(⟨o, e, n⟩ : STri)]) = so at *
        go_wp2_with fail
        refine SC.mono ?_
        rintro e' w5 ⟨h5, rfl, o5, u5⟩
        rw [← Hp.put_del (b := b) (o := .cells #[.slice C' (l.length + 1) cap'] 128 (0, 0)) hn3] at u5
        obtain ⟨UR, hn5⟩ := Upd.rest Hp.put_self hs3 u5
        go_wp2
        go_ret
        exact ⟨_, by rw [HE.out]; rfl, ⟨_, Hp.put_self, C', cap', by rw [HRe.out, hil.out], by rw [Hp.put_del hn5, HRe.out]; exact o5⟩, UF.trans UR⟩
  · rw [hi] at IC
    clear hi
    have NO : ∀ {q : Int} {W : World}, vAddE l o e n = q → q ≠ 0 → Below w.heap.size w W → VAns b (vAddE l o e n) (vAdd l o e n) h w (.returned (.int .i64 q)) W := fun h1 h2 h3 => .no h1 (vAdd_no h1 h2) hp hs h3
    go_enter Tryz.func83, Tryz.ntmps83
    go_wp2_with fail
    refine (IC _ EW).mono ?_
    rintro e' w1 ⟨rfl, b1⟩
    have E1 := EW.below b1
    have hc1 := (E1.low.cell (p := ⟨b, 0, none⟩) hlt).trans hc
    have hf1 := (E1.low.frozen (p := ⟨b, 0, none⟩) hlt).trans (hf 0)
    have k0 := E1.cell 0 rfl 0 rfl
    have k1 := E1.cell 1 rfl 0 rfl
    cases h1 : vOk o e with
    | false =>
      have HE : Hid (vAddE l o e n = 1) := by unfold Hid vAddE; rw [if_pos (by simp [h1])]
      have RC := fun W : World => vintRight_calls o e W
      rw [h1] at RC
      clear h1
      go_wp2_with fail
      refine (RC _).mono ?_
      rintro e' w' ⟨rfl, rfl⟩
      go_wp2
      go_ret
      exact NO HE.out (by decide) E1.low
    | true =>
    have RC := fun W : World => vintRight_calls o e W
    rw [h1] at RC
    by_cases h2 : n < 1
    · have t2 : decide (n < 1) = true := by simpa using h2
      have HE : Hid (vAddE l o e n = 1) := by unfold Hid vAddE; rw [if_pos (by simp; intro _ _; omega)]
      clear h1 h2
      go_wp2_with fail
      refine (RC _).mono ?_
      rintro e' w' ⟨rfl, rfl⟩
      go_wp2
      go_ret
      exact NO HE.out (by decide) E1.low
    have t2 : decide (n < 1) = false := by simpa using h2
    cases h3 : money n with
    | false =>
      have HE : Hid (vAddE l o e n = 1) := by unfold Hid vAddE; rw [if_pos (by simp [h3])]
      have MC := fun W : World => money_calls n W
      rw [h3] at MC
      clear h1 h2 h3
      go_wp2_with fail
      refine (RC _).mono ?_
      rintro e' w' ⟨rfl, rfl⟩
      go_wp2_with fail
      refine (MC _).mono ?_
      rintro e' w' ⟨rfl, rfl⟩
      go_wp2
      go_ret
      exact NO HE.out (by decide) E1.low
    | true =>
    have MC := fun W : World => money_calls n W
    rw [h3] at MC
    have h3' : -100000000000 ≤ n ∧ n ≤ 100000000000 := by simpa [money] using h3
    have HM : Hid (vAddE l o e n = if money (sumC l + n) = false then 6 else if l.any (isV o e) = true then 0 else if 12 ≤ l.length then 5 else 0) := by
      unfold Hid vAddE; rw [if_neg (by simp [h1, h3]; omega)]
    have HR : Hid (vAddE l o e n = 0 → vAdd l o e n = putV l o e (getV l o e + n)) := fun h => by unfold vAdd; rw [if_pos h]
    have hs0 := sumC_pos g.lo
    have hs1 := g.mon
    have LC := fun (W : World) (hW : Below w.heap.size w W) => vintLeft_calls b l h W (hs.of_below hW) hp (by omega) (fun x hx => by have := g.lo x hx; have := le_sumC g.lo hx; omega)
    clear h1 h3
    generalize sumC l = s at *
    have M1 := fun W : World => money_calls (s + n) W
    cases h4 : money (s + n) with
    | false =>
      have HE : Hid (vAddE l o e n = 6) := by unfold Hid; rw [HM.out, h4]; rfl
      rw [h4] at M1
      clear h4
      go_wp2_with fail
      refine (RC _).mono ?_
      rintro e' w' ⟨rfl, rfl⟩
      go_wp2_with fail
      refine (MC _).mono ?_
      rintro e' w' ⟨rfl, rfl⟩
      go_wp2_with fail
      refine (LC _ E1.low).mono ?_
      rintro e' w2 ⟨rfl, b2⟩
      go_wp2_with fail
      refine (M1 _).mono ?_
      rintro e' w' ⟨rfl, rfl⟩
      go_wp2
      go_ret
      exact NO HE.out (by decide) (E1.below b2).low
    | true =>
    have HM2 : Hid (vAddE l o e n = if l.any (isV o e) = true then 0 else if 12 ≤ l.length then 5 else 0) := by unfold Hid; rw [HM.out, h4]; rfl
    rw [h4] at M1
    clear h4 HM
    go_wp2_with fail
    refine (RC _).mono ?_
    rintro e' w' ⟨rfl, rfl⟩
    go_wp2_with fail
    refine (MC _).mono ?_
    rintro e' w' ⟨rfl, rfl⟩
    go_wp2_with fail
    refine (LC _ E1.low).mono ?_
    rintro e' w2 ⟨rfl, b2⟩
    have E2 := E1.below b2
    have hc2 := (E2.low.cell (p := ⟨b, 0, none⟩) hlt).trans hc
    have hf2 := (E2.low.frozen (p := ⟨b, 0, none⟩) hlt).trans (hf 0)
    have k02 := E2.cell 0 rfl 0 rfl
    have k12 := E2.cell 1 rfl 0 rfl
    go_wp2_with fail
    refine (M1 _).mono ?_
    rintro e' w' ⟨rfl, rfl⟩
    clear RC MC LC M1 hc1 hf1 k0 k1 E1
    rw [ha] at HM2
    have HE : Hid (vAddE l o e n = 0) := by unfold Hid; rw [HM2.out, if_pos rfl]
    have hil : i < l.length := (List.getElem?_eq_some_iff.1 hx).1
    have i1 : (0 : Int) ≤ (i : Int) := by omega
    have i2 : (i : Int) < (l.length : Int) := by omega
    have hxm := g.lo x (List.mem_of_getElem? hx)
    have hxs := g.mon
    have hxl := le_sumC g.lo (List.mem_of_getElem? hx)
    have hsp := set_putV g.rise hx (x.c + n)
    rw [hxa, hxb] at hsp
    have HRe : Hid (vAdd l o e n = l.set i ⟨x.a, x.b, x.c + n⟩) := by unfold Hid; rw [HR.out HE.out, hv, ← hsp, hxa, hxb]
    have hll : Hid ((l.set i (⟨x.a, x.b, x.c + n⟩ : STri)).length = l.length) := by unfold Hid; simp
    have hwn : IntKind.i64.wrap (x.c + n) = x.c + n := by rw [IntKind.wrap_i64]; omega
    have hxx := Lib.hid hx
    clear HM2 HR hsp hv ha hx hxa hxb
    obtain ⟨bx, ox, rfl, c1, c2, c3⟩ := ow.sl.tri ((hs.del b).of_below E2.low) hxx
    have hfx := ow.cell_free ((hs.del b).of_below E2.low) (by omega)
    obtain ⟨h3, o3, u3⟩ := Ow.set (x' := ⟨x.a, x.b, x.c + n⟩) (v := .int .i64 (x.c + n)) (j := 2) ow ((hs.del b).of_below E2.low) hxx.out (by decide) rfl
    obtain ⟨UR, hn3⟩ := Upd.rest hb hs (u3.before E2.low)
    have UR2 := fun n => UR.after (Go.Sl.Below.drN (Below.refl _ _) n)
    have UR3 := UR.after ((Below.refl _ _).drew)
    go_upto_region 7 with fail
    go_region
    all_goals
      go_wp2
      go_ret
      refine ⟨_, by rw [HE.out]; rfl, ⟨_, Hp.put_self, _, ca, by rw [HRe.out, hll.out], by rw [Hp.put_del hn3, HRe.out]; exact o3⟩, ?_⟩
      first | exact UR | exact UR3 | exact UR2 _
end Go.Proofs.YtnfedcaehkcffaaGreat
end
section
/- The walk of vintage.Take. -/
namespace Go.Sl
open Go Go.RowKit
theorem zip_set_step {α β : Type} (f : α → β → α) : ∀ (xs : List α) (us : List β) (j : Nat) (x : α) (u : β), xs[j]? = some x → us[j]? = some u → (List.zipWith f (xs.take j) (us.take j) ++ xs.drop j).set j (f x u) = List.zipWith f (xs.take (j + 1)) (us.take (j + 1)) ++ xs.drop (j + 1)
  | [], _, j, x, u, h, _ => by simp at h
  | _ :: _, [], j, x, u, _, h => by simp at h
  | y :: ys, v :: us, 0, x, u, h, h' => by simp at h h'; subst h h'; simp
  | y :: ys, v :: us, j + 1, x, u, h, h' => by
    have := zip_set_step f ys us j x u (by simpa using h) (by simpa using h')
    simp only [List.take_succ_cons, List.zipWith_cons_cons, List.drop_succ_cons, List.cons_append, List.set_cons_succ, this]
theorem zip_get_step {α β : Type} (f : α → β → α) : ∀ (xs : List α) (us : List β) (j : Nat), j ≤ us.length → (List.zipWith f (xs.take j) (us.take j) ++ xs.drop j)[j]? = xs[j]?
  | [], us, j, _ => by simp
  | y :: ys, us, 0, _ => by simp
  | y :: ys, [], j + 1, h => by simp at h
  | y :: ys, u :: us, j + 1, h => by
    have := zip_get_step f ys us j (by simpa using h)
    simpa using this
theorem takeE_no {l : List STri} {us : List Int} (h : us.length ≠ l.length) : vTakeE l us = 1 := by unfold vTakeE; rw [if_neg fun e => h e.1]
theorem takeE_bad {l : List STri} {us : List Int} {j : Nat} {x : STri} {u : Int} (hx : l[j]? = some x) (hu : us[j]? = some u) (hb : badU x u = true) : vTakeE l us = 1 := by
  unfold vTakeE
  rw [if_neg]
  rintro ⟨_, h⟩
  rw [List.any_eq_false] at h
  have := h (badU x u) (List.mem_of_getElem? (i := j) (by rw [List.getElem?_zipWith, hx, hu]))
  exact this hb
theorem takeE_ok {l : List STri} {us : List Int} (hl : us.length = l.length) (h : ∀ (i : Nat) (x : STri) (u : Int), l[i]? = some x → us[i]? = some u → badU x u = false) : vTakeE l us = 0 := by
  unfold vTakeE
  refine if_pos ⟨hl, ?_⟩
  rw [List.any_eq_false]
  intro b hb
  obtain ⟨i, hi⟩ := List.mem_iff_getElem?.1 hb
  rw [List.getElem?_zipWith] at hi
  cases hx : l[i]? with
  | none => simp [hx] at hi
  | some x =>
    cases hu : us[i]? with
    | none => simp [hx, hu] at hi
    | some u =>
      simp [hx, hu] at hi
      rw [← hi, h i x u hx hu]; decide
end Go.Sl
namespace Go.Proofs.YtnfedcaehkcffaaGreat
open Go.RowKit Go.Sl Go.Sort
set_option maxHeartbeats 4000000
set_option maxRecDepth 100000
theorem vTake_no {l : List STri} {us : List Int} {q : Int} (h : vTakeE l us = q) (h0 : q ≠ 0) : vTake l us = l := by unfold vTake; rw [if_neg (by rw [h]; exact h0)]
theorem vintTake_calls (b : Nat) (l : List STri) (h : Hp) (w : World) (hs : h.sub w) (hp : PtV h b l) (g : GoodV l) (U : Option Addr) (cu : Nat) (us : List Int) (ku : Hp) (ks : ku.sub w) (su : Sl kInt ku U cu us) (hz : ∀ u ∈ us, I64 u) :
    Calls Tryz.prog 114 #[.pointer (some ⟨b, 0, none⟩), .slice U us.length cu] w (VAns b (vTakeE l us) (vTake l us) h w) := by
  obtain ⟨A, ca, hb, hc, ow, hf⟩ := hp.one hs
  have hlt : b < w.heap.size := World.block_lt_of_cell? _ _ hc
  have lm := ow.small
  have lu := su.small
  have gl := g.len
  have HZ := Lib.hid hz
  clear hz
  have NO : ∀ {q : Int} {W : World}, vTakeE l us = q → q ≠ 0 → Below w.heap.size w W → VAns b (vTakeE l us) (vTake l us) h w (.returned (.int .i64 q)) W := fun h1 h2 h3 => .no h1 (vTake_no h1 h2) hp hs h3
  by_cases hl : us.length = l.length
  case neg =>
    have t1 : ((us.length : Int) != (l.length : Int)) = true := by simp; omega
    have HE : Hid (vTakeE l us = 1) := takeE_no hl
    clear hl
    go_enter Tryz.func114, Tryz.ntmps114
    go_wp2
    go_ret
    exact NO HE.out (by decide) (Below.refl _ _)
  have t1 : ((us.length : Int) != (l.length : Int)) = false := by simp; omega
  have hL := Lib.hid hl
  clear hl
  have E0 := Env.start w
  go_enter Tryz.func114, Tryz.ntmps114
  go_wp2
  clear t1
  go_loopw [20] (fun i wr => ∃ (j : Nat), j ≤ us.length ∧ i = .int .i64 j ∧ Hid (∀ (i : Nat) (x : STri) (u : Int), i < j → l[i]? = some x → us[i]? = some u → badU x u = false) ∧ Env w wr []) (fun i _ => us.length - (intOf i).toNat)
  case atStart => exact ⟨0, by omega, rfl, fun i x u h => absurd h (by omega), E0⟩
  case round =>
    obtain ⟨j, hj, rfl, HB, E⟩ := hrel
    have hc1 := (E.low.cell (p := ⟨b, 0, none⟩) hlt).trans hc
    by_cases hlt2 : j < us.length
    · obtain ⟨u, hu⟩ := some_of_lt hlt2
      obtain ⟨x, hx⟩ := some_of_lt (show j < l.length by rw [← hL.out]; exact hlt2)
      have hjl : j < l.length := by rw [← hL.out]; exact hlt2
      obtain ⟨bu, ou, rfl, c1⟩ := su.int (ks.of_below E.low) hu
      obtain ⟨bx, ox, rfl, d1, d2, d3⟩ := ow.sl.tri ((hs.del b).of_below E.low) hx
      have i1 : (0 : Int) ≤ (j : Int) := by omega
      have i2 : (j : Int) < (us.length : Int) := by omega
      have i3 : (j : Int) < (l.length : Int) := by omega
      have HB' : badU x u = false → Hid (∀ (i : Nat) (x : STri) (u : Int), i < j + 1 → l[i]? = some x → us[i]? = some u → badU x u = false) := fun e i x' u' hi h1 h2 => by
        by_cases h3 : i = j
        · subst h3
          rw [hx.out] at h1; rw [hu.out] at h2; cases h1; cases h2; exact e
        · exact HB.out i x' u' (by omega) h1 h2
      by_cases h1 : u < 0
      · have t1 : decide (u < 0) = true := by simpa using h1
        have HE : Hid (vTakeE l us = 1) := takeE_bad hx.out hu.out (by simp [badU, h1])
        clear h1 HB' d1 d2
        go_wp2
        go_ret
        exact NO HE.out (by decide) E.low
      have t1 : decide (u < 0) = false := by simpa using h1
      by_cases h2 : x.c < u
      · have t2 : decide (x.c < u) = true := by simpa using h2
        have HE : Hid (vTakeE l us = 1) := takeE_bad hx.out hu.out (by simp [badU, h2])
        clear h1 h2 HB' d1 d2
        go_wp2
        go_ret
        exact NO HE.out (by decide) E.low
      have t2 : decide (x.c < u) = false := by simpa using h2
      have HN := HB' (by simp [badU]; omega)
      clear h1 h2 HB' d1 d2
      go_wp2
      go_roundw
      case rel => exact ⟨j + 1, by omega, by go_num, HN, E⟩
      case measure => simp [intOf]; omega
    · obtain rfl : j = us.length := by omega
      have HE : Hid (vTakeE l us = 0) := takeE_ok hL.out fun i x u h1 h2 => HB.out i x u (List.getElem?_eq_some_iff.1 h2).1 h1 h2
      have HRe : Hid (vTake l us = (List.zipWith lessV l us).filter fun z => !zeroB z) := by unfold Hid vTake; rw [if_pos HE.out]
      have HBD : ∀ (j : Nat) (x : STri) (u : Int), l[j]? = some x → us[j]? = some u → 0 ≤ u ∧ u ≤ x.c := fun j x u h1 h2 => vTake_bad HE.out h1 h2
      have HGL := Lib.hid g.lo
      clear HB
      go_wp2_with fail
      refine (vintRows_calls b l h _ (hs.of_below E.low) hp (by omega)).mono ?_
      rintro e' w2 ⟨C2, n2, h2, rfl, o2, u2⟩
      have E2 := E.new u2
      simp at E2
      clear u2 hc1 E
      go_wp2_with fail
      go_loopw [44] (fun i wr => ∃ (j : Nat) (h3 : Hp) (L : List STri), j ≤ us.length ∧ i = .int .i64 j ∧ Hid (L = List.zipWith lessV (l.take j) (us.take j) ++ l.drop j) ∧ Hid (L.length = l.length) ∧ Ow kTri h3 C2 n2 L ∧ Env w wr [h3]) (fun i _ => us.length - (intOf i).toNat)
      case atStart => exact ⟨0, h2, l, by omega, rfl, by unfold Hid; simp, rfl, o2, E2⟩
      case round =>
        clear o2 E2
        obtain ⟨j, h3, L, hj, rfl, HL, hLl, o3, E3⟩ := hrel
        by_cases hlt2 : j < us.length
        · obtain ⟨u, hu⟩ := some_of_lt hlt2
          have hjl : j < l.length := by rw [← hL.out]; exact hlt2
          obtain ⟨x, hx⟩ := some_of_lt hjl
          have hxL : Hid (L[j]? = some x) := by unfold Hid; rw [HL.out, zip_get_step _ _ _ _ hj]; exact hx.out
          have hbd := HBD j x u hx.out hu.out
          have hgl := HGL.out x (List.mem_of_getElem? hx.out)
          have hxm := le_sumC g.lo (List.mem_of_getElem? hx.out)
          have hsm := g.mon
          obtain ⟨bu, ou, rfl, c1⟩ := su.int (ks.of_below E3.low) hu
          obtain ⟨bx, ox, rfl, d1, d2, d3⟩ := o3.sl.tri (E3.sub 0 rfl) hxL
          have hfx := o3.cell_free (E3.sub 0 rfl) (by rw [hLl.out]; omega)
          obtain ⟨h4, o4, u4⟩ := Ow.set (x' := lessV x u) (v := .int .i64 (x.c - u)) (j := 2) o3 (E3.sub 0 rfl) hxL.out (by decide) rfl
          have E4 := E3.upd 0 rfl u4
          simp only [List.set_cons_zero] at E4
          have HL4 : Hid (L.set j (lessV x u) = List.zipWith lessV (l.take (j + 1)) (us.take (j + 1)) ++ l.drop (j + 1)) := by
            unfold Hid; rw [HL.out]; exact zip_set_step lessV l us j x u hx.out hu.out
          have hLl4 : Hid ((L.set j (lessV x u)).length = l.length) := by unfold Hid; rw [List.length_set]; exact hLl.out
          have i1 : (0 : Int) ≤ (j : Int) := by omega
          have i2 : (j : Int) < (us.length : Int) := by omega
          have i3 : (j : Int) < (l.length : Int) := by omega
          clear u4 o3 HBD
          go_wp2
          go_roundw
          case rel => exact ⟨j + 1, h4, _, by omega, by go_num, HL4, hLl4, o4, E4⟩
          case measure => simp [intOf]; omega
        · obtain rfl : j = us.length := by omega
          have HL5 : Hid (L = List.zipWith lessV l us) := by
            unfold Hid; rw [HL.out, List.take_of_length_le (by rw [hL.out]; omega), List.take_length, List.drop_eq_nil_of_le (by rw [hL.out]; omega), List.append_nil]
          rw [← HL5.out] at HRe
          have eg : ∀ args w, (callFunc 151 args).run Tryz.prog w = .ok (.enter 151 args) w := enters_of Tryz.func151 (by kernel_rfl) rfl
          have DC := deleteFunc_vint 151 #[] eg zeroB C2 n2 L h3 _ (E3.sub 0 rfl) o3 (by rw [hLl.out]; omega) (fun x W' k u => vintZero_calls x W')
          rw [hLl.out] at DC
          generalize (L.filter fun z => !zeroB z) = R at *
          clear HL HL5 HBD
          go_wp2_with fail
          refine DC.mono ?_
          rintro e' w5 ⟨h5, rfl, o5, u5⟩
          have E5 := E3.upd 0 rfl u5
          simp only [List.set_cons_zero] at E5
          have hc5 := (E5.low.cell (p := ⟨b, 0, none⟩) hlt).trans hc
          have hf5 := (E5.low.frozen (p := ⟨b, 0, none⟩) hlt).trans (hf 0)
          obtain ⟨UF, hn5⟩ := Upd.field (v := .slice C2 R.length n2) 0 hb hs (Hp.none_le _) (E5.made (h := h5) (by simp))
          go_wp2
          go_ret
          exact ⟨_, by rw [HE.out]; rfl, ⟨_, Hp.put_self, C2, n2, by rw [HRe.out]; rfl, by rw [Hp.put_del hn5, HRe.out]; exact o5⟩, UF⟩
end Go.Proofs.YtnfedcaehkcffaaGreat
end
section
/- The tax of a period, plain. No program is named here. -/
namespace Go.Sl
open Go Go.RowKit
def curArg (most life year r : Int) : Bool := rightRate most && (rightRate r && (decide (0 ≤ life ∧ life ≤ 99) && decide (0 ≤ year ∧ year ≤ 99)))
def curVec (l : List STri) (inc most year : Int) : List Int := if 0 < inc then vecGo year (vExp l year) (max 0 (roomV inc most)) else []
def curNew (inc : Int) : Int := if inc < 0 then -inc else 0
def curTaxable (l : List STri) (inc most year : Int) : Int := inc - (curVec l inc most year).sum + curNew inc
def curE (l : List STri) (b p m most life year r : Int) : Int :=
  if curArg most life year r = false then 1
  else if incOk b p m = false then 6
  else if incV b p m < 0 then vAddE (vExp l year) year (year + life) (-(incV b p m)) else 0
def curNext (l : List STri) (inc most life year : Int) : List STri :=
  if 0 < inc then vTake (vExp l year) (curVec l inc most year)
  else if inc < 0 then vAdd (vExp l year) year (year + life) (-inc) else vExp l year
theorem vecGo_at (year : Int) : ∀ (l : List STri) (left : Int), (∀ x ∈ l, 0 ≤ x.c) → 0 ≤ left → ∀ (i : Nat) (x : STri) (u : Int), l[i]? = some x → (vecGo year l left)[i]? = some u → 0 ≤ u ∧ u ≤ x.c
  | [], _, _, _, i, x, u, h, _ => by simp at h
  | y :: l, left, hl, h0, 0, x, u, h, h' => by
    simp [vecGo] at h h'
    subst h h'
    have := useOf_bd (year := year) (hl y (by simp)) h0
    omega
  | y :: l, left, hl, h0, i + 1, x, u, h, h' => by
    have h1 := useOf_bd (year := year) (hl y (by simp)) h0
    exact vecGo_at year l (left - useOf year y left) (fun z hz => hl z (by simp [hz])) (by omega) i x u (by simpa using h) (by simpa [vecGo] using h')
theorem curVec_take {l : List STri} (g : GoodV l) {inc most year : Int} (h : 0 < inc) : (curVec l inc most year).length = (vExp l year).length ∧ vTakeE (vExp l year) (curVec l inc most year) = 0 := by
  have g' := g.exp year
  unfold curVec
  rw [if_pos h]
  refine ⟨vecGo_len _ _ _, takeE_ok (vecGo_len _ _ _) fun i x u h1 h2 => ?_⟩
  have := vecGo_at year (vExp l year) (max 0 (roomV inc most)) (fun x hx => by have := g'.lo x hx; omega) (by omega) i x u h1 h2
  simp [badU]; omega
theorem GoodV.cur {l : List STri} (g : GoodV l) (inc most life year : Int) : GoodV (curNext l inc most life year) := by
  unfold curNext
  split
  · exact (g.exp year).take _
  · split
    · exact (g.exp year).add _ _ _
    · exact g.exp year
theorem incV_bd (b p m : Int) : -100000000000 ≤ incV b p m ∧ incV b p m ≤ 100000000000 := by
  unfold incV
  split
  · rename_i h
    simp [incOk, money] at h
    omega
  · omega
theorem floorV_bd {n r : Int} : 0 ≤ floorV n r ∧ floorV n r ≤ 100000000000 := by
  unfold floorV
  split
  · rename_i h
    simp [floorOk] at h
    have h1 : 0 ≤ n * r := Int.mul_nonneg h.1 h.2.2.1
    have h2 : n * r ≤ n * 1000000 := Int.mul_le_mul_of_nonneg_left h.2.2.2 h.1
    rw [Int.tdiv_eq_ediv_of_nonneg h1]
    omega
  · omega
theorem floorV_le {n r : Int} (hn : 0 ≤ n) : floorV n r ≤ n := by
  unfold floorV
  split
  · rename_i h
    simp [floorOk] at h
    have h1 : 0 ≤ n * r := Int.mul_nonneg h.1 h.2.2.1
    have h2 : n * r ≤ n * 1000000 := Int.mul_le_mul_of_nonneg_left h.2.2.2 h.1
    rw [Int.tdiv_eq_ediv_of_nonneg h1]
    omega
  · exact hn
theorem curVec_bd {l : List STri} (g : GoodV l) (inc most year : Int) : 0 ≤ (curVec l inc most year).sum ∧ (0 < inc → (curVec l inc most year).sum ≤ inc) ∧ (¬ 0 < inc → (curVec l inc most year).sum = 0) := by
  have g' := g.exp year
  unfold curVec
  split
  · rename_i h
    have hr : roomV inc most ≤ inc := by
      unfold roomV; split
      · omega
      · exact floorV_le (by omega)
    have hb := vecGo_bd year (vExp l year) (max 0 (roomV inc most)) (fun x hx => by have := g'.lo x hx; omega) (by omega)
    exact ⟨hb.1, fun _ => by omega, fun h' => absurd h h'⟩
  · rename_i h
    exact ⟨by simp, fun h' => absurd h' h, fun _ => by simp⟩
end Go.Sl
end
section
/- Rates as they are known, plain. No program is named here. -/
namespace Go.Sl
open Go Go.RowKit
def perOk (p : Int) : Bool := decide (0 ≤ p ∧ p ≤ 399)
def yearOf (p : Int) : Int := if perOk p then p / 4 else -1
def isR (j : ByteArray) (y at' : Int) (x : SRate) : Bool := decide (x.j = j ∧ x.yr = y ∧ x.per = at')
def tabArg (j : ByteArray) (y r at' : Int) : Bool := !noS j && (decide (0 ≤ y ∧ y ≤ 99) && (rightRate r && perOk at'))
def tabE (l : List SRate) (j : ByteArray) (y r at' : Int) : Int :=
  if tabArg j y r at' = false then 1 else if l.any (isR j y at') = true then 4 else if 24 ≤ l.length then 5 else 0
def tabAdd (l : List SRate) (j : ByteArray) (y r at' : Int) : List SRate := if tabE l j y r at' = 0 then l ++ [⟨j, y, r, at'⟩] else l
/-- Which row is the best one so far. -/
def better (j : ByteArray) (y at' : Int) (best : Option SRate) (x : SRate) : Option SRate :=
  if x.j = j ∧ ¬ y < x.yr ∧ ¬ at' < x.per then
    match best with
    | none => some x
    | some b => if b.yr < x.yr ∨ (x.yr = b.yr ∧ b.per < x.per) then some x else some b
  else best
def stepIn (best : Option SRate) (x : SRate) : Option SRate := match best with | none => some x | some b => if b.yr < x.yr ∨ (x.yr = b.yr ∧ b.per < x.per) then some x else some b
theorem better_in {j : ByteArray} {y at' : Int} {best : Option SRate} {x : SRate} (h1 : x.j = j) (h2 : ¬ y < x.yr) (h3 : ¬ at' < x.per) : better j y at' best x = stepIn best x := by unfold better stepIn; rw [if_pos ⟨h1, h2, h3⟩]
def bestR (l : List SRate) (j : ByteArray) (y at' : Int) : Option SRate := l.foldl (better j y at') none
def rateV (l : List SRate) (j : ByteArray) (y at' : Int) : Int := match bestR l j y at' with | some b => b.rt | none => 0
def rateB (l : List SRate) (j : ByteArray) (y at' : Int) : Bool := (bestR l j y at').isSome
/-- What holds of all tables. -/
structure GoodT (l : List SRate) : Prop where
  arg : ∀ x ∈ l, tabArg x.j x.yr x.rt x.per = true
  dist : l.Pairwise fun x y => ¬ (x.j = y.j ∧ x.yr = y.yr ∧ x.per = y.per)
  len : l.length ≤ 24
theorem GoodT.nil : GoodT [] := ⟨by simp, List.Pairwise.nil, by simp⟩
section
variable {l : List SRate} {j : ByteArray} {y r at' : Int}
theorem tabE_ok (h : tabE l j y r at' = 0) : tabArg j y r at' = true ∧ l.any (isR j y at') = false ∧ l.length < 24 := by
  unfold tabE at h
  split at h
  · cases h
  · rename_i h1
    split at h
    · cases h
    · rename_i h2
      split at h
      · cases h
      · exact ⟨by simpa using h1, by simpa using h2, by omega⟩
theorem GoodT.add (g : GoodT l) (j : ByteArray) (y r at' : Int) : GoodT (tabAdd l j y r at') := by
  unfold tabAdd
  split
  · rename_i h
    obtain ⟨h1, h2, h3⟩ := tabE_ok h
    refine ⟨fun x hx => ?_, List.pairwise_append.2 ⟨g.dist, by simp, fun a ha b hb => ?_⟩, by simp; omega⟩
    · rcases List.mem_append.1 hx with hx | hx
      · exact g.arg x hx
      · simp at hx; subst hx; exact h1
    · simp at hb; subst hb
      rw [List.any_eq_false] at h2
      have := h2 a ha
      simpa [isR] using this
  · exact g
theorem bestR_snoc {x : SRate} {i : Nat} (hx : Hid (l[i]? = some x)) : bestR (l.take (i + 1)) j y at' = better j y at' (bestR (l.take i) j y at') x := by
  unfold bestR; rw [take_next hx, List.foldl_append]; rfl
theorem better_mem {b : Option SRate} {x z : SRate} (h : better j y at' b x = some z) : z = x ∨ b = some z := by
  unfold better at h
  split at h
  · cases b with
    | none => simp at h; exact .inl h.symm
    | some b => simp at h; split at h
                · simp at h; exact .inl h.symm
                · exact .inr h
  · exact .inr h
theorem bestR_mem : ∀ {l : List SRate} {z : SRate}, bestR l j y at' = some z → z ∈ l := by
  intro l
  have key : ∀ (l : List SRate) (b : Option SRate) (z : SRate), l.foldl (better j y at') b = some z → z ∈ l ∨ b = some z := by
    intro l
    induction l with
    | nil => intro b z h; exact .inr h
    | cons x l ih =>
      intro b z h
      rcases ih _ _ h with h1 | h1
      · exact .inl (by simp [h1])
      · rcases better_mem h1 with rfl | h2
        · exact .inl (by simp)
        · exact .inr h2
  intro z h
  rcases key l none z h with h1 | h1
  · exact h1
  · cases h1
theorem rateV_bd (g : GoodT l) : rightRate (rateV l j y at') = true := by
  unfold rateV
  split
  · rename_i b hb
    have := g.arg b (bestR_mem hb)
    simp [tabArg] at this
    exact this.2.2.1
  · rfl
/-- Of good rows those ahead of one take it on behind them. -/
theorem GoodT.next (g : GoodT l) {i : Nat} {x : SRate} (hx : l[i]? = some x) : tabE (l.take i) x.j x.yr x.rt x.per = 0 ∧ tabAdd (l.take i) x.j x.yr x.rt x.per = l.take (i + 1) := by
  have hlt := (List.getElem?_eq_some_iff.1 hx).1
  have hno : (l.take i).any (isR x.j x.yr x.per) = false := by
    rw [List.any_eq_false]; intro z hz h
    obtain ⟨k, hk⟩ := List.mem_iff_getElem?.1 hz
    have hki : k < i := by
      have := (List.getElem?_eq_some_iff.1 hk).1
      rw [List.length_take] at this; omega
    rw [List.getElem?_take, if_pos hki] at hk
    have := List.pairwise_iff_getElem.1 g.dist k i (by omega) hlt hki
    rw [List.getElem?_eq_some_iff] at hk hx
    rw [hk.2, hx.2] at this
    exact this (by simpa [isR] using h)
  have hE : tabE (l.take i) x.j x.yr x.rt x.per = 0 := by
    have := g.len
    unfold tabE
    rw [if_neg (by rw [g.arg x (List.mem_of_getElem? hx)]; decide), if_neg (by rw [hno]; decide), if_neg (by rw [List.length_take]; omega)]
  refine ⟨hE, ?_⟩
  unfold tabAdd
  rw [if_pos hE, take_next (x := x) hx]
end
end Go.Sl
end
