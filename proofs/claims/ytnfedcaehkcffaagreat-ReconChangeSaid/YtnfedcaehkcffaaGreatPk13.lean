/- Walks and plain facts that the laws of this seat share, part 13: contracts of functions, each said at its theorem. -/
import Derived.Test.YtnfedcaehkcffaaGreatPk12
import Derived.Deep.RegionHeld3
import Derived.Deep.DeepCutAuto
import Derived.Deep.RegionLaw
import Derived.Lib.BufferMore
set_option linter.all false
section
/- The walks of bucket.New, Clone, Rows, at, Get, Total. -/
namespace Go.Sl
def cfTri (x y : STri) : Int := orI (cmpI x.a y.a) (cmpI x.b y.b)
theorem lt_tri (x y : STri) : Go.Proofs.ltOf cfTri x y = ordPair.lt (rkey x) (rkey y) := by
  unfold Go.Proofs.ltOf cfTri orI cmpI
  simp only [ordPair, rkey]
  rw [decide_eq_decide]
  split <;> split <;> (try split) <;> (try split) <;> omega
end Go.Sl
namespace Go.Proofs.YtnfedcaehkcffaaGreat
open Go.RowKit Go.Sl Go.Sort
set_option maxHeartbeats 2000000
set_option maxRecDepth 100000
abbrev PtB (h : Hp) (b : Nat) (r : List STri) : Prop := Pt (kOne kTri) 131 h b r
theorem buckNew_calls (w : World) : Calls Tryz.prog 23 #[] w fun e w' => ∃ h b, e = .returned (.pointer (some ⟨b, 0, none⟩)) ∧ PtB h b [] ∧ Upd Hp.none h w w' := by
  go_enter Tryz.func23, Tryz.ntmps23
  go_wp2
  go_ret
  exact ⟨_, _, rfl, ⟨_, Hp.one_self _ _, none, 0, rfl, Ow.none _ _⟩, Upd.newBlock w _⟩
theorem buckClone_calls (b : Nat) (r : List STri) (h : Hp) (w : World) (hs : h.sub w) (p : PtB h b r) (hl : r.length ≤ 1000000) :
    Calls Tryz.prog 71 #[.pointer (some ⟨b, 0, none⟩)] w fun e w' => ∃ h' b', e = .returned (.pointer (some ⟨b', 0, none⟩)) ∧ PtB h' b' r ∧ Upd Hp.none h' w w' := by
  obtain ⟨A, ca, hb, hc, ow, _⟩ := p.one hs
  have CC := clone_bucket A ca r (h.del b) w (hs.del b) ow.sl hl
  go_enter Tryz.func71, Tryz.ntmps71
  go_wp2_with fail
  refine CC.mono ?_
  rintro e w1 ⟨C, cap, h1, rfl, o1, u1⟩
  go_wp2
  go_ret
  exact ⟨_, _, rfl, ⟨_, Hp.put_self, C, cap, rfl, by rw [Hp.put_del (u1.sub.free (Nat.le_refl _))]; exact o1⟩, u1.put⟩
theorem buckCmp_calls (x y : STri) (W : World) : Calls Tryz.prog 63 #[.agg #[.int .i64 x.a, .int .i64 x.b, .int .i64 x.c], .agg #[.int .i64 y.a, .int .i64 y.b, .int .i64 y.c]] W fun e W' => e = .returned (.int .i64 (cfTri x y)) ∧ ∃ q os', W' = grow (W.drewN q) os' := by
  have HC : Hid (cfTri x y = orI (cmpI x.a y.a) (cmpI x.b y.b)) := rfl
  generalize cfTri x y = r at *
  have C1 := fun W : World => compare_calls x.a y.a W
  have C2 := fun W : World => compare_calls x.b y.b W
  generalize cmpI x.a y.a = a at *
  generalize cmpI x.b y.b = b at *
  go_enter Tryz.func63, Tryz.ntmps63
  go_wp2
  go_region_held3 (fun w' => w'.cell? ⟨W.heap.size, 0, none⟩ = some (.int .i64 x.a) ∧ w'.cell? ⟨W.heap.size, 1, none⟩ = some (.int .i64 x.b) ∧ w'.cell? ⟨W.heap.size + 1, 0, none⟩ = some (.int .i64 y.a) ∧ w'.cell? ⟨W.heap.size + 1, 1, none⟩ = some (.int .i64 y.b))
    (go_keep)
    (first
      | (go_at_call 65; ((with_reducible refine (C1 _).mono ?_)); rintro e w' ⟨rfl, rfl⟩)
      | (go_at_call 65; ((with_reducible refine (C2 _).mono ?_)); rintro e w' ⟨rfl, rfl⟩)
      | (go_at_call 64; have OC := fun (V : World) (h0 : V.heap[W.heap.size + 1 + 1]? = some (.cells #[.int .i64 a, .int .i64 b] 3)) => or_calls (W.heap.size + 1 + 1) a b V (by rw [cell_of_row V _ 0 _ _ _ h0]; rfl) (by rw [cell_of_row V _ 1 _ _ _ h0]; rfl); refine (OC _ (by rw [show ∀ V : World, V.drew.heap = V.heap from fun _ => rfl]; exact heap_new_at (by simp))).mono ?_; rintro e w' ⟨rfl, rfl⟩)
      | fail)
  go_wp2
  go_ret
  exact ⟨by rw [HC.out]; rfl, 1, _, by rw [alloc_eq_grow, alloc_eq_grow, alloc_eq_grow]; simp only [grow_grow, drew_grow]; rfl⟩
theorem buckRows_calls (b : Nat) (r : List STri) (h : Hp) (w : World) (hs : h.sub w) (p : PtB h b r) (hd : DistR r) (hl : r.length ≤ 1000000) :
    Calls Tryz.prog 20 #[.pointer (some ⟨b, 0, none⟩)] w fun e w' => ∃ C cap h', e = .returned (.slice C r.length cap) ∧ Ow kTri h' C cap (isort ordPair rkey r) ∧ Upd Hp.none h' w w' := by
  obtain ⟨A, ca, hb, hc, ow, _⟩ := p.one hs
  have CC := clone_bucket A ca r (h.del b) w (hs.del b) ow.sl hl
  have eg : ∀ args w, (callFunc 63 args).run Tryz.prog w = .ok (.enter 63 args) w := enters_of Tryz.func63 (by kernel_rfl) rfl
  have SC := fun (C : Option Addr) (cc : Nat) (h1 : Hp) (w1 : World) (s : h1.sub w1) (o : Ow kTri h1 C cc r) => sortFunc_bucket ordPair rkey cfTri lt_tri 63 eg buckCmp_calls C cc r h1 w1 s o hd hl
  generalize isort ordPair rkey r = so at *
  go_enter Tryz.func20, Tryz.ntmps20
  go_wp2_with fail
  refine CC.mono ?_
  rintro e w1 ⟨C, cap, h1, rfl, o1, u1⟩
  go_wp2_with fail
  refine (SC _ _ _ _ u1.sub o1).mono ?_
  rintro e w2 ⟨h2, rfl, o2, u2⟩
  go_wp2
  go_ret
  exact ⟨C, cap, h2, rfl, o2, u1.trans u2⟩
theorem buckSame_calls (x : STri) (b5 b6 : Nat) (c y : Int) (W : World) (c5 : W.cell? ⟨b5, 0, none⟩ = some (.int .i64 c)) (c6 : W.cell? ⟨b6, 0, none⟩ = some (.int .i64 y)) :
    Calls Tryz.prog 162 #[.agg #[.int .i64 x.a, .int .i64 x.b, .int .i64 x.c], .pointer (some ⟨b5, 0, none⟩), .pointer (some ⟨b6, 0, none⟩)] W fun e W' => e = .returned (.bool (isB c y x)) ∧ Below W.heap.size W W' := by
  have c5a := fun o => (cell_alloc (o := o) (World.block_lt_of_cell? _ _ c5)).trans c5
  have c6a := fun o => (cell_alloc (o := o) (World.block_lt_of_cell? _ _ c6)).trans c6
  have HI : isB c y x = decide (x.a = c ∧ x.b = y) := rfl
  generalize isB c y x = r at *
  by_cases h1 : x.a = c
  · have t1 : (x.a == c) = true := by simpa using h1
    by_cases h2 : x.b = y
    · have t2 : (x.b == y) = true := by simpa using h2
      have hr : Hid (r = true) := by unfold Hid; rw [HI]; simp [h1, h2]
      clear HI h1 h2
      go_enter Tryz.func162, Tryz.ntmps162
      go_wp2
      go_ret
      exact ⟨by rw [hr.out]; rfl, (by repeat (first | exact Below.refl _ _ | apply Below.drew | refine Below.alloc ?_ (by simp) _))⟩
    · have t2 : (x.b == y) = false := by simpa using h2
      have hr : Hid (r = false) := by unfold Hid; rw [HI]; simp [h2]
      clear HI h1 h2
      go_enter Tryz.func162, Tryz.ntmps162
      go_wp2
      go_ret
      exact ⟨by rw [hr.out]; rfl, (by repeat (first | exact Below.refl _ _ | apply Below.drew | refine Below.alloc ?_ (by simp) _))⟩
  · have t1 : (x.a == c) = false := by simpa using h1
    have hr : Hid (r = false) := by unfold Hid; rw [HI]; simp [h1]
    clear HI h1
    go_enter Tryz.func162, Tryz.ntmps162
    go_wp2
    go_ret
    exact ⟨by rw [hr.out]; rfl, (by repeat (first | exact Below.refl _ _ | apply Below.drew | refine Below.alloc ?_ (by simp) _))⟩
theorem buckAt_calls (b : Nat) (r : List STri) (c y : Int) (h : Hp) (w : World) (hs : h.sub w) (p : PtB h b r) :
    Calls Tryz.prog 128 #[.pointer (some ⟨b, 0, none⟩), .int .i64 c, .int .i64 y] w fun e w' => e = .returned (.int .i64 (idx (isB c y) r)) ∧ Below w.heap.size w w' := by
  obtain ⟨A, ca, hb, hc, ow, _⟩ := p.one hs
  have eg : ∀ args w, (callFunc 162 args).run Tryz.prog w = .ok (.enter 162 args) w := enters_of Tryz.func162 (by kernel_rfl) rfl
  have EW := ((Env.start w).alloc (.cells #[.int .i64 c] 3)).alloc (.cells #[.int .i64 y] 3)
  simp at EW
  have hcE := (EW.low.cell (p := ⟨b, 0, none⟩) (World.block_lt_of_cell? _ _ hc)).trans hc
  have IC := fun (W : World) (E : Env w W [Hp.box w.heap.size [.int .i64 c] 3, Hp.box (w.heap.size + 1) [.int .i64 y] 3]) =>
    indexFunc_bucket 162 #[.pointer (some ⟨w.heap.size, 0, none⟩), .pointer (some ⟨w.heap.size + 1, 0, none⟩)] eg (isB c y) A ca r (h.del b) W ((hs.del b).of_below E.low) ow.sl
      (fun x W' hW => buckSame_calls x w.heap.size (w.heap.size + 1) c y W' ((E.below hW).cell 0 rfl 0 rfl) ((E.below hW).cell 1 rfl 0 rfl))
  generalize idx (isB c y) r = ii at *
  go_enter Tryz.func128, Tryz.ntmps128
  go_wp2_with fail
  refine (IC _ EW).mono ?_
  rintro e w1 ⟨rfl, b1⟩
  go_wp2
  go_ret
  exact ⟨rfl, (EW.below b1).low⟩
theorem buckGet_calls (b : Nat) (r : List STri) (c y : Int) (h : Hp) (w : World) (hs : h.sub w) (p : PtB h b r) :
    Calls Tryz.prog 69 #[.pointer (some ⟨b, 0, none⟩), .int .i64 c, .int .i64 y] w fun e w' => e = .returned (.int .i64 (getB r c y)) ∧ Below w.heap.size w w' := by
  obtain ⟨A, ca, hb, hc, ow, _⟩ := p.one hs
  have hlt : b < w.heap.size := World.block_lt_of_cell? _ _ hc
  have AC := buckAt_calls b r c y h w hs p
  have lm := ow.small
  rcases getB_idx r c y with ⟨hi, hv, _⟩ | ⟨i, x, hx, hi, hv, _, _⟩
  · rw [hi] at AC
    have HV := Lib.hid hv
    clear hi hv
    go_enter Tryz.func69, Tryz.ntmps69
    go_wp2_with fail
    refine AC.mono ?_
    rintro e w1 ⟨rfl, b1⟩
    go_wp2
    go_ret
    exact ⟨by rw [HV.out]; rfl, b1⟩
  · rw [hi] at AC
    have HV := Lib.hid hv
    have hil : i < r.length := (List.getElem?_eq_some_iff.1 hx).1
    have i1 : (0 : Int) ≤ (i : Int) := by omega
    have i2 : (i : Int) < (r.length : Int) := by omega
    have hxx := Lib.hid hx
    clear hi hv hx
    go_enter Tryz.func69, Tryz.ntmps69
    go_wp2_with fail
    refine AC.mono ?_
    rintro e w1 ⟨rfl, b1⟩
    have hc1 := (b1.cell (p := ⟨b, 0, none⟩) hlt).trans hc
    obtain ⟨bx, ox, rfl, c1, c2, c3⟩ := ow.sl.tri ((hs.del b).of_below b1) hxx
    go_wp2
    go_ret
    exact ⟨by rw [HV.out]; rfl, b1⟩
theorem buckTotal_calls (b : Nat) (r : List STri) (h : Hp) (w : World) (hs : h.sub w) (p : PtB h b r) (hl : r.length ≤ 1000) (hm : ∀ b ∈ r, -100000000000 ≤ b.c ∧ b.c ≤ 100000000000) :
    Calls Tryz.prog 70 #[.pointer (some ⟨b, 0, none⟩)] w fun e w' => e = .returned (.int .i64 (sumC r)) ∧ Below w.heap.size w w' := by
  obtain ⟨A, ca, _, hc, ow, _⟩ := p.one hs
  have sx := ow.sl
  have m1 := sx.small
  have HM := Lib.hid hm
  clear hm
  go_enter Tryz.func70, Tryz.ntmps70
  go_wp2
  go_loopw [3, 11] (fun s i wr => ∃ (j : Nat), j ≤ r.length ∧ i = .int .i64 j ∧ s = .int .i64 (sumC (r.take j)) ∧ Below w.heap.size w wr) (fun _ i _ => r.length - (intOf i).toNat)
  case atStart => exact ⟨0, by omega, rfl, rfl, Below.refl _ _⟩
  case round =>
    obtain ⟨j, hj, rfl, rfl, hb⟩ := hrel
    by_cases hlt : j < r.length
    · obtain ⟨x, hx⟩ := some_of_lt hlt
      obtain ⟨b1, o1, rfl, c1, c2, c3⟩ := sx.tri ((hs.del b).of_below hb) hx
      have i1 : (0 : Int) ≤ (j : Int) := by omega
      have i2 : (j : Int) < (r.length : Int) := by omega
      have q1 := HM.out x (List.mem_of_getElem? hx.out)
      have q2 := sumC_bd (m := 100000000000) (by omega) (r.take j) fun b hb => HM.out b (List.mem_of_mem_take hb)
      rw [List.length_take] at q2
      obtain ⟨q3, q4⟩ : -1000000000000000 ≤ sumC (r.take j) ∧ sumC (r.take j) ≤ 1000000000000000 := by omega
      clear q2
      have HT : Hid (sumC (r.take (j + 1)) = sumC (r.take j) + x.c) := by unfold Hid; rw [take_next hx, sumC_snoc]
      go_wp2
      go_roundw
      case rel => exact ⟨j + 1, by omega, by go_num, by rw [HT.out], hb.alloc hb.size _⟩
      case measure => simp [intOf]; omega
    · obtain rfl : j = r.length := by omega
      rw [List.take_length]
      go_wp2
      go_ret
      exact ⟨rfl, hb⟩
end Go.Proofs.YtnfedcaehkcffaaGreat
end
section
/- The walks of bucket.set, right, take. -/
namespace Go.Proofs.YtnfedcaehkcffaaGreat
open Go.RowKit Go.Sl Go.Sort
set_option maxHeartbeats 2000000
set_option maxRecDepth 100000
theorem buckZero_calls (x : STri) (W : World) : Calls Tryz.prog 130 #[.agg #[.int .i64 x.a, .int .i64 x.b, .int .i64 x.c]] W fun e W' => e = .returned (.bool (zeroB x)) ∧ Below W.heap.size W W' := by
  have t : Hid ((x.c == 0) = zeroB x) := by unfold Hid zeroB; rw [Bool.eq_iff_iff]; simp
  go_enter Tryz.func130, Tryz.ntmps130
  go_wp2
  go_ret
  exact ⟨by rw [← t.out]; rfl, (by repeat (first | exact Below.refl _ _ | apply Below.drew | refine Below.alloc ?_ (by simp) _))⟩
theorem ret_bool {b b' : Bool} (h : b = true ↔ b' = true) : Ending.returned (.bool b) = .returned (.bool b') := by rw [Bool.eq_iff_iff.2 h]
theorem buckRight_calls (c y : Int) (w : World) : Calls Tryz.prog 68 #[.int .i64 c, .int .i64 y] w fun e w' => e = .returned (.bool (bucketOk c y)) ∧ w = w' := by
  have HB : Hid (bucketOk c y = decide (1 ≤ c ∧ c ≤ 9 ∧ 0 ≤ y ∧ y ≤ 99)) := rfl
  go_enter Tryz.func68, Tryz.ntmps68
  go_wp2
  all_goals
    go_ret
    exact ⟨by rw [HB.out]; exact ret_bool (by simp; omega), rfl⟩
theorem buckTakeNo_calls (b b' : Nat) (A' : Option Addr) (n' ca' : Nat) (w : World) (hc' : w.cell? ⟨b', 0, none⟩ = some (.slice A' n' ca')) (hn : 12 < n') :
    Calls Tryz.prog 73 #[.pointer (some ⟨b, 0, none⟩), .pointer (some ⟨b', 0, none⟩)] w fun e w' => e = .returned (.int .i64 5) ∧ w = w' := by
  have t : decide ((12 : Int) < (n' : Int)) = true := by simp; omega
  go_enter Tryz.func73, Tryz.ntmps73
  go_wp2
  go_ret
  exact ⟨rfl, rfl⟩
theorem buckTake_calls (b b' : Nat) (A A' : Option Addr) (n n' ca ca' : Nat) (w : World) (hc : w.cell? ⟨b, 0, none⟩ = some (.slice A n ca)) (hf : w.frozen? ⟨b, 0, none⟩ = false) (hc' : w.cell? ⟨b', 0, none⟩ = some (.slice A' n' ca')) (hn : ¬12 < n') :
    Calls Tryz.prog 73 #[.pointer (some ⟨b, 0, none⟩), .pointer (some ⟨b', 0, none⟩)] w fun e w' => e = .returned (.int .i64 0) ∧ w.setCell ⟨b, 0, none⟩ (.slice A' n' ca') = w' := by
  have t : decide ((12 : Int) < (n' : Int)) = false := by simp; omega
  go_enter Tryz.func73, Tryz.ntmps73
  go_wp2
  go_ret
  exact ⟨rfl, rfl⟩
/-- What is 0 goes: the end of set. -/
theorem buckClean {b n ca : Nat} {A : Option Addr} {L : List STri} {h h1 : Hp} {w W : World} (u1 : Upd h h1 w W) (hb : h1 b = some (.cells #[.slice A n ca] 131 (0, 0))) (hn : L.length = n) (ow : Ow kTri (h1.del b) A ca L) (hl : n ≤ 1000000) :
      Calls Tryz.prog 129 #[.slice A n ca, .func (.func 130) #[] #[]] W fun e w2 => e = .returned (.slice A (L.filter fun z => !zeroB z).length ca) ∧
        w2.cell? ⟨b, 0, none⟩ = some (.slice A n ca) ∧ w2.frozen? ⟨b, 0, none⟩ = false ∧
        Hid (∃ h', PtB h' b (L.filter fun z => !zeroB z) ∧ Upd h h' w (w2.setCell ⟨b, 0, none⟩ (.slice A (L.filter fun z => !zeroB z).length ca))) := by
  subst hn
  have hs1 := u1.sub
  have hc : W.cell? ⟨b, 0, none⟩ = some (.slice A L.length ca) := by rw [cell_of_row W b 0 _ _ _ (hs1 b _ hb)]; rfl
  have hf : ∀ n, W.frozen? ⟨b, n, none⟩ = false := fun n => frozen_of_row W b n _ _ (hs1 b _ hb)
  have hlt : b < W.heap.size := World.block_lt_of_cell? _ _ hc
  have eg : ∀ args w, (callFunc 130 args).run Tryz.prog w = .ok (.enter 130 args) w := enters_of Tryz.func130 (by kernel_rfl) rfl
  refine (deleteFunc_bucket 130 #[] eg zeroB A ca L (h1.del b) W (hs1.del b) ow hl (fun x W' k u => buckZero_calls x W')).mono ?_
  rintro e w2 ⟨h2, rfl, o2, u2⟩
  obtain ⟨UF, hn⟩ := Upd.field (v := .slice A (L.filter fun z => !zeroB z).length ca) 0 hb hs1 (Hp.le_refl _) u2
  exact ⟨rfl, (u2.cell hc Hp.del_self), (u2.frozen hlt Hp.del_self).trans (hf 0), ⟨_, ⟨_, Hp.put_self, A, ca, rfl, by rw [Hp.put_del hn]; exact o2⟩, u1.trans UF⟩⟩
end Go.Proofs.YtnfedcaehkcffaaGreat
end
section
/- The walks of bucket.set, Move, Reclass. -/
namespace Go.Proofs.YtnfedcaehkcffaaGreat
open Go.RowKit Go.Sl Go.Sort
set_option maxHeartbeats 4000000
set_option maxRecDepth 100000
theorem buckSet_calls (b : Nat) (r : List STri) (c y n : Int) (h : Hp) (w : World) (hs : h.sub w) (p : PtB h b r) (hd : DistR r) (hl : r.length ≤ 1000) :
    Calls Tryz.prog 72 #[.pointer (some ⟨b, 0, none⟩), .int .i64 c, .int .i64 y, .int .i64 n] w fun e w' => ∃ h', e = .returned (.tuple #[]) ∧ PtB h' b (rawSet r c y n) ∧ Upd h h' w w' := by
  obtain ⟨A, ca, hb, hc, ow, hf⟩ := p.one hs
  have hlt : b < w.heap.size := World.block_lt_of_cell? _ _ hc
  have AC := buckAt_calls b r c y h w hs p
  have lm := ow.small
  have HR : Hid (rawSet r c y n = (rawPut r c y n).filter fun z => !zeroB z) := rfl
  rcases getB_idx r c y with ⟨hi, _, ha⟩ | ⟨i, x, hx, hi, _, ha, hk⟩
  · rw [hi] at AC
    by_cases hn : n = 0
    · have t : (n == 0) = true := by simpa using hn
      have t2 : (n != 0) = false := by simpa using hn
      have HP : rawPut r c y n = r := by unfold rawPut; rw [if_neg (by rw [ha]; simp), if_pos hn]
      rw [HP] at HR
      clear hn HP ha hi
      go_enter Tryz.func72, Tryz.ntmps72
      go_wp2_with fail
      refine AC.mono ?_
      rintro e w1 ⟨rfl, b1⟩
      have hc1 := (b1.cell (p := ⟨b, 0, none⟩) hlt).trans hc
      have DC := buckClean (Upd.stay hs b1) hb rfl ow (by omega)
      generalize (r.filter fun z => !zeroB z) = R at *
      go_wp2_with fail
      refine DC.mono ?_
      rintro e w2 ⟨rfl, hc2, hf2, HF⟩
      go_wp2
      go_end0
      obtain ⟨h', p', u'⟩ := HF.out
      exact ⟨h', rfl, by rw [HR.out]; exact p', u'⟩
    · have t2 : (n != 0) = true := by simpa using hn
      have HP : rawPut r c y n = r ++ [⟨c, y, n⟩] := by unfold rawPut; rw [if_neg (by rw [ha]; simp), if_neg hn]
      rw [HP] at HR
      have hll : (r ++ [(⟨c, y, n⟩ : STri)]).length = r.length + 1 := by simp
      clear hn HP ha hi
      go_enter Tryz.func72, Tryz.ntmps72
      go_wp2_with fail
      refine AC.mono ?_
      rintro e w1 ⟨rfl, b1⟩
      have hc1 := (b1.cell (p := ⟨b, 0, none⟩) hlt).trans hc
      have hf1 := (b1.frozen (p := ⟨b, 0, none⟩) hlt).trans (hf 0)
      have hd1 := (hs.del b).of_below b1
      have hne : (h.del b) b = Option.none := Hp.del_self
      have hlt1 := World.block_lt_of_cell? _ _ hc1
      have hca1 : ∀ o, (w1.alloc o).cell? ⟨b, 0, none⟩ = some (.slice A r.length ca) := fun o => (cell_alloc hlt1).trans hc1
      have hfa1 : ∀ o, (w1.alloc o).frozen? ⟨b, 0, none⟩ = false := fun o => (frozen_alloc hlt1).trans hf1
      go_wp2_with (at_builtin; refine wpList_app1f (h := h.del b) (xs := r) (y := ⟨c, y, n⟩) Tryz.underlying34 info_bucket (by rfl) (by rfl) rfl r.length 1 (by rfl) (by rfl) rfl ow (hd1.of_below (by repeat (first | exact Below.refl _ _ | apply Below.drew | refine Below.alloc ?_ (by simp) _))) (heap_new_at (by simp)) rfl (by omega) (by omega) ?_; intro C' cap' w3 h3 ho3 hu3; have hcv : w3.cell? ⟨b, 0, none⟩ = _ := hu3.cell (hca1 _) hne; have hfv : w3.frozen? ⟨b, 0, none⟩ = _ := (hu3.frozen (p := ⟨b, 0, none⟩) (by first | (simp; done) | (simp; omega) | omega) hne).trans (hfa1 _))
      have U0 : Upd (h.del b) h3 w w3 := hu3.before (b1.alloc b1.size _)
      obtain ⟨UF, hn3⟩ := Upd.field (v := .slice C' (r.length + 1) cap') 0 hb hs (Hp.le_refl _) U0
      have DC := buckClean UF Hp.put_self hll (by rw [Hp.put_del hn3]; exact ho3) (by omega)
      generalize ((r ++ [(⟨c, y, n⟩ : STri)]).filter fun z => !zeroB z) = R at *
      refine DC.mono ?_
      rintro e w4 ⟨rfl, hc4, hf4, HF⟩
      go_wp2
      go_end0
      obtain ⟨h', p', u'⟩ := HF.out
      exact ⟨h', rfl, by rw [HR.out]; exact p', u'⟩
  · rw [hi] at AC
    have hil : i < r.length := (List.getElem?_eq_some_iff.1 hx).1
    have i1 : (0 : Int) ≤ (i : Int) := by omega
    have i2 : (i : Int) < (r.length : Int) := by omega
    have HP : rawPut r c y n = r.set i ⟨x.a, x.b, n⟩ := by
      unfold rawPut
      rw [if_pos ha, set_map (key := rkey) hd hx]
      have e1 : (⟨x.a, x.b, n⟩ : STri) = ⟨c, y, n⟩ := by simp [rkey] at hk; rw [hk.1, hk.2]
      rw [e1, hk]
    rw [HP] at HR
    have hll : (r.set i ⟨x.a, x.b, n⟩).length = r.length := by simp
    have hxx := Lib.hid hx
    clear HP ha hi hk hx
    go_enter Tryz.func72, Tryz.ntmps72
    go_wp2_with fail
    refine AC.mono ?_
    rintro e w1 ⟨rfl, b1⟩
    have hc1 := (b1.cell (p := ⟨b, 0, none⟩) hlt).trans hc
    obtain ⟨bx, ox, rfl, c1, c2, c3⟩ := ow.sl.tri ((hs.del b).of_below b1) hxx
    have hfx := ow.cell_free ((hs.del b).of_below b1) (by omega)
    have hne : (h.del b) b = Option.none := Hp.del_self
    have hbx := ow.ne_block (by omega) hne
    obtain ⟨h3, o3, u3⟩ := Ow.set (x' := ⟨x.a, x.b, n⟩) (v := .int .i64 n) (j := 2) ow ((hs.del b).of_below b1) hxx.out (by decide) rfl
    have hlt1 := World.block_lt_of_cell? _ _ hc1
    have hcv := u3.cell hc1 hne
    have U0 := u3.before b1
    have DC := buckClean (Upd.rest hb hs U0).1 Hp.put_self hll (by rw [Hp.put_del (Upd.rest hb hs U0).2]; exact o3) (by omega)
    clear u3 o3 U0
    generalize ((r.set i (⟨x.a, x.b, n⟩ : STri)).filter fun z => !zeroB z) = R at *
    trace "D"
    go_wp2_with fail
    refine DC.mono ?_
    rintro e w4 ⟨rfl, hc4, hf4, HF⟩
    go_wp2
    go_end0
    obtain ⟨h', p', u'⟩ := HF.out
    exact ⟨h', rfl, by rw [HR.out]; exact p', u'⟩
/-- What Move and Reclass return. -/
def BAns (b : Nat) (q : Int) (L : List STri) (h : Hp) (w : World) (e : Ending) (w' : World) : Prop :=
  ∃ h' r', e = .returned (.int .i64 q) ∧ PtB h' b r' ∧ RawR r' L ∧ Upd h h' w w'
theorem BAns.no {b : Nat} {r l L : List STri} {h : Hp} {w w' : World} {q q' : Int} (hq : q' = q) (hL : L = l) (hp : PtB h b r) (R : RawR r l) (hs : h.sub w) (hb : Below w.heap.size w w') :
    BAns b q' L h w (.returned (.int .i64 q)) w' := ⟨h, r, by rw [hq], hp, by rw [hL]; exact R, Upd.stay hs hb⟩
theorem moveR_no {l : List STri} {c y n q : Int} (h : moveE l c y n = q) (h0 : q ≠ 0) : moveR l c y n = l := by unfold moveR; rw [if_neg (by rw [h]; exact h0)]
theorem reclR_no {l : List STri} {c y c2 y2 n q : Int} (h : reclE l c y c2 y2 n = q) (h0 : q ≠ 0) : reclR l c y c2 y2 n = l := by unfold reclR; rw [if_neg (by rw [h]; exact h0)]
theorem _root_.Go.Sl.RawR.set {r l : List STri} (R : RawR r l) {c y n : Int} (g : GoodR (setB l c y n)) : RawR (rawSet r c y n) (setB l c y n) :=
  ⟨rawSet_dist R.dist c y n, by rw [rawSet_eq R.dist R.nz, R.eq], g⟩
theorem _root_.Go.Sl.RawR.setLen {r l : List STri} (R : RawR r l) (c y n : Int) : (rawSet r c y n).length = (setB l c y n).length := by rw [rawSet_len_eq R.dist R.nz, R.eq]
theorem buckMove_calls (b : Nat) (r l : List STri) (c y n : Int) (h : Hp) (w : World) (hs : h.sub w) (hp : PtB h b r) (R : RawR r l) :
    Calls Tryz.prog 29 #[.pointer (some ⟨b, 0, none⟩), .int .i64 c, .int .i64 y, .int .i64 n] w (BAns b (moveE l c y n) (moveR l c y n) h w) := by
  obtain ⟨A, ca, hb0, hc, ow, hf⟩ := hp.one hs
  have hlt : b < w.heap.size := World.block_lt_of_cell? _ _ hc
  have g := R.good
  have hlen := g.len
  have hrl := R.len
  have BC := fun W : World => buckRight_calls c y W
  have MC := fun W : World => money_calls n W
  have NO : ∀ {q : Int} {W : World}, moveE l c y n = q → q ≠ 0 → Below w.heap.size w W → BAns b (moveE l c y n) (moveR l c y n) h w (.returned (.int .i64 q)) W := fun h1 h2 h3 => .no h1 (moveR_no h1 h2) hp R hs h3
  cases hb : bucketOk c y with
  | false =>
    have HE : Hid (moveE l c y n = 1) := by unfold Hid moveE; rw [if_pos (by simp [hb])]
    rw [hb] at BC
    clear hb MC
    go_enter Tryz.func29, Tryz.ntmps29
    go_wp2_with (go_at_call 68; refine (BC _).mono ?_; rintro e w' ⟨rfl, rfl⟩)
    go_ret
    exact NO HE.out (by decide) (Below.refl _ _)
  | true =>
  cases hm : money n with
  | false =>
    have HE : Hid (moveE l c y n = 1) := by unfold Hid moveE; rw [if_pos (by simp [hm])]
    rw [hb] at BC
    rw [hm] at MC
    clear hb hm
    go_enter Tryz.func29, Tryz.ntmps29
    go_wp2_with (first
      | (go_at_call 68; refine (BC _).mono ?_; rintro e w' ⟨rfl, rfl⟩)
      | (go_at_call 51; refine (MC _).mono ?_; rintro e w' ⟨rfl, rfl⟩))
    go_ret
    exact NO HE.out (by decide) (Below.refl _ _)
  | true =>
  have hm' : -100000000000 ≤ n ∧ n ≤ 100000000000 := by simpa [money] using hm
  have hg := g.get c y
  have hsu := g.sum
  have hge := R.get c y
  have hse := R.sum
  have GC := fun (W : World) (hW : Below w.heap.size w W) => buckGet_calls b r c y h W (hs.of_below hW) hp
  have TC := fun (W : World) (hW : Below w.heap.size w W) => buckTotal_calls b r h W (hs.of_below hW) hp (by omega) (fun x hx => mem_len g.mon x (R.mem.1 hx))
  have CC := fun (W : World) (hW : Below w.heap.size w W) => buckClone_calls b r h W (hs.of_below hW) hp (by omega)
  have HM : Hid (moveE l c y n = if (money (getB l c y + n) && money (sumC l + n)) = false then 6 else if 12 < (setB l c y (getB l c y + n)).length then 5 else 0) := by
    unfold Hid moveE; rw [if_neg (by simp [hb, hm])]
  have HR : Hid (moveE l c y n = 0 → moveR l c y n = setB l c y (getB l c y + n)) := fun h => by unfold moveR; rw [if_pos h]
  have SC := fun (b' : Nat) (k : Hp) (W : World) (ks : k.sub W) (kp : PtB k b' r) => buckSet_calls b' r c y (getB l c y + n) k W ks kp R.dist (by omega)
  have HSL := Lib.hid (R.setLen c y (getB l c y + n))
  have HG : Hid (money (getB l c y + n) = true → (setB l c y (getB l c y + n)).length ≤ 12 → RawR (rawSet r c y (getB l c y + n)) (setB l c y (getB l c y + n))) := fun h1 h2 => R.set (g.setB hb h1 h2)
  rw [hge] at GC
  rw [hse] at TC
  rw [hb] at BC
  rw [hm] at MC
  clear hb hm hge hse
  generalize getB l c y = v at *
  generalize sumC l = s at *
  generalize setB l c y (v + n) = L at *
  generalize rawSet r c y (v + n) = RL at *
  have M1 := fun W : World => money_calls (v + n) W
  have M2 := fun W : World => money_calls (s + n) W
  go_enter Tryz.func29, Tryz.ntmps29
  go_wp2_with fail
  refine (BC _).mono ?_
  rintro e w' ⟨rfl, rfl⟩
  go_wp2_with fail
  refine (MC _).mono ?_
  rintro e w' ⟨rfl, rfl⟩
  go_wp2_with fail
  refine (GC _ (Below.refl _ _)).mono ?_
  rintro e w1 ⟨rfl, b1⟩
  cases h1 : money (v + n) with
  | false =>
    have HE : Hid (moveE l c y n = 6) := by unfold Hid; rw [HM.out, h1]; rfl
    rw [h1] at M1
    clear h1
    go_wp2_with fail
    refine (M1 _).mono ?_
    rintro e w' ⟨rfl, rfl⟩
    go_wp2
    go_ret
    exact NO HE.out (by decide) b1
  | true =>
  have HG1 := Lib.hid (HG.out h1)
  have HM1 : Hid (moveE l c y n = if money (s + n) = false then 6 else if 12 < L.length then 5 else 0) := by unfold Hid; rw [HM.out, h1]; rfl
  rw [h1] at M1
  clear h1
  go_wp2_with fail
  refine (M1 _).mono ?_
  rintro e w' ⟨rfl, rfl⟩
  go_wp2_with fail
  refine (TC _ b1).mono ?_
  rintro e w2 ⟨rfl, b2⟩
  have b12 := b1.trans (b2.mono b1.size)
  cases h2 : money (s + n) with
  | false =>
    have HE : Hid (moveE l c y n = 6) := by unfold Hid; rw [HM1.out, h2]; rfl
    rw [h2] at M2
    clear h2
    go_wp2_with fail
    refine (M2 _).mono ?_
    rintro e w' ⟨rfl, rfl⟩
    go_wp2
    go_ret
    exact NO HE.out (by decide) b12
  | true =>
  have HM2 : Hid (moveE l c y n = if 12 < L.length then 5 else 0) := by unfold Hid; rw [HM1.out, h2]; rfl
  rw [h2] at M2
  clear h2
  go_wp2_with fail
  refine (M2 _).mono ?_
  rintro e w' ⟨rfl, rfl⟩
  go_wp2_with fail
  refine (CC _ b12).mono ?_
  rintro e w3 ⟨h3, b3, rfl, p3, u3⟩
  have b13 := b12.trans (u3.below.mono b12.size)
  go_wp2_with fail
  refine (SC b3 h3 w3 u3.sub p3).mono ?_
  rintro e w5 ⟨h5, rfl, p5, u5⟩
  have u35 : Upd Hp.none h5 w w5 := (u3.before b12).trans u5
  obtain ⟨A5, c5, k5, g5, o5, _⟩ := p5.one u35.sub
  have gb := (u35.below.cell (p := ⟨b, 0, none⟩) hlt).trans hc
  have gf := (u35.below.frozen (p := ⟨b, 0, none⟩) hlt).trans (hf 0)
  by_cases h12 : 12 < L.length
  · have HE : Hid (moveE l c y n = 5) := by unfold Hid; rw [HM2.out, if_pos h12]
    have TN := buckTakeNo_calls b b3 _ _ _ w5 g5 (by rw [HSL.out]; exact h12)
    clear HR HM2 h12
    go_wp2_with fail
    refine TN.mono ?_
    rintro e w' ⟨rfl, rfl⟩
    go_wp2
    go_ret
    exact NO HE.out (by decide) u35.below
  · have HE : Hid (moveE l c y n = 0) := by unfold Hid; rw [HM2.out, if_neg h12]
    have HL := Lib.hid (HR.out HE.out)
    have HG2 := Lib.hid (HG1.out (by omega))
    have TY := buckTake_calls b b3 _ _ _ _ _ _ w5 gb gf g5 (by rw [HSL.out]; exact h12)
    clear HR HM2 h12
    go_wp2_with fail
    refine TY.mono ?_
    rintro e w' ⟨rfl, rfl⟩
    obtain ⟨UF, hn3⟩ := Upd.field (v := .slice A5 RL.length c5) 0 hb0 hs (Hp.none_le _) (u35.weaken (Hp.del_le h5 b3))
    go_wp2
    go_ret
    exact ⟨_, RL, by rw [HE.out]; rfl, ⟨_, Hp.put_self, A5, c5, rfl, by rw [Hp.put_del hn3]; exact o5⟩, by rw [HL.out]; exact HG2.out, UF⟩
end Go.Proofs.YtnfedcaehkcffaaGreat
end
section
/- The walk of bucket.Reclass. -/
namespace Go.Proofs.YtnfedcaehkcffaaGreat
open Go.RowKit Go.Sl Go.Sort
set_option maxHeartbeats 4000000
set_option maxRecDepth 100000
theorem reclE_arg {l : List STri} {c y c2 y2 n : Int} (h : (bucketOk c y && (bucketOk c2 y2 && (money n && !decide (c = c2 ∧ y = y2)))) = false) : reclE l c y c2 y2 n = 1 := by unfold reclE; rw [if_pos h]
end Go.Proofs.YtnfedcaehkcffaaGreat
end
section
/- The calls of chapter 10 in a body's own memory; law10.wakes. -/
namespace Go.Proofs.YtnfedcaehkcffaaGreat
open Go.RowKit Go.Sl
set_option maxHeartbeats 1000000
set_option maxRecDepth 100000
def Regi (h : Hp) (b : Nat) (l : List STri) : Prop := ∃ r, PtB h b r ∧ RawR r l
theorem Regi.good {h : Hp} {b : Nat} {l : List STri} (S : Regi h b l) : GoodR l := S.elim fun _ x => x.2.good
section
variable {w0 w : World} {L : List Hp} {h : Hp} {b : Nat} {l : List STri}
theorem Regi.new (E : Env w0 w L) : Calls Tryz.prog 23 #[] w fun e w' => ∃ h b, e = .returned (.pointer (some ⟨b, 0, none⟩)) ∧ Regi h b [] ∧ Env w0 w' (L ++ [h]) :=
  (buckNew_calls w).mono fun _ _ ⟨h, b, he, hp, u⟩ => ⟨h, b, he, ⟨[], hp, RawR.nil⟩, E.new u⟩
theorem Regi.clone (S : Regi h b l) (E : Env w0 w L) (i : Nat) (hi : L[i]? = some h) :
    Calls Tryz.prog 71 #[.pointer (some ⟨b, 0, none⟩)] w fun e w' => ∃ h' b', e = .returned (.pointer (some ⟨b', 0, none⟩)) ∧ Regi h' b' l ∧ Env w0 w' (L ++ [h']) := by
  obtain ⟨r, hp, R⟩ := S
  exact (buckClone_calls b r h w (E.sub i hi) hp (by have := R.len; have := R.good.len; omega)).mono fun _ _ ⟨h', b', he, hp', u⟩ => ⟨h', b', he, ⟨r, hp', R⟩, E.new u⟩
theorem Regi.rows (S : Regi h b l) (E : Env w0 w L) (i : Nat) (hi : L[i]? = some h) (n : Nat) (hn : l.length = n) :
    Calls Tryz.prog 20 #[.pointer (some ⟨b, 0, none⟩)] w fun e w' => ∃ C cap h', e = .returned (.slice C n cap) ∧ Ow kTri h' C cap l ∧ Env w0 w' (L ++ [h']) := by
  obtain ⟨r, hp, R⟩ := S
  subst hn
  refine (buckRows_calls b r h w (E.sub i hi) hp R.dist (by have := R.len; have := R.good.len; omega)).mono ?_
  rintro _ _ ⟨C, cap, h', he, ho, u⟩
  rw [R.eq] at ho
  exact ⟨C, cap, h', by rw [← R.len]; exact he, ho, E.new u⟩
theorem Regi.get (S : Regi h b l) (E : Env w0 w L) (i : Nat) (hi : L[i]? = some h) (c y : Int) {v : Int} (hv : getB l c y = v) :
    Calls Tryz.prog 69 #[.pointer (some ⟨b, 0, none⟩), .int .i64 c, .int .i64 y] w fun e w' => e = .returned (.int .i64 v) ∧ Env w0 w' L := by
  obtain ⟨r, hp, R⟩ := S
  refine (buckGet_calls b r c y h w (E.sub i hi) hp).mono ?_
  rintro _ _ ⟨he, hb⟩
  exact ⟨by rw [← hv, ← R.get]; exact he, E.below hb⟩
theorem Regi.total (S : Regi h b l) (E : Env w0 w L) (i : Nat) (hi : L[i]? = some h) {v : Int} (hv : sumC l = v) :
    Calls Tryz.prog 70 #[.pointer (some ⟨b, 0, none⟩)] w fun e w' => e = .returned (.int .i64 v) ∧ Env w0 w' L := by
  obtain ⟨r, hp, R⟩ := S
  refine (buckTotal_calls b r h w (E.sub i hi) hp (by have := R.len; have := R.good.len; omega) (fun x hx => mem_len R.good.mon x (R.mem.1 hx))).mono ?_
  rintro _ _ ⟨he, hb⟩
  exact ⟨by rw [← hv, ← R.sum]; exact he, E.below hb⟩
theorem Regi.move (S : Regi h b l) (E : Env w0 w L) (i : Nat) (hi : L[i]? = some h) (c y n : Int) {q : Int} {ys : List STri} (hE : moveE l c y n = q ∧ moveR l c y n = ys) :
    Calls Tryz.prog 29 #[.pointer (some ⟨b, 0, none⟩), .int .i64 c, .int .i64 y, .int .i64 n] w fun e w' => ∃ h', e = .returned (.int .i64 q) ∧ Regi h' b ys ∧ Env w0 w' (L.set i h') := by
  obtain ⟨r, hp, R⟩ := S
  obtain ⟨h1, h2⟩ := hE
  subst h1 h2
  exact (buckMove_calls b r l c y n h w (E.sub i hi) hp R).mono fun _ _ ⟨h', r', he, hp', R', u⟩ => ⟨h', he, ⟨r', hp', R'⟩, E.upd i hi u⟩
end
end Go.Proofs.YtnfedcaehkcffaaGreat
end
section
/- slices.Clone over int. -/
namespace Go.Proofs.YtnfedcaehkcffaaGreat
open Go.RowKit Go.Sl
set_option maxHeartbeats 1000000
set_option maxRecDepth 100000
theorem clone_int (A : Option Addr) (ca : Nat) (xs : List Int) (h : Hp) (w : World) (hs : h.sub w) (sx : Sl kInt h A ca xs) (hl : xs.length ≤ 1000000) :
    Calls Tryz.prog 102 #[.slice A xs.length ca] w fun e w' => ∃ C cap h', e = .returned (.slice C xs.length cap) ∧ Ow kInt h' C cap xs ∧ Upd Hp.none h' w w' := by
  cases A with
  | none =>
    have h0 := sx.nil rfl
    have h1 := sx.le
    obtain rfl : xs = [] := List.eq_nil_of_length_eq_zero (by omega)
    subst h0
    have hn : ∀ W, (binOp .eql 35 (.slice none 0 0) (.slice none 0 0)).run Tryz.prog W = .ok (.bool true) W := fun W => Lib.run_eql_slice_nil_nil W _ _ Tryz.underlying35
    go_enter Tryz.func102, Tryz.ntmps102
    go_wp2
    go_ret
    exact ⟨none, 0, Hp.none, rfl, Ow.none _ _, Upd.of_below (Below.refl _ _)⟩
  | some ad =>
    have hn : ∀ W, (binOp .eql 35 (.slice (some ad) xs.length ca) (.slice none 0 0)).run Tryz.prog W = .ok (.bool false) W := fun W => Lib.run_eql_slice_some_nil W _ _ _ Tryz.underlying35
    go_enter Tryz.func102, Tryz.ntmps102
    go_wp2_with (at_builtin; refine wpList_clone Tryz.underlying35 info_int (by rfl) (by rfl) rfl xs.length ca (by rfl) (by rfl) rfl kInt_flat sx (hs.of_below (by repeat (first | exact Below.refl _ _ | apply Below.drew | refine Below.alloc ?_ (by simp) _))) (by omega) (by omega) ?_; intro C' cap' w1 h1 ho1 hu1)
    go_ret
    exact ⟨C', cap', h1, rfl, ho1, hu1.before (by repeat (first | exact Below.refl _ _ | apply Below.drew | refine Below.alloc ?_ (by simp) _))⟩
end Go.Proofs.YtnfedcaehkcffaaGreat
end
