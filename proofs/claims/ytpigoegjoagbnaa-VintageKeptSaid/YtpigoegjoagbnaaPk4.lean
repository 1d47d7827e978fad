/- Walks and plain facts that the laws of this seat share, part 4: contracts of functions, each said at its theorem. -/
import Derived.Test.YtpigoegjoagbnaaPk3
import Derived.Deep.QuietTactic
import Derived.Deep.RegionHeld3
import Derived.Deep.DeepCutAuto
import Derived.Deep.RegionLaw
import Derived.OwnWalk
import Derived.WalkMore
import Derived.ScopeJumps
import Derived.Scope
section
/- Small structs of a body's own, each in a block of its own. No program is named here. -/
namespace Go.Sl
open Go Go.RowKit
section
variable {h : Hp} {w0 w : World} {l : List Hp} {b : Nat} {cs : List Value} {T : TypeId}
abbrev Hp.box (b : Nat) (cs : List Value) (T : TypeId) : Hp := Hp.one b (.cells cs.toArray T (0, 0))
theorem Hp.none_put (b : Nat) (o : Obj) : Hp.none.put b o = Hp.one b o := by funext q; simp [Hp.put, Hp.one, Hp.none]
theorem Upd.oneSet (s : (Hp.box b cs T).sub w) (j : Nat) (v : Value) : Upd (Hp.box b cs T) (Hp.box b (cs.set j v) T) w (w.setCell ⟨b, j, .none⟩ v) := by
  have h := (Upd.field (h := Hp.box b cs T) (hr := Hp.none) (r' := Hp.none) (w1 := w) (v := v) j (Hp.one_self b _) s (Hp.none_le _) (Upd.of_below (Below.refl _ _))).1
  rw [Hp.none_put] at h; exact h
theorem Env.weak {k : Hp} (E : Env w0 w l) (i : Nat) (hi : l[i]? = some h) (hk : k.le h) : Env w0 w (l.set i k) := E.upd i hi ⟨rfl, rfl, rfl, Nat.le_refl _, fun _ _ _ => rfl, (E.sub i hi).le hk, fun q hq => .inl fun hn => by
  cases hh : k q with
  | none => exact hq hh
  | some o => rw [hk q o hh] at hn; cases hn⟩
/-- A field is stored. -/
theorem Env.cellset (E : Env w0 w l) (i : Nat) (hi : l[i]? = some (Hp.box b cs T)) (j : Nat) (v : Value) : Env w0 (w.setCell ⟨b, j, .none⟩ v) (l.set i (Hp.box b (cs.set j v) T)) := E.upd i hi (Upd.oneSet (E.sub i hi) j v)
theorem Env.cell (E : Env w0 w l) (i : Nat) (hi : l[i]? = some (Hp.box b cs T)) (j : Nat) {v : Value} (hv : cs[j]? = some v) : w.cell? ⟨b, j, .none⟩ = some v := by
  rw [cell_of_row w b j _ _ _ (E.sub i hi b _ (Hp.one_self b _))]; simpa using hv
theorem Env.free (E : Env w0 w l) (i : Nat) (hi : l[i]? = some (Hp.box b cs T)) (n : Nat) : w.frozen? ⟨b, n, .none⟩ = false := frozen_of_row w b n _ T (E.sub i hi b _ (Hp.one_self b _))
end
theorem Env.swap2 {w0 w : World} {a b c d : Hp} (E : Env w0 w [a, b, c, d]) : Env w0 w [a, b, d, c] :=
  ⟨⟨E.own.1, fun k hk => E.own.2.1 k (by simp at hk ⊢; rcases hk with h | h | h <;> simp [h]), E.own.2.2.1, fun k hk => E.own.2.2.2.1 k (by simp at hk ⊢; rcases hk with h | h <;> simp [h]), E.own.2.2.2.2.swap⟩, fun h m => E.fr h (by simp at m ⊢; rcases m with h | h | h | h <;> simp [h]), E.low⟩
theorem Below.drN {B : Nat} {a w : World} (h : Below B a w) (n : Nat) : Below B a (w.drewN n) := h.trans ⟨rfl, rfl, rfl, Nat.le_refl _, fun _ _ => rfl⟩
/-- What was made since the start. -/
theorem Env.made {w0 w : World} {l : List Hp} {h : Hp} (E : Env w0 w l) (m : h ∈ l) : Upd Hp.none h w0 w := ⟨E.low.os, E.low.tape, E.low.output, E.low.size, fun q hq _ => E.low.block q hq, E.own.mem h m, fun q hq => .inr (E.fr h m q hq)⟩
/-- A call that turns nothing, in a quiet region: the first one of a walk, or a later one. -/
theorem quiet_one {P : Program} {f : FuncId} {args : Array Value} {W : World} {n : Nat} {v : Value} (h : Calls P f args (W.drewN n) fun e w' => e = .returned v ∧ W.drewN n = w') :
    Calls P f args (W.drewN n) fun e w' => e = .returned v ∧ ∃ m, w' = W.drewN m := h.mono fun _ _ ⟨a, b⟩ => ⟨a, n, b.symm⟩
theorem quiet_more {P : Program} {f : FuncId} {args : Array Value} {W : World} {k n : Nat} {v : Value} (h : Calls P f args (W.drewN (k + n)) fun e w' => e = .returned v ∧ W.drewN (k + n) = w') :
    Calls P f args (W.drewN (k + n)) fun e w' => e = .returned v ∧ ∃ m, w' = W.drewN (k + m) := h.mono fun _ _ ⟨a, b⟩ => ⟨a, n, b.symm⟩
end Go.Sl
end
section
/- Plain facts of lists and registers, a register's own struct. No program is named here. -/
namespace Go.Sl
open Go Go.RowKit
theorem find_hit {κ α : Type} [DecidableEq κ] {key : α → κ} {k : κ} {l : List α} {j : Nat} {x : α} (h : ∀ y ∈ l.take j, key y ≠ k) (hx : l[j]? = some x) (hk : key x = k) : find key k l = some x := by
  have hj := List.getElem?_eq_some_iff.1 hx
  have e : l = l.take j ++ x :: l.drop (j + 1) := by
    have := List.take_append_drop j l
    rw [List.drop_eq_getElem_cons hj.1, hj.2] at this; exact this.symm
  unfold find
  rw [e, List.find?_append]
  have h2 : (l.take j).find? (fun y => decide (key y = k)) = none := by
    rw [List.find?_eq_none]; intro y hy; simpa using h y hy
  rw [h2]; simp [hk]
theorem find_miss {κ α : Type} [DecidableEq κ] {key : α → κ} {k : κ} {l : List α} (h : ∀ y ∈ l, key y ≠ k) : find key k l = none := by
  unfold find; rw [List.find?_eq_none]; intro y hy; simpa using h y hy
theorem drop_next {α : Type} {xs : List α} {i : Nat} {x : α} (h : Hid (xs[i]? = some x)) : xs.drop i = x :: xs.drop (i + 1) := by
  have h2 := List.getElem?_eq_some_iff.1 h.out
  rw [List.drop_eq_getElem_cons h2.1, h2.2]
/-- A register's own struct. -/
def kReg : Kd (List STri) where
  size := 1
  K h l cs := ∃ A cap, cs = [.slice A l.length cap] ∧ Ow kTri h A cap l
  pos := by decide
  len := by rintro h x cs ⟨A, cap, rfl, _⟩; rfl
  one := by rintro h x cs ⟨A, cap, rfl, _⟩ u hu; simp at hu; subst hu; rfl
  mono := by rintro h h' x cs ⟨A, cap, e, s⟩ l; exact ⟨A, cap, e, s.mono l⟩
theorem Pt.reg {T : TypeId} {h : Hp} {b : Nat} {l : List STri} {w : World} (p : Pt kReg T h b l) (s : h.sub w) : ∃ A ca, w.cell? ⟨b, 0, none⟩ = some (.slice A l.length ca) ∧ Sl kTri h A ca l := by
  obtain ⟨cs, hb, A, ca, rfl, ow⟩ := p
  exact ⟨A, ca, by rw [cell_of_row w b 0 _ _ _ (s b _ hb)]; rfl, ow.sl.mono (Hp.del_le _ _)⟩
theorem sumC_snoc (l : List STri) (x : STri) : sumC (l ++ [x]) = sumC l + x.c := by simp [sumC]
end Go.Sl
end
section
/- The walks of vintage.New, Rows, Clone, Left, right, and of the functions that Add and Take hand on. -/
namespace Go.Sl
def cfVint (x y : STri) : Int := orI (cmpI x.b y.b) (cmpI x.a y.a)
theorem lt_vint (x y : STri) : Go.Proofs.ltOf cfVint x y = ordPair.lt (vkey x) (vkey y) := by
  unfold Go.Proofs.ltOf cfVint orI cmpI
  simp only [ordPair, vkey]
  rw [decide_eq_decide]
  split <;> split <;> (try split) <;> (try split) <;> omega
end Go.Sl
namespace Go.Proofs.Ytpigoegjoagbnaa
open Go.RowKit Go.Sl Go.Sort
set_option maxHeartbeats 2000000
set_option maxRecDepth 100000
abbrev PtV (h : Hp) (b : Nat) (r : List STri) : Prop := Pt (kOne kTri) 67 h b r
theorem vintNew_calls (w : World) : Calls Try.prog 12 #[] w fun e w' => ∃ h b, e = .returned (.pointer (some ⟨b, 0, none⟩)) ∧ PtV h b [] ∧ Upd Hp.none h w w' := by
  go_enter Try.func12, Try.ntmps12
  go_wp2
  go_ret
  exact ⟨_, _, rfl, ⟨_, Hp.one_self _ _, none, 0, rfl, Ow.none _ _⟩, Upd.newBlock w _⟩
theorem vintRows_calls (b : Nat) (r : List STri) (h : Hp) (w : World) (hs : h.sub w) (p : PtV h b r) (hl : r.length ≤ 1000000) :
    Calls Try.prog 15 #[.pointer (some ⟨b, 0, none⟩)] w fun e w' => ∃ C cap h', e = .returned (.slice C r.length cap) ∧ Ow kTri h' C cap r ∧ Upd Hp.none h' w w' := by
  obtain ⟨A, ca, hb, hc, ow, _⟩ := p.one hs
  have CC := clone_vint A ca r (h.del b) w (hs.del b) ow.sl hl
  go_enter Try.func15, Try.ntmps15
  go_wp2_with fail
  refine CC.mono ?_
  rintro e w1 ⟨C, cap, h1, rfl, o1, u1⟩
  go_wp2
  go_ret
  exact ⟨C, cap, h1, rfl, o1, u1⟩
theorem vintClone_calls (b : Nat) (r : List STri) (h : Hp) (w : World) (hs : h.sub w) (p : PtV h b r) (hl : r.length ≤ 1000000) :
    Calls Try.prog 22 #[.pointer (some ⟨b, 0, none⟩)] w fun e w' => ∃ h' b', e = .returned (.pointer (some ⟨b', 0, none⟩)) ∧ PtV h' b' r ∧ Upd Hp.none h' w w' := by
  have CC := vintRows_calls b r h w hs p hl
  go_enter Try.func22, Try.ntmps22
  go_wp2_with fail
  refine CC.mono ?_
  rintro e w1 ⟨C, cap, h1, rfl, o1, u1⟩
  go_wp2
  go_ret
  exact ⟨_, _, rfl, ⟨_, Hp.put_self, C, cap, rfl, by rw [Hp.put_del (u1.sub.free (Nat.le_refl _))]; exact o1⟩, u1.put⟩
theorem vintCmp_calls (x y : STri) (W : World) : Calls Try.prog 43 #[.agg #[.int .i64 x.a, .int .i64 x.b, .int .i64 x.c], .agg #[.int .i64 y.a, .int .i64 y.b, .int .i64 y.c]] W fun e W' => e = .returned (.int .i64 (cfVint x y)) ∧ ∃ q os', W' = grow (W.drewN q) os' := by
  have HC : Hid (cfVint x y = orI (cmpI x.b y.b) (cmpI x.a y.a)) := rfl
  generalize cfVint x y = r at *
  have C1 := fun W : World => compare_calls x.b y.b W
  have C2 := fun W : World => compare_calls x.a y.a W
  generalize cmpI x.b y.b = a at *
  generalize cmpI x.a y.a = b at *
  go_enter Try.func43, Try.ntmps43
  go_wp2
  go_region_held3 (fun w' => w'.cell? ⟨W.heap.size, 0, none⟩ = some (.int .i64 x.a) ∧ w'.cell? ⟨W.heap.size, 1, none⟩ = some (.int .i64 x.b) ∧ w'.cell? ⟨W.heap.size + 1, 0, none⟩ = some (.int .i64 y.a) ∧ w'.cell? ⟨W.heap.size + 1, 1, none⟩ = some (.int .i64 y.b))
    (go_keep)
    (first
      | (go_at_call 45; ((with_reducible refine (C1 _).mono ?_)); rintro e w' ⟨rfl, rfl⟩)
      | (go_at_call 45; ((with_reducible refine (C2 _).mono ?_)); rintro e w' ⟨rfl, rfl⟩)
      | (go_at_call 44; have OC := fun (V : World) (h0 : V.heap[W.heap.size + 1 + 1]? = some (.cells #[.int .i64 a, .int .i64 b] 3)) => or_calls (W.heap.size + 1 + 1) a b V (by rw [cell_of_row V _ 0 _ _ _ h0]; rfl) (by rw [cell_of_row V _ 1 _ _ _ h0]; rfl); refine (OC _ (by rw [show ∀ V : World, V.drew.heap = V.heap from fun _ => rfl]; exact heap_new_at (by simp))).mono ?_; rintro e w' ⟨rfl, rfl⟩)
      | fail)
  go_wp2
  go_ret
  exact ⟨by rw [HC.out]; rfl, 1, _, by rw [alloc_eq_grow, alloc_eq_grow, alloc_eq_grow]; simp only [grow_grow, drew_grow]; rfl⟩
theorem vintSame_calls (x : STri) (b5 b6 : Nat) (c y : Int) (W : World) (c5 : W.cell? ⟨b5, 0, none⟩ = some (.int .i64 c)) (c6 : W.cell? ⟨b6, 0, none⟩ = some (.int .i64 y)) :
    Calls Try.prog 39 #[.agg #[.int .i64 x.a, .int .i64 x.b, .int .i64 x.c], .pointer (some ⟨b5, 0, none⟩), .pointer (some ⟨b6, 0, none⟩)] W fun e W' => e = .returned (.bool (isV c y x)) ∧ Below W.heap.size W W' := by
  have c5a := fun o => (cell_alloc (o := o) (World.block_lt_of_cell? _ _ c5)).trans c5
  have c6a := fun o => (cell_alloc (o := o) (World.block_lt_of_cell? _ _ c6)).trans c6
  have HI : isV c y x = decide (x.a = c ∧ x.b = y) := rfl
  generalize isV c y x = r at *
  by_cases h1 : x.a = c
  · have t1 : (x.a == c) = true := by simpa using h1
    by_cases h2 : x.b = y
    · have t2 : (x.b == y) = true := by simpa using h2
      have hr : Hid (r = true) := by unfold Hid; rw [HI]; simp [h1, h2]
      clear HI h1 h2
      go_enter Try.func39, Try.ntmps39
      go_wp2
      go_ret
      exact ⟨by rw [hr.out]; rfl, (by repeat (first | exact Below.refl _ _ | apply Below.drew | refine Below.alloc ?_ (by simp) _))⟩
    · have t2 : (x.b == y) = false := by simpa using h2
      have hr : Hid (r = false) := by unfold Hid; rw [HI]; simp [h2]
      clear HI h1 h2
      go_enter Try.func39, Try.ntmps39
      go_wp2
      go_ret
      exact ⟨by rw [hr.out]; rfl, (by repeat (first | exact Below.refl _ _ | apply Below.drew | refine Below.alloc ?_ (by simp) _))⟩
  · have t1 : (x.a == c) = false := by simpa using h1
    have hr : Hid (r = false) := by unfold Hid; rw [HI]; simp [h1]
    clear HI h1
    go_enter Try.func39, Try.ntmps39
    go_wp2
    go_ret
    exact ⟨by rw [hr.out]; rfl, (by repeat (first | exact Below.refl _ _ | apply Below.drew | refine Below.alloc ?_ (by simp) _))⟩
theorem vintLeft_calls (b : Nat) (r : List STri) (h : Hp) (w : World) (hs : h.sub w) (p : PtV h b r) (hl : r.length ≤ 1000) (hm : ∀ b ∈ r, -100000000000 ≤ b.c ∧ b.c ≤ 100000000000) :
    Calls Try.prog 19 #[.pointer (some ⟨b, 0, none⟩)] w fun e w' => e = .returned (.int .i64 (sumC r)) ∧ Below w.heap.size w w' := by
  obtain ⟨A, ca, _, hc, ow, _⟩ := p.one hs
  have sx := ow.sl
  have m1 := sx.small
  have HM := Lib.hid hm
  clear hm
  go_enter Try.func19, Try.ntmps19
  go_wp2
  go_loopw [3, 11] (fun s i wr => ∃ (j : Nat), j ≤ r.length ∧ i = .int .i64 j ∧ s = .int .i64 (sumC (r.take j)) ∧ Below w.heap.size w wr) (fun _ i _ => r.length - (intOf i).toNat)
  case atStart => exact ⟨0, by omega, rfl, rfl, Below.refl _ _⟩
  case round =>
    obtain ⟨j, hj, rfl, rfl, hb⟩ := hrel
    by_cases hlt : j < r.length
    · obtain ⟨x, hx⟩ := some_of_lt hlt
      obtain ⟨b1, o1, rfl, c1, c2, c3⟩ := sx.tri ((hs.del b).of_below hb) hx
      have i1 : (0 : Int) ≤ (j : Int) := by omega
      have i2 : (j : Int) < (r.length : Int) := by omega
      have q1 := HM.out x (List.mem_of_getElem? hx.out)
      have q2 := sumC_bd (m := 100000000000) (by omega) (r.take j) fun b hb => HM.out b (List.mem_of_mem_take hb)
      rw [List.length_take] at q2
      obtain ⟨q3, q4⟩ : -1000000000000000 ≤ sumC (r.take j) ∧ sumC (r.take j) ≤ 1000000000000000 := by omega
      clear q2
      have HT : Hid (sumC (r.take (j + 1)) = sumC (r.take j) + x.c) := by unfold Hid; rw [take_next hx, sumC_snoc]
      go_wp2
      go_roundw
      case rel => exact ⟨j + 1, by omega, by go_num, by rw [HT.out], hb.alloc hb.size _⟩
      case measure => simp [intOf]; omega
    · obtain rfl : j = r.length := by omega
      rw [List.take_length]
      go_wp2
      go_ret
      exact ⟨rfl, hb⟩
theorem vintZero_calls (x : STri) (W : World) : Calls Try.prog 48 #[.agg #[.int .i64 x.a, .int .i64 x.b, .int .i64 x.c]] W fun e W' => e = .returned (.bool (zeroB x)) ∧ Below W.heap.size W W' := by
  have t : Hid ((x.c == 0) = zeroB x) := by unfold Hid zeroB; rw [Bool.eq_iff_iff]; simp
  go_enter Try.func48, Try.ntmps48
  go_wp2
  go_ret
  exact ⟨by rw [← t.out]; rfl, (by repeat (first | exact Below.refl _ _ | apply Below.drew | refine Below.alloc ?_ (by simp) _))⟩
theorem ret_bool' {b b' : Bool} (h : b = true ↔ b' = true) : Ending.returned (.bool b) = .returned (.bool b') := by rw [Bool.eq_iff_iff.2 h]
theorem vintRight_calls (c y : Int) (w : World) : Calls Try.prog 40 #[.int .i64 c, .int .i64 y] w fun e w' => e = .returned (.bool (vOk c y)) ∧ w = w' := by
  have HB : Hid (vOk c y = decide (0 ≤ c ∧ c ≤ 99 ∧ c ≤ y ∧ y ≤ 198)) := rfl
  go_enter Try.func40, Try.ntmps40
  go_wp2
  all_goals
    go_ret
    exact ⟨by rw [HB.out]; exact ret_bool' (by simp; omega), rfl⟩
end Go.Proofs.Ytpigoegjoagbnaa
end
section
/- The walk of vintage.Add. -/
namespace Go.Proofs.Ytpigoegjoagbnaa
open Go.RowKit Go.Sl Go.Sort
set_option maxHeartbeats 4000000
set_option maxRecDepth 100000
/-- What Add and Take return. -/
def VAns (b : Nat) (q : Int) (L : List STri) (h : Hp) (w : World) (e : Ending) (w' : World) : Prop := ∃ h', e = .returned (.int .i64 q) ∧ PtV h' b L ∧ Upd h h' w w'
theorem VAns.no {b : Nat} {l L : List STri} {h : Hp} {w w' : World} {q q' : Int} (hq : q' = q) (hL : L = l) (hp : PtV h b l) (hs : h.sub w) (hb : Below w.heap.size w w') :
    VAns b q' L h w (.returned (.int .i64 q)) w' := ⟨h, by rw [hq], by rw [hL]; exact hp, Upd.stay hs hb⟩
theorem vAdd_no {l : List STri} {o e n q : Int} (h : vAddE l o e n = q) (h0 : q ≠ 0) : vAdd l o e n = l := by unfold vAdd; rw [if_neg (by rw [h]; exact h0)]
theorem vintAdd_calls (b : Nat) (l : List STri) (o e n : Int) (h : Hp) (w : World) (hs : h.sub w) (hp : PtV h b l) (g : GoodV l) :
    Calls Try.prog 14 #[.pointer (some ⟨b, 0, none⟩), .int .i64 o, .int .i64 e, .int .i64 n] w (VAns b (vAddE l o e n) (vAdd l o e n) h w) := by
  obtain ⟨A, ca, hb, hc, ow, hf⟩ := hp.one hs
  have hlt : b < w.heap.size := World.block_lt_of_cell? _ _ hc
  have lm := ow.small
  have gl := g.len
  have EW := ((Env.start w).alloc (.cells #[.int .i64 o] 3)).alloc (.cells #[.int .i64 e] 3)
  simp at EW
  have hcE := (EW.low.cell (p := ⟨b, 0, none⟩) hlt).trans hc
  have eg : ∀ args w, (callFunc 39 args).run Try.prog w = .ok (.enter 39 args) w := enters_of Try.func39 (by kernel_rfl) rfl
  have eg2 : ∀ args w, (callFunc 43 args).run Try.prog w = .ok (.enter 43 args) w := enters_of Try.func43 (by kernel_rfl) rfl
  have IC := fun (W : World) (E : Env w W [Hp.box w.heap.size [.int .i64 o] 3, Hp.box (w.heap.size + 1) [.int .i64 e] 3]) =>
    indexFunc_vint 39 #[.pointer (some ⟨w.heap.size, 0, none⟩), .pointer (some ⟨w.heap.size + 1, 0, none⟩)] eg (isV o e) A ca l (h.del b) W ((hs.del b).of_below E.low) ow.sl
      (fun x W' hW => vintSame_calls x w.heap.size (w.heap.size + 1) o e W' ((E.below hW).cell 0 rfl 0 rfl) ((E.below hW).cell 1 rfl 0 rfl))
  rcases getV_idx g.rise o e with ⟨hi, ha, hv⟩ | ⟨i, x, hx, hi, hv, ha, hxa, hxb⟩
  · rw [hi] at IC
    clear hi
    have NO : ∀ {q : Int} {W : World}, vAddE l o e n = q → q ≠ 0 → Below w.heap.size w W → VAns b (vAddE l o e n) (vAdd l o e n) h w (.returned (.int .i64 q)) W := fun h1 h2 h3 => .no h1 (vAdd_no h1 h2) hp hs h3
    go_enter Try.func14, Try.ntmps14
    go_wp2_with fail
    refine (IC _ EW).mono ?_
    rintro e' w1 ⟨rfl, b1⟩
    have E1 := EW.below b1
    have hc1 := (E1.low.cell (p := ⟨b, 0, none⟩) hlt).trans hc
    have hf1 := (E1.low.frozen (p := ⟨b, 0, none⟩) hlt).trans (hf 0)
    have k0 := E1.cell 0 rfl 0 rfl
    have k1 := E1.cell 1 rfl 0 rfl
    cases h1 : vOk o e with
    | false =>
      have HE : Hid (vAddE l o e n = 1) := by unfold Hid vAddE; rw [if_pos (by simp [h1])]
      have RC := fun W : World => vintRight_calls o e W
      rw [h1] at RC
      clear h1
      go_wp2_with fail
      refine (RC _).mono ?_
      rintro e' w' ⟨rfl, rfl⟩
      go_wp2
      go_ret
      exact NO HE.out (by decide) E1.low
    | true =>
    have RC := fun W : World => vintRight_calls o e W
    rw [h1] at RC
    by_cases h2 : n < 1
    · have t2 : decide (n < 1) = true := by simpa using h2
      have HE : Hid (vAddE l o e n = 1) := by unfold Hid vAddE; rw [if_pos (by simp; intro _ _; omega)]
      clear h1 h2
      go_wp2_with fail
      refine (RC _).mono ?_
      rintro e' w' ⟨rfl, rfl⟩
      go_wp2
      go_ret
      exact NO HE.out (by decide) E1.low
    have t2 : decide (n < 1) = false := by simpa using h2
    cases h3 : money n with
    | false =>
      have HE : Hid (vAddE l o e n = 1) := by unfold Hid vAddE; rw [if_pos (by simp [h3])]
      have MC := fun W : World => money_calls n W
      rw [h3] at MC
      clear h1 h2 h3
      go_wp2_with fail
      refine (RC _).mono ?_
      rintro e' w' ⟨rfl, rfl⟩
      go_wp2_with fail
      refine (MC _).mono ?_
      rintro e' w' ⟨rfl, rfl⟩
      go_wp2
      go_ret
      exact NO HE.out (by decide) E1.low
    | true =>
    have MC := fun W : World => money_calls n W
    rw [h3] at MC
    have h3' : -100000000000 ≤ n ∧ n ≤ 100000000000 := by simpa [money] using h3
    have HM : Hid (vAddE l o e n = if money (sumC l + n) = false then 6 else if l.any (isV o e) = true then 0 else if 12 ≤ l.length then 5 else 0) := by
      unfold Hid vAddE; rw [if_neg (by simp [h1, h3]; omega)]
    have HR : Hid (vAddE l o e n = 0 → vAdd l o e n = putV l o e (getV l o e + n)) := fun h => by unfold vAdd; rw [if_pos h]
    have hs0 := sumC_pos g.lo
    have hs1 := g.mon
    have LC := fun (W : World) (hW : Below w.heap.size w W) => vintLeft_calls b l h W (hs.of_below hW) hp (by omega) (fun x hx => by have := g.lo x hx; have := le_sumC g.lo hx; omega)
    clear h1 h3
    generalize sumC l = s at *
    have M1 := fun W : World => money_calls (s + n) W
    cases h4 : money (s + n) with
    | false =>
      have HE : Hid (vAddE l o e n = 6) := by unfold Hid; rw [HM.out, h4]; rfl
      rw [h4] at M1
      clear h4
      go_wp2_with fail
      refine (RC _).mono ?_
      rintro e' w' ⟨rfl, rfl⟩
      go_wp2_with fail
      refine (MC _).mono ?_
      rintro e' w' ⟨rfl, rfl⟩
      go_wp2_with fail
      refine (LC _ E1.low).mono ?_
      rintro e' w2 ⟨rfl, b2⟩
      go_wp2_with fail
      refine (M1 _).mono ?_
      rintro e' w' ⟨rfl, rfl⟩
      go_wp2
      go_ret
      exact NO HE.out (by decide) (E1.below b2).low
    | true =>
    have HM2 : Hid (vAddE l o e n = if l.any (isV o e) = true then 0 else if 12 ≤ l.length then 5 else 0) := by unfold Hid; rw [HM.out, h4]; rfl
    rw [h4] at M1
    clear h4 HM
    go_wp2_with fail
    refine (RC _).mono ?_
    rintro e' w' ⟨rfl, rfl⟩
    go_wp2_with fail
    refine (MC _).mono ?_
    rintro e' w' ⟨rfl, rfl⟩
    go_wp2_with fail
    refine (LC _ E1.low).mono ?_
    rintro e' w2 ⟨rfl, b2⟩
    have E2 := E1.below b2
    have hc2 := (E2.low.cell (p := ⟨b, 0, none⟩) hlt).trans hc
    have hf2 := (E2.low.frozen (p := ⟨b, 0, none⟩) hlt).trans (hf 0)
    have k02 := E2.cell 0 rfl 0 rfl
    have k12 := E2.cell 1 rfl 0 rfl
    go_wp2_with fail
    refine (M1 _).mono ?_
    rintro e' w' ⟨rfl, rfl⟩
    clear RC MC LC M1 hc1 hf1 k0 k1 E1
    rw [ha] at HM2
    by_cases h5 : 12 ≤ l.length
    · have t5 : decide ((12 : Int) ≤ (l.length : Int)) = true := by simp; omega
      have HE : Hid (vAddE l o e n = 5) := by unfold Hid; rw [HM2.out, if_neg (by simp), if_pos h5]
      clear HM2 HR h5
      go_wp2
      go_ret
      exact NO HE.out (by decide) E2.low
    · have t5 : decide ((12 : Int) ≤ (l.length : Int)) = false := by simp; omega
      have HE : Hid (vAddE l o e n = 0) := by unfold Hid; rw [HM2.out, if_neg (by simp), if_neg h5]
      obtain ⟨hd, hso⟩ := isort_putV g.rise (n := n) ha
      have HRe : Hid (vAdd l o e n = isort ordPair vkey (l ++ [⟨o, e, n⟩])) := by unfold Hid; rw [HR.out HE.out, hv, Int.zero_add, hso]
      clear HM2 HR hso ha hv
      have hd1 := (hs.del b).of_below E2.low
      have hne : (h.del b) b = Option.none := Hp.del_self
      have hlt2 := World.block_lt_of_cell? _ _ hc2
      have hca2 : ∀ o, (w2.alloc o).cell? ⟨b, 0, none⟩ = some (.slice A l.length ca) := fun o => (cell_alloc hlt2).trans hc2
      have hfa2 : ∀ o, (w2.alloc o).frozen? ⟨b, 0, none⟩ = false := fun o => (frozen_alloc hlt2).trans hf2
      go_upto_region 11 with fail
      go_cut [8] (fun s wx => s = .int .i64 0 ∧ ∃ (C' : Option Addr) (cap' : Nat) (h3 : Hp), Ow kTri h3 C' cap' (l ++ [⟨o, e, n⟩]) ∧ h3 b = Option.none ∧ Upd h (h3.put b (.cells #[.slice C' (l.length + 1) cap'] 67 (0, 0))) w wx)
      case first =>
        go_region_law (refine step_app1f (h := h.del b) (xs := l) (A := A) (cap := ca) (y := ⟨o, e, n⟩) Try.underlying31 info_vint (by rfl) (by rfl) rfl l.length 1 (by rfl) (by rfl) rfl ow (hd1.of_below (by repeat (first | exact Below.refl _ _ | apply Below.drew | refine Below.alloc ?_ (by simp) _))) (heap_new_at (by simp)) rfl (by omega) (by omega) ?_; intro C' cap' w3 h3 ho3 hu3; have hcv : w3.cell? ⟨b, 0, none⟩ = _ := hu3.cell (hca2 _) hne; have hfv : w3.frozen? ⟨b, 0, none⟩ = _ := (hu3.frozen (p := ⟨b, 0, none⟩) (by have := World.block_lt_of_cell? _ _ (hca2 (.cells #[] 0)); simp at this ⊢; omega) hne).trans (hfa2 _))
        all_goals
          go_wp2_with fail
          go_meet
          have U0 : Upd (h.del b) h3 w w3 := hu3.before (by repeat (first | exact E2.low | apply Below.drew | refine Below.alloc ?_ E2.low.size _))
          obtain ⟨UF, hn3⟩ := Upd.field (v := .slice C' (l.length + 1) cap') 0 hb hs (Hp.le_refl _) U0
          exact ⟨rfl, C', cap', h3, ho3, hn3, UF⟩
      case rest =>
        obtain ⟨rfl, C', cap', h3, ho3, hn3, UF⟩ := hcut
        have hs3 : (h3.put b (.cells #[.slice C' (l.length + 1) cap'] 67 (0, 0))).sub _ := UF.sub
        have hd3 := hs3.del b
        rw [Hp.put_del hn3] at hd3
        have hc3 := hs3.cell (i := 0) (v := .slice C' (l.length + 1) cap') Hp.put_self rfl
        have SC := sortFunc_vint ordPair vkey cfVint lt_vint 43 eg2 vintCmp_calls C' cap' (l ++ [⟨o, e, n⟩]) h3 _ hd3 ho3 hd (by simp; omega)
        rw [show (l ++ [(⟨o, e, n⟩ : STri)]).length = l.length + 1 by simp] at SC
        have hil : Hid ((isort ordPair vkey (l ++ [(⟨o, e, n⟩ : STri)])).length = l.length + 1) := by unfold Hid; rw [(isort_perm hd).length_eq]; simp
        clear hc2 k02 k12 hca2 hfa2 hf2 E2 hd hd1 EW IC hcE ho3
        generalize isort ordPair vkey (l ++ [(⟨o, e, n⟩ : STri)]) = so at *
        go_wp2_with fail
        refine SC.mono ?_
        rintro e' w5 ⟨h5, rfl, o5, u5⟩
        rw [← Hp.put_del (b := b) (o := .cells #[.slice C' (l.length + 1) cap'] 67 (0, 0)) hn3] at u5
        obtain ⟨UR, hn5⟩ := Upd.rest Hp.put_self hs3 u5
        go_wp2
        go_ret
        exact ⟨_, by rw [HE.out]; rfl, ⟨_, Hp.put_self, C', cap', by rw [HRe.out, hil.out], by rw [Hp.put_del hn5, HRe.out]; exact o5⟩, UF.trans UR⟩
  · rw [hi] at IC
    clear hi
    have NO : ∀ {q : Int} {W : World}, vAddE l o e n = q → q ≠ 0 → Below w.heap.size w W → VAns b (vAddE l o e n) (vAdd l o e n) h w (.returned (.int .i64 q)) W := fun h1 h2 h3 => .no h1 (vAdd_no h1 h2) hp hs h3
    go_enter Try.func14, Try.ntmps14
    go_wp2_with fail
    refine (IC _ EW).mono ?_
    rintro e' w1 ⟨rfl, b1⟩
    have E1 := EW.below b1
    have hc1 := (E1.low.cell (p := ⟨b, 0, none⟩) hlt).trans hc
    have hf1 := (E1.low.frozen (p := ⟨b, 0, none⟩) hlt).trans (hf 0)
    have k0 := E1.cell 0 rfl 0 rfl
    have k1 := E1.cell 1 rfl 0 rfl
    cases h1 : vOk o e with
    | false =>
      have HE : Hid (vAddE l o e n = 1) := by unfold Hid vAddE; rw [if_pos (by simp [h1])]
      have RC := fun W : World => vintRight_calls o e W
      rw [h1] at RC
      clear h1
      go_wp2_with fail
      refine (RC _).mono ?_
      rintro e' w' ⟨rfl, rfl⟩
      go_wp2
      go_ret
      exact NO HE.out (by decide) E1.low
    | true =>
    have RC := fun W : World => vintRight_calls o e W
    rw [h1] at RC
    by_cases h2 : n < 1
    · have t2 : decide (n < 1) = true := by simpa using h2
      have HE : Hid (vAddE l o e n = 1) := by unfold Hid vAddE; rw [if_pos (by simp; intro _ _; omega)]
      clear h1 h2
      go_wp2_with fail
      refine (RC _).mono ?_
      rintro e' w' ⟨rfl, rfl⟩
      go_wp2
      go_ret
      exact NO HE.out (by decide) E1.low
    have t2 : decide (n < 1) = false := by simpa using h2
    cases h3 : money n with
    | false =>
      have HE : Hid (vAddE l o e n = 1) := by unfold Hid vAddE; rw [if_pos (by simp [h3])]
      have MC := fun W : World => money_calls n W
      rw [h3] at MC
      clear h1 h2 h3
      go_wp2_with fail
      refine (RC _).mono ?_
      rintro e' w' ⟨rfl, rfl⟩
      go_wp2_with fail
      refine (MC _).mono ?_
      rintro e' w' ⟨rfl, rfl⟩
      go_wp2
      go_ret
      exact NO HE.out (by decide) E1.low
    | true =>
    have MC := fun W : World => money_calls n W
    rw [h3] at MC
    have h3' : -100000000000 ≤ n ∧ n ≤ 100000000000 := by simpa [money] using h3
    have HM : Hid (vAddE l o e n = if money (sumC l + n) = false then 6 else if l.any (isV o e) = true then 0 else if 12 ≤ l.length then 5 else 0) := by
      unfold Hid vAddE; rw [if_neg (by simp [h1, h3]; omega)]
    have HR : Hid (vAddE l o e n = 0 → vAdd l o e n = putV l o e (getV l o e + n)) := fun h => by unfold vAdd; rw [if_pos h]
    have hs0 := sumC_pos g.lo
    have hs1 := g.mon
    have LC := fun (W : World) (hW : Below w.heap.size w W) => vintLeft_calls b l h W (hs.of_below hW) hp (by omega) (fun x hx => by have := g.lo x hx; have := le_sumC g.lo hx; omega)
    clear h1 h3
    generalize sumC l = s at *
    have M1 := fun W : World => money_calls (s + n) W
    cases h4 : money (s + n) with
    | false =>
      have HE : Hid (vAddE l o e n = 6) := by unfold Hid; rw [HM.out, h4]; rfl
      rw [h4] at M1
      clear h4
      go_wp2_with fail
      refine (RC _).mono ?_
      rintro e' w' ⟨rfl, rfl⟩
      go_wp2_with fail
      refine (MC _).mono ?_
      rintro e' w' ⟨rfl, rfl⟩
      go_wp2_with fail
      refine (LC _ E1.low).mono ?_
      rintro e' w2 ⟨rfl, b2⟩
      go_wp2_with fail
      refine (M1 _).mono ?_
      rintro e' w' ⟨rfl, rfl⟩
      go_wp2
      go_ret
      exact NO HE.out (by decide) (E1.below b2).low
    | true =>
    have HM2 : Hid (vAddE l o e n = if l.any (isV o e) = true then 0 else if 12 ≤ l.length then 5 else 0) := by unfold Hid; rw [HM.out, h4]; rfl
    rw [h4] at M1
    clear h4 HM
    go_wp2_with fail
    refine (RC _).mono ?_
    rintro e' w' ⟨rfl, rfl⟩
    go_wp2_with fail
    refine (MC _).mono ?_
    rintro e' w' ⟨rfl, rfl⟩
    go_wp2_with fail
    refine (LC _ E1.low).mono ?_
    rintro e' w2 ⟨rfl, b2⟩
    have E2 := E1.below b2
    have hc2 := (E2.low.cell (p := ⟨b, 0, none⟩) hlt).trans hc
    have hf2 := (E2.low.frozen (p := ⟨b, 0, none⟩) hlt).trans (hf 0)
    have k02 := E2.cell 0 rfl 0 rfl
    have k12 := E2.cell 1 rfl 0 rfl
    go_wp2_with fail
    refine (M1 _).mono ?_
    rintro e' w' ⟨rfl, rfl⟩
    clear RC MC LC M1 hc1 hf1 k0 k1 E1
    rw [ha] at HM2
    have HE : Hid (vAddE l o e n = 0) := by unfold Hid; rw [HM2.out, if_pos rfl]
    have hil : i < l.length := (List.getElem?_eq_some_iff.1 hx).1
    have i1 : (0 : Int) ≤ (i : Int) := by omega
    have i2 : (i : Int) < (l.length : Int) := by omega
    have hxm := g.lo x (List.mem_of_getElem? hx)
    have hxs := g.mon
    have hxl := le_sumC g.lo (List.mem_of_getElem? hx)
    have hsp := set_putV g.rise hx (x.c + n)
    rw [hxa, hxb] at hsp
    have HRe : Hid (vAdd l o e n = l.set i ⟨x.a, x.b, x.c + n⟩) := by unfold Hid; rw [HR.out HE.out, hv, ← hsp, hxa, hxb]
    have hll : Hid ((l.set i (⟨x.a, x.b, x.c + n⟩ : STri)).length = l.length) := by unfold Hid; simp
    have hwn : IntKind.i64.wrap (x.c + n) = x.c + n := by rw [IntKind.wrap_i64]; omega
    have hxx := Lib.hid hx
    clear HM2 HR hsp hv ha hx hxa hxb
    obtain ⟨bx, ox, rfl, c1, c2, c3⟩ := ow.sl.tri ((hs.del b).of_below E2.low) hxx
    have hfx := ow.cell_free ((hs.del b).of_below E2.low) (by omega)
    obtain ⟨h3, o3, u3⟩ := Ow.set (x' := ⟨x.a, x.b, x.c + n⟩) (v := .int .i64 (x.c + n)) (j := 2) ow ((hs.del b).of_below E2.low) hxx.out (by decide) rfl
    obtain ⟨UR, hn3⟩ := Upd.rest hb hs (u3.before E2.low)
    have UR2 := fun n => UR.after (Go.Sl.Below.drN (Below.refl _ _) n)
    have UR3 := UR.after ((Below.refl _ _).drew)
    go_upto_region 7 with fail
    go_region
    all_goals
      go_wp2
      go_ret
      refine ⟨_, by rw [HE.out]; rfl, ⟨_, Hp.put_self, _, ca, by rw [HRe.out, hll.out], by rw [Hp.put_del hn3, HRe.out]; exact o3⟩, ?_⟩
      first | exact UR | exact UR3 | exact UR2 _
end Go.Proofs.Ytpigoegjoagbnaa
end
section
/- The walk of vintage.Expire. -/
namespace Go.Sl
open Go Go.RowKit
theorem Ow.behind {α : Type} {k : Kd α} {h : Hp} {b off cap : Nat} {xs : List α} (o : Ow k h (some ⟨b, off, .none⟩) cap xs) (n : Nat) : Ow k h (if cap = n then some ⟨b, off, .none⟩ else some ⟨b, off + n * k.size, .none⟩) (cap - n) (xs.drop n) := by
  refine ⟨by have := o.le; simp; omega, by have := o.max; omega, (by intro e; split at e <;> cases e), fun ad e hc => ?_⟩
  rw [if_neg (by omega)] at e
  cases e
  obtain ⟨b', off', cur, E, e, hb, hsz, hr⟩ := o.row _ rfl (by omega)
  cases e
  refine ⟨b, _, cur, E, rfl, hb, ?_, fun i x hx => ?_⟩
  · rw [Nat.add_assoc, ← Nat.add_mul, show n + (cap - n) = cap by omega]; exact hsz
  · rw [List.getElem?_drop] at hx
    obtain ⟨cs, hK, hcs⟩ := hr (n + i) x hx
    refine ⟨cs, hK, fun j u hu => ?_⟩
    have := hcs j u hu
    rw [Nat.add_mul] at this
    rw [← this]; congr 1; omega
end Go.Sl
namespace Go.Proofs.Ytpigoegjoagbnaa
open Go.RowKit Go.Sl Go.Sort
set_option maxHeartbeats 4000000
set_option maxRecDepth 100000
theorem vintExp_calls (b : Nat) (l : List STri) (y : Int) (h : Hp) (w : World) (hs : h.sub w) (hp : PtV h b l) (g : GoodV l) :
    Calls Try.prog 16 #[.pointer (some ⟨b, 0, none⟩), .int .i64 y] w fun e w' => ∃ h', e = .returned (.int .i64 (vGone l y)) ∧ PtV h' b (vExp l y) ∧ Upd h h' w w' := by
  have gm := g.mon
  go_enter Try.func16, Try.ntmps16
  go_wp2
  refine wp_scope_jumps 0 (fun a' w' => ∃ (k : Nat) (h' : Hp) (u2 u3 u6 u7 u8 u9 u10 u11 u12 u13 u14 u15 u16 u17 u18 u19 u20 u21 u22 u23 u24 u25 u26 u27 u28 u29 u30 u31 u32 u33 u34 u35 u36 u37 u38 u39 u40 : Value), a' = { tmps := #[.pointer (some ⟨b, 0, none⟩), .int .i64 y, u2, u3, .int .i64 0, .int .i64 (sumC (l.take k)), u6, u7, u8, u9, u10, u11, u12, u13, u14, u15, u16, u17, u18, u19, u20, u21, u22, u23, u24, u25, u26, u27, u28, u29, u30, u31, u32, u33, u34, u35, u36, u37, u38, u39, u40], defers := [] } ∧ k ≤ l.length ∧ Hid (∀ x ∈ l.take k, x.b < y) ∧ PtV h' b (l.drop k) ∧ Upd h h' w w') (fun a' _ => (sumC l - intOf (a'.tmps.getD 5 undef)).toNat) rfl ?_ ?_
  · obtain ⟨k, hk⟩ : ∃ k : Nat, k = 0 := ⟨0, rfl⟩
    have p : PtV h b (l.drop k) := by rw [hk]; exact hp
    have u := Upd.stay hs (Below.refl _ _)
    have HB : Hid (∀ x ∈ l.take k, x.b < y) := by unfold Hid; rw [hk]; simp
    have hz : sumC (l.take k) = 0 := by rw [hk]; rfl
    go_wp2
    go_step3
    obtain ⟨A', ca', hb', hc', ow', hf'⟩ := p.one u.sub
    have hfz := hf' 0
    rw [List.length_drop] at hc' hb'
    have lmo := ow'.small
    have hs0 := sumC_take_le g.lo k
    by_cases hlt : k < l.length
    · obtain ⟨x, hx⟩ := some_of_lt hlt
      have hx0 : Hid ((l.drop k)[0]? = some x) := by unfold Hid; rw [List.getElem?_drop]; exact hx.out
      obtain ⟨bx, ox, rfl, c1, c2, c3⟩ := ow'.sl.tri (u.sub.del b) hx0
      simp only [Nat.zero_mul, Nat.add_zero] at c1 c2 c3
      obtain ⟨m, hm⟩ : ∃ m, l.length - k = m + 1 := ⟨l.length - k - 1, by omega⟩
      rw [hm] at hc' hb'
      have hTk : Hid (sumC (l.take (k + 1)) = sumC (l.take k) + x.c) := by unfold Hid; rw [take_next hx, sumC_snoc]
      have hxl := g.lo x (List.mem_of_getElem? hx.out)
      have hs1 := sumC_take_le g.lo (k + 1)
      rw [hTk.out] at hs1
      have hcap : m + 1 ≤ ca' := by have := ow'.le; rw [List.length_drop, hm] at this; exact this
      have hcapI : ((m : Int) + 1) ≤ (ca' : Int) := by omega
      by_cases hy : x.b < y
      · have t1 : decide (x.b < y) = true := by simpa using hy
        have HB' : Hid (∀ z ∈ l.take (k + 1), z.b < y) := by
          intro z hz
          rw [take_next hx] at hz
          rcases List.mem_append.1 hz with hz | hz
          · exact HB.out z hz
          · simp at hz; rw [hz]; exact hy
        have ob := ow'.behind 1
        rw [List.drop_drop] at ob
        have hdl : (l.drop (k + 1)).length = m := by rw [List.length_drop]; omega
        generalize hsk : sumC (l.take k) = sk at *
        clear hy
        rcases Nat.decEq ca' 1 with hca | hca
        · rw [if_neg hca] at ob
          go_wp2
          go_step3
          have UF := fun v => (Upd.field (v := v) 0 hb' u.sub (Hp.le_refl _) (Upd.stay (u.sub.del b) (Below.refl _ _))).1
          exact ⟨rfl, ⟨k + 1, _, _, _, _, _, _, _, _, _, _, _, _, _, _, _, _, _, _, _, _, _, _, _, _, _, _, _, _, _, _, _, _, _, _, _, _, _, _, by rw [hTk.out, hz, Int.zero_add], by omega, HB', ⟨_, Hp.put_self, _, _, by rw [hdl]; rfl, by rw [Hp.put_del Hp.del_self]; exact ob⟩, u.trans (UF _)⟩⟩
        · rw [if_pos hca] at ob
          subst hca
          obtain rfl : m = 0 := by omega
          go_wp2
          go_step3
          have UF := fun v => (Upd.field (v := v) 0 hb' u.sub (Hp.le_refl _) (Upd.stay (u.sub.del b) (Below.refl _ _))).1
          exact ⟨rfl, ⟨k + 1, _, _, _, _, _, _, _, _, _, _, _, _, _, _, _, _, _, _, _, _, _, _, _, _, _, _, _, _, _, _, _, _, _, _, _, _, _, _, by rw [hTk.out, hz, Int.zero_add], by omega, HB', ⟨_, Hp.put_self, _, _, by rw [hdl]; rfl, by rw [Hp.put_del Hp.del_self]; exact ob⟩, u.trans (UF _)⟩⟩
      · have t1 : decide (x.b < y) = false := by simpa using hy
        have hd : l.drop k = x :: l.drop (k + 1) := drop_next hx
        have hv := rising_over (y := y) (x := x) (l := l.drop (k + 1)) (by rw [← hd]; exact List.Pairwise.sublist (List.drop_sublist k l) g.rise) hy
        rw [← hd] at hv
        have hsplit := List.take_append_drop k l
        have hg : Hid (vGone l y = sumC (l.take k)) := by
          unfold Hid vGone
          conv => lhs; rw [← hsplit]
          rw [List.filter_append, hv.1, List.append_nil, List.filter_eq_self.2 fun z hz => by simpa [overV] using HB.out z hz]
        have he : Hid (vExp l y = l.drop k) := by
          unfold Hid vExp
          conv => lhs; rw [← hsplit]
          rw [List.filter_append, hv.2, List.filter_eq_nil_iff.2 fun z hz => by simpa [overV] using HB.out z hz]; rfl
        clear hy hv hd hsplit
        go_wp2
        simp only [Exit.jump]
        go_ret
        exact ⟨_, by rw [hg.out, hz]; rfl, by rw [he.out]; exact p, u⟩
    · have hd : l.drop k = [] := List.drop_eq_nil_of_le (by omega)
      have hsplit := List.take_append_drop k l
      rw [hd, List.append_nil] at hsplit
      have hm : l.length - k = 0 := by omega
      rw [hm] at hc' hb'
      have hg : Hid (vGone l y = sumC (l.take k)) := by
        unfold Hid vGone
        conv => lhs; rw [← hsplit]
        rw [List.filter_eq_self.2 fun z hz => by simpa [overV] using HB.out z hz]
      have he : Hid (vExp l y = l.drop k) := by
        unfold Hid vExp
        conv => lhs; rw [← hsplit]
        rw [hd, List.filter_eq_nil_iff.2 fun z hz => by simpa [overV] using HB.out z hz]
      clear hd hsplit
      go_wp2
      simp only [Exit.jump]
      go_ret
      exact ⟨_, by rw [hg.out, hz]; rfl, by rw [he.out]; exact p, u⟩

  · rintro a' w' ⟨k, h', u2, u3, u6, u7, u8, u9, u10, u11, u12, u13, u14, u15, u16, u17, u18, u19, u20, u21, u22, u23, u24, u25, u26, u27, u28, u29, u30, u31, u32, u33, u34, u35, u36, u37, u38, u39, u40, rfl, hk, HB, p, u⟩
    obtain ⟨A', ca', hb', hc', ow', hf'⟩ := p.one u.sub
    have hfz := hf' 0
    rw [List.length_drop] at hc' hb'
    have lmo := ow'.small
    have hs0 := sumC_take_le g.lo k
    by_cases hlt : k < l.length
    · obtain ⟨x, hx⟩ := some_of_lt hlt
      have hx0 : Hid ((l.drop k)[0]? = some x) := by unfold Hid; rw [List.getElem?_drop]; exact hx.out
      obtain ⟨bx, ox, rfl, c1, c2, c3⟩ := ow'.sl.tri (u.sub.del b) hx0
      simp only [Nat.zero_mul, Nat.add_zero] at c1 c2 c3
      obtain ⟨m, hm⟩ : ∃ m, l.length - k = m + 1 := ⟨l.length - k - 1, by omega⟩
      rw [hm] at hc' hb'
      have hTk : Hid (sumC (l.take (k + 1)) = sumC (l.take k) + x.c) := by unfold Hid; rw [take_next hx, sumC_snoc]
      have hxl := g.lo x (List.mem_of_getElem? hx.out)
      have hs1 := sumC_take_le g.lo (k + 1)
      rw [hTk.out] at hs1
      have hcap : m + 1 ≤ ca' := by have := ow'.le; rw [List.length_drop, hm] at this; exact this
      have hcapI : ((m : Int) + 1) ≤ (ca' : Int) := by omega
      by_cases hy : x.b < y
      · have t1 : decide (x.b < y) = true := by simpa using hy
        have HB' : Hid (∀ z ∈ l.take (k + 1), z.b < y) := by
          intro z hz
          rw [take_next hx] at hz
          rcases List.mem_append.1 hz with hz | hz
          · exact HB.out z hz
          · simp at hz; rw [hz]; exact hy
        have ob := ow'.behind 1
        rw [List.drop_drop] at ob
        have hdl : (l.drop (k + 1)).length = m := by rw [List.length_drop]; omega
        generalize hsk : sumC (l.take k) = sk at *
        clear hy
        rcases Nat.decEq ca' 1 with hca | hca
        · rw [if_neg hca] at ob
          go_wp2
          go_step3
          have UF := fun v => (Upd.field (v := v) 0 hb' u.sub (Hp.le_refl _) (Upd.stay (u.sub.del b) (Below.refl _ _))).1
          exact ⟨rfl, ⟨k + 1, _, _, _, _, _, _, _, _, _, _, _, _, _, _, _, _, _, _, _, _, _, _, _, _, _, _, _, _, _, _, _, _, _, _, _, _, _, _, by rw [hTk.out], by omega, HB', ⟨_, Hp.put_self, _, _, by rw [hdl]; rfl, by rw [Hp.put_del Hp.del_self]; exact ob⟩, u.trans (UF _)⟩, by simp [intOf]; omega⟩
        · rw [if_pos hca] at ob
          subst hca
          obtain rfl : m = 0 := by omega
          go_wp2
          go_step3
          have UF := fun v => (Upd.field (v := v) 0 hb' u.sub (Hp.le_refl _) (Upd.stay (u.sub.del b) (Below.refl _ _))).1
          exact ⟨rfl, ⟨k + 1, _, _, _, _, _, _, _, _, _, _, _, _, _, _, _, _, _, _, _, _, _, _, _, _, _, _, _, _, _, _, _, _, _, _, _, _, _, _, by rw [hTk.out], by omega, HB', ⟨_, Hp.put_self, _, _, by rw [hdl]; rfl, by rw [Hp.put_del Hp.del_self]; exact ob⟩, u.trans (UF _)⟩, by simp [intOf]; omega⟩
      · have t1 : decide (x.b < y) = false := by simpa using hy
        have hd : l.drop k = x :: l.drop (k + 1) := drop_next hx
        have hv := rising_over (y := y) (x := x) (l := l.drop (k + 1)) (by rw [← hd]; exact List.Pairwise.sublist (List.drop_sublist k l) g.rise) hy
        rw [← hd] at hv
        have hsplit := List.take_append_drop k l
        have hg : Hid (vGone l y = sumC (l.take k)) := by
          unfold Hid vGone
          conv => lhs; rw [← hsplit]
          rw [List.filter_append, hv.1, List.append_nil, List.filter_eq_self.2 fun z hz => by simpa [overV] using HB.out z hz]
        have he : Hid (vExp l y = l.drop k) := by
          unfold Hid vExp
          conv => lhs; rw [← hsplit]
          rw [List.filter_append, hv.2, List.filter_eq_nil_iff.2 fun z hz => by simpa [overV] using HB.out z hz]; rfl
        clear hy hv hd hsplit
        go_wp2
        simp only [Exit.jump]
        go_ret
        exact ⟨_, by rw [hg.out]; rfl, by rw [he.out]; exact p, u⟩
    · have hd : l.drop k = [] := List.drop_eq_nil_of_le (by omega)
      have hsplit := List.take_append_drop k l
      rw [hd, List.append_nil] at hsplit
      have hm : l.length - k = 0 := by omega
      rw [hm] at hc' hb'
      have hg : Hid (vGone l y = sumC (l.take k)) := by
        unfold Hid vGone
        conv => lhs; rw [← hsplit]
        rw [List.filter_eq_self.2 fun z hz => by simpa [overV] using HB.out z hz]
      have he : Hid (vExp l y = l.drop k) := by
        unfold Hid vExp
        conv => lhs; rw [← hsplit]
        rw [hd, List.filter_eq_nil_iff.2 fun z hz => by simpa [overV] using HB.out z hz]
      clear hd hsplit
      go_wp2
      simp only [Exit.jump]
      go_ret
      exact ⟨_, by rw [hg.out]; rfl, by rw [he.out]; exact p, u⟩

end Go.Proofs.Ytpigoegjoagbnaa
end
section
/- The walk of vintage.Take. -/
namespace Go.Sl
open Go Go.RowKit
theorem zip_set_step {α β : Type} (f : α → β → α) : ∀ (xs : List α) (us : List β) (j : Nat) (x : α) (u : β), xs[j]? = some x → us[j]? = some u → (List.zipWith f (xs.take j) (us.take j) ++ xs.drop j).set j (f x u) = List.zipWith f (xs.take (j + 1)) (us.take (j + 1)) ++ xs.drop (j + 1)
  | [], _, j, x, u, h, _ => by simp at h
  | _ :: _, [], j, x, u, _, h => by simp at h
  | y :: ys, v :: us, 0, x, u, h, h' => by simp at h h'; subst h h'; simp
  | y :: ys, v :: us, j + 1, x, u, h, h' => by
    have := zip_set_step f ys us j x u (by simpa using h) (by simpa using h')
    simp only [List.take_succ_cons, List.zipWith_cons_cons, List.drop_succ_cons, List.cons_append, List.set_cons_succ, this]
theorem zip_get_step {α β : Type} (f : α → β → α) : ∀ (xs : List α) (us : List β) (j : Nat), j ≤ us.length → (List.zipWith f (xs.take j) (us.take j) ++ xs.drop j)[j]? = xs[j]?
  | [], us, j, _ => by simp
  | y :: ys, us, 0, _ => by simp
  | y :: ys, [], j + 1, h => by simp at h
  | y :: ys, u :: us, j + 1, h => by
    have := zip_get_step f ys us j (by simpa using h)
    simpa using this
theorem takeE_no {l : List STri} {us : List Int} (h : us.length ≠ l.length) : vTakeE l us = 1 := by unfold vTakeE; rw [if_neg fun e => h e.1]
theorem takeE_bad {l : List STri} {us : List Int} {j : Nat} {x : STri} {u : Int} (hx : l[j]? = some x) (hu : us[j]? = some u) (hb : badU x u = true) : vTakeE l us = 1 := by
  unfold vTakeE
  rw [if_neg]
  rintro ⟨_, h⟩
  rw [List.any_eq_false] at h
  have := h (badU x u) (List.mem_of_getElem? (i := j) (by rw [List.getElem?_zipWith, hx, hu]))
  exact this hb
theorem takeE_ok {l : List STri} {us : List Int} (hl : us.length = l.length) (h : ∀ (i : Nat) (x : STri) (u : Int), l[i]? = some x → us[i]? = some u → badU x u = false) : vTakeE l us = 0 := by
  unfold vTakeE
  refine if_pos ⟨hl, ?_⟩
  rw [List.any_eq_false]
  intro b hb
  obtain ⟨i, hi⟩ := List.mem_iff_getElem?.1 hb
  rw [List.getElem?_zipWith] at hi
  cases hx : l[i]? with
  | none => simp [hx] at hi
  | some x =>
    cases hu : us[i]? with
    | none => simp [hx, hu] at hi
    | some u =>
      simp [hx, hu] at hi
      rw [← hi, h i x u hx hu]; decide
end Go.Sl
namespace Go.Proofs.Ytpigoegjoagbnaa
open Go.RowKit Go.Sl Go.Sort
set_option maxHeartbeats 4000000
set_option maxRecDepth 100000
theorem vTake_no {l : List STri} {us : List Int} {q : Int} (h : vTakeE l us = q) (h0 : q ≠ 0) : vTake l us = l := by unfold vTake; rw [if_neg (by rw [h]; exact h0)]
theorem vintTake_calls (b : Nat) (l : List STri) (h : Hp) (w : World) (hs : h.sub w) (hp : PtV h b l) (g : GoodV l) (U : Option Addr) (cu : Nat) (us : List Int) (ku : Hp) (ks : ku.sub w) (su : Sl kInt ku U cu us) (hz : ∀ u ∈ us, I64 u) :
    Calls Try.prog 20 #[.pointer (some ⟨b, 0, none⟩), .slice U us.length cu] w (VAns b (vTakeE l us) (vTake l us) h w) := by
  obtain ⟨A, ca, hb, hc, ow, hf⟩ := hp.one hs
  have hlt : b < w.heap.size := World.block_lt_of_cell? _ _ hc
  have lm := ow.small
  have lu := su.small
  have gl := g.len
  have HZ := Lib.hid hz
  clear hz
  have NO : ∀ {q : Int} {W : World}, vTakeE l us = q → q ≠ 0 → Below w.heap.size w W → VAns b (vTakeE l us) (vTake l us) h w (.returned (.int .i64 q)) W := fun h1 h2 h3 => .no h1 (vTake_no h1 h2) hp hs h3
  by_cases hl : us.length = l.length
  case neg =>
    have t1 : ((us.length : Int) != (l.length : Int)) = true := by simp; omega
    have HE : Hid (vTakeE l us = 1) := takeE_no hl
    clear hl
    go_enter Try.func20, Try.ntmps20
    go_wp2
    go_ret
    exact NO HE.out (by decide) (Below.refl _ _)
  have t1 : ((us.length : Int) != (l.length : Int)) = false := by simp; omega
  have hL := Lib.hid hl
  clear hl
  have E0 := Env.start w
  go_enter Try.func20, Try.ntmps20
  go_wp2
  clear t1
  go_loopw [20] (fun i wr => ∃ (j : Nat), j ≤ us.length ∧ i = .int .i64 j ∧ Hid (∀ (i : Nat) (x : STri) (u : Int), i < j → l[i]? = some x → us[i]? = some u → badU x u = false) ∧ Env w wr []) (fun i _ => us.length - (intOf i).toNat)
  case atStart => exact ⟨0, by omega, rfl, fun i x u h => absurd h (by omega), E0⟩
  case round =>
    obtain ⟨j, hj, rfl, HB, E⟩ := hrel
    have hc1 := (E.low.cell (p := ⟨b, 0, none⟩) hlt).trans hc
    by_cases hlt2 : j < us.length
    · obtain ⟨u, hu⟩ := some_of_lt hlt2
      obtain ⟨x, hx⟩ := some_of_lt (show j < l.length by rw [← hL.out]; exact hlt2)
      have hjl : j < l.length := by rw [← hL.out]; exact hlt2
      obtain ⟨bu, ou, rfl, c1⟩ := su.int (ks.of_below E.low) hu
      obtain ⟨bx, ox, rfl, d1, d2, d3⟩ := ow.sl.tri ((hs.del b).of_below E.low) hx
      have i1 : (0 : Int) ≤ (j : Int) := by omega
      have i2 : (j : Int) < (us.length : Int) := by omega
      have i3 : (j : Int) < (l.length : Int) := by omega
      have HB' : badU x u = false → Hid (∀ (i : Nat) (x : STri) (u : Int), i < j + 1 → l[i]? = some x → us[i]? = some u → badU x u = false) := fun e i x' u' hi h1 h2 => by
        by_cases h3 : i = j
        · subst h3
          rw [hx.out] at h1; rw [hu.out] at h2; cases h1; cases h2; exact e
        · exact HB.out i x' u' (by omega) h1 h2
      by_cases h1 : u < 0
      · have t1 : decide (u < 0) = true := by simpa using h1
        have HE : Hid (vTakeE l us = 1) := takeE_bad hx.out hu.out (by simp [badU, h1])
        clear h1 HB' d1 d2
        go_wp2
        go_ret
        exact NO HE.out (by decide) E.low
      have t1 : decide (u < 0) = false := by simpa using h1
      by_cases h2 : x.c < u
      · have t2 : decide (x.c < u) = true := by simpa using h2
        have HE : Hid (vTakeE l us = 1) := takeE_bad hx.out hu.out (by simp [badU, h2])
        clear h1 h2 HB' d1 d2
        go_wp2
        go_ret
        exact NO HE.out (by decide) E.low
      have t2 : decide (x.c < u) = false := by simpa using h2
      have HN := HB' (by simp [badU]; omega)
      clear h1 h2 HB' d1 d2
      go_wp2
      go_roundw
      case rel => exact ⟨j + 1, by omega, by go_num, HN, E⟩
      case measure => simp [intOf]; omega
    · obtain rfl : j = us.length := by omega
      have HE : Hid (vTakeE l us = 0) := takeE_ok hL.out fun i x u h1 h2 => HB.out i x u (List.getElem?_eq_some_iff.1 h2).1 h1 h2
      have HRe : Hid (vTake l us = (List.zipWith lessV l us).filter fun z => !zeroB z) := by unfold Hid vTake; rw [if_pos HE.out]
      have HBD : ∀ (j : Nat) (x : STri) (u : Int), l[j]? = some x → us[j]? = some u → 0 ≤ u ∧ u ≤ x.c := fun j x u h1 h2 => vTake_bad HE.out h1 h2
      have HGL := Lib.hid g.lo
      clear HB
      go_wp2_with fail
      refine (vintRows_calls b l h _ (hs.of_below E.low) hp (by omega)).mono ?_
      rintro e' w2 ⟨C2, n2, h2, rfl, o2, u2⟩
      have E2 := E.new u2
      simp at E2
      clear u2 hc1 E
      go_wp2_with fail
      go_loopw [44] (fun i wr => ∃ (j : Nat) (h3 : Hp) (L : List STri), j ≤ us.length ∧ i = .int .i64 j ∧ Hid (L = List.zipWith lessV (l.take j) (us.take j) ++ l.drop j) ∧ Hid (L.length = l.length) ∧ Ow kTri h3 C2 n2 L ∧ Env w wr [h3]) (fun i _ => us.length - (intOf i).toNat)
      case atStart => exact ⟨0, h2, l, by omega, rfl, by unfold Hid; simp, rfl, o2, E2⟩
      case round =>
        clear o2 E2
        obtain ⟨j, h3, L, hj, rfl, HL, hLl, o3, E3⟩ := hrel
        by_cases hlt2 : j < us.length
        · obtain ⟨u, hu⟩ := some_of_lt hlt2
          have hjl : j < l.length := by rw [← hL.out]; exact hlt2
          obtain ⟨x, hx⟩ := some_of_lt hjl
          have hxL : Hid (L[j]? = some x) := by unfold Hid; rw [HL.out, zip_get_step _ _ _ _ hj]; exact hx.out
          have hbd := HBD j x u hx.out hu.out
          have hgl := HGL.out x (List.mem_of_getElem? hx.out)
          have hxm := le_sumC g.lo (List.mem_of_getElem? hx.out)
          have hsm := g.mon
          obtain ⟨bu, ou, rfl, c1⟩ := su.int (ks.of_below E3.low) hu
          obtain ⟨bx, ox, rfl, d1, d2, d3⟩ := o3.sl.tri (E3.sub 0 rfl) hxL
          have hfx := o3.cell_free (E3.sub 0 rfl) (by rw [hLl.out]; omega)
          obtain ⟨h4, o4, u4⟩ := Ow.set (x' := lessV x u) (v := .int .i64 (x.c - u)) (j := 2) o3 (E3.sub 0 rfl) hxL.out (by decide) rfl
          have E4 := E3.upd 0 rfl u4
          simp only [List.set_cons_zero] at E4
          have HL4 : Hid (L.set j (lessV x u) = List.zipWith lessV (l.take (j + 1)) (us.take (j + 1)) ++ l.drop (j + 1)) := by
            unfold Hid; rw [HL.out]; exact zip_set_step lessV l us j x u hx.out hu.out
          have hLl4 : Hid ((L.set j (lessV x u)).length = l.length) := by unfold Hid; rw [List.length_set]; exact hLl.out
          have i1 : (0 : Int) ≤ (j : Int) := by omega
          have i2 : (j : Int) < (us.length : Int) := by omega
          have i3 : (j : Int) < (l.length : Int) := by omega
          clear u4 o3 HBD
          go_wp2
          go_roundw
          case rel => exact ⟨j + 1, h4, _, by omega, by go_num, HL4, hLl4, o4, E4⟩
          case measure => simp [intOf]; omega
        · obtain rfl : j = us.length := by omega
          have HL5 : Hid (L = List.zipWith lessV l us) := by
            unfold Hid; rw [HL.out, List.take_of_length_le (by rw [hL.out]; omega), List.take_length, List.drop_eq_nil_of_le (by rw [hL.out]; omega), List.append_nil]
          rw [← HL5.out] at HRe
          have eg : ∀ args w, (callFunc 48 args).run Try.prog w = .ok (.enter 48 args) w := enters_of Try.func48 (by kernel_rfl) rfl
          have DC := deleteFunc_vint 48 #[] eg zeroB C2 n2 L h3 _ (E3.sub 0 rfl) o3 (by rw [hLl.out]; omega) (fun x W' k u => vintZero_calls x W')
          rw [hLl.out] at DC
          generalize (L.filter fun z => !zeroB z) = R at *
          clear HL HL5 HBD
          go_wp2_with fail
          refine DC.mono ?_
          rintro e' w5 ⟨h5, rfl, o5, u5⟩
          have E5 := E3.upd 0 rfl u5
          simp only [List.set_cons_zero] at E5
          have hc5 := (E5.low.cell (p := ⟨b, 0, none⟩) hlt).trans hc
          have hf5 := (E5.low.frozen (p := ⟨b, 0, none⟩) hlt).trans (hf 0)
          obtain ⟨UF, hn5⟩ := Upd.field (v := .slice C2 R.length n2) 0 hb hs (Hp.none_le _) (E5.made (h := h5) (by simp))
          go_wp2
          go_ret
          exact ⟨_, by rw [HE.out]; rfl, ⟨_, Hp.put_self, C2, n2, by rw [HRe.out]; rfl, by rw [Hp.put_del hn5, HRe.out]; exact o5⟩, UF⟩
end Go.Proofs.Ytpigoegjoagbnaa
end
section
/- The calls of chapter 13 in a body's own memory; law13.wakes. -/
namespace Go.Proofs.Ytpigoegjoagbnaa
open Go.RowKit Go.Sl
set_option maxHeartbeats 1000000
set_option maxRecDepth 100000
structure Vnt (h : Hp) (b : Nat) (l : List STri) : Prop where
  pt : PtV h b l
  good : GoodV l
section
variable {w0 w : World} {L : List Hp} {h : Hp} {b : Nat} {l : List STri}
theorem Vnt.new (E : Env w0 w L) : Calls Try.prog 12 #[] w fun e w' => ∃ h b, e = .returned (.pointer (some ⟨b, 0, none⟩)) ∧ Vnt h b [] ∧ Env w0 w' (L ++ [h]) :=
  (vintNew_calls w).mono fun _ _ ⟨h, b, he, hp, u⟩ => ⟨h, b, he, ⟨hp, .nil⟩, E.new u⟩
theorem Vnt.clone (S : Vnt h b l) (E : Env w0 w L) (i : Nat) (hi : L[i]? = some h) :
    Calls Try.prog 22 #[.pointer (some ⟨b, 0, none⟩)] w fun e w' => ∃ h' b', e = .returned (.pointer (some ⟨b', 0, none⟩)) ∧ Vnt h' b' l ∧ Env w0 w' (L ++ [h']) :=
  (vintClone_calls b l h w (E.sub i hi) S.pt (by have := S.good.len; omega)).mono fun _ _ ⟨h', b', he, hp', u⟩ => ⟨h', b', he, ⟨hp', S.good⟩, E.new u⟩
theorem Vnt.rows (S : Vnt h b l) (E : Env w0 w L) (i : Nat) (hi : L[i]? = some h) (n : Nat) (hn : l.length = n) :
    Calls Try.prog 15 #[.pointer (some ⟨b, 0, none⟩)] w fun e w' => ∃ C cap h', e = .returned (.slice C n cap) ∧ Ow kTri h' C cap l ∧ Env w0 w' (L ++ [h']) := by
  subst hn
  exact (vintRows_calls b l h w (E.sub i hi) S.pt (by have := S.good.len; omega)).mono fun _ _ ⟨C, cap, h', he, ho, u⟩ => ⟨C, cap, h', he, ho, E.new u⟩
theorem Vnt.left (S : Vnt h b l) (E : Env w0 w L) (i : Nat) (hi : L[i]? = some h) {v : Int} (hv : sumC l = v) :
    Calls Try.prog 19 #[.pointer (some ⟨b, 0, none⟩)] w fun e w' => e = .returned (.int .i64 v) ∧ Env w0 w' L := by
  subst hv
  exact (vintLeft_calls b l h w (E.sub i hi) S.pt (by have := S.good.len; omega) (fun x hx => by have := S.good.lo x hx; have := le_sumC S.good.lo hx; have := S.good.mon; omega)).mono fun _ _ ⟨he, hb⟩ => ⟨he, E.below hb⟩
theorem Vnt.add (S : Vnt h b l) (E : Env w0 w L) (i : Nat) (hi : L[i]? = some h) (o x n : Int) {q : Int} {ys : List STri} (hE : vAddE l o x n = q ∧ vAdd l o x n = ys) :
    Calls Try.prog 14 #[.pointer (some ⟨b, 0, none⟩), .int .i64 o, .int .i64 x, .int .i64 n] w fun e w' => ∃ h', e = .returned (.int .i64 q) ∧ Vnt h' b ys ∧ Env w0 w' (L.set i h') := by
  obtain ⟨h1, h2⟩ := hE
  subst h1 h2
  exact (vintAdd_calls b l o x n h w (E.sub i hi) S.pt S.good).mono fun _ _ ⟨h', he, hp', u⟩ => ⟨h', he, ⟨hp', S.good.add o x n⟩, E.upd i hi u⟩
theorem Vnt.exp (S : Vnt h b l) (E : Env w0 w L) (i : Nat) (hi : L[i]? = some h) (y : Int) {q : Int} {ys : List STri} (hE : vGone l y = q ∧ vExp l y = ys) :
    Calls Try.prog 16 #[.pointer (some ⟨b, 0, none⟩), .int .i64 y] w fun e w' => ∃ h', e = .returned (.int .i64 q) ∧ Vnt h' b ys ∧ Env w0 w' (L.set i h') := by
  obtain ⟨h1, h2⟩ := hE
  subst h1 h2
  exact (vintExp_calls b l y h w (E.sub i hi) S.pt S.good).mono fun _ _ ⟨h', he, hp', u⟩ => ⟨h', he, ⟨hp', S.good.exp y⟩, E.upd i hi u⟩
theorem Vnt.take (S : Vnt h b l) (E : Env w0 w L) (i : Nat) (hi : L[i]? = some h) {U : Option Addr} {cu : Nat} {us : List Int} {k : Hp} (ks : k.sub w) (su : Sl kInt k U cu us) (hz : ∀ u ∈ us, I64 u) (n : Nat) (hn : us.length = n) {q : Int} {ys : List STri} (hE : vTakeE l us = q ∧ vTake l us = ys) :
    Calls Try.prog 20 #[.pointer (some ⟨b, 0, none⟩), .slice U n cu] w fun e w' => ∃ h', e = .returned (.int .i64 q) ∧ Vnt h' b ys ∧ Env w0 w' (L.set i h') := by
  obtain ⟨h1, h2⟩ := hE
  subst h1 h2 hn
  exact (vintTake_calls b l h w (E.sub i hi) S.pt S.good U cu us k ks su hz).mono fun _ _ ⟨h', he, hp', u⟩ => ⟨h', he, ⟨hp', S.good.take us⟩, E.upd i hi u⟩
end
theorem wakes13 (w : World) : Calls Try.prog 18 #[] w fun e w' => e = .returned (.bool true) ∧ Below w.heap.size w w' := by
  have E0 := Env.start w
  have H1 : Hid (vAddE [] 3 8 100 = 0 ∧ vAdd [] 3 8 100 = [⟨3, 8, 100⟩]) := by unfold Hid; decide
  have H2 : Hid (sumC [⟨3, 8, 100⟩] = 100) := rfl
  have H3 : Hid (vGone [⟨3, 8, 100⟩] 9 = 100 ∧ vExp [⟨3, 8, 100⟩] 9 = []) := by unfold Hid; decide
  go_enter Try.func18, Try.ntmps18
  go_wp2_with fail
  refine (Vnt.new E0).mono ?_
  rintro e w1 ⟨h1, c, rfl, S1, E1⟩
  try simp at E1
  go_wp2_with fail
  refine (Vnt.left S1 E1 0 rfl (v := 0) rfl).mono ?_
  rintro e w2 ⟨rfl, E2⟩
  try simp at E2
  go_wp2_with fail
  refine (Vnt.add S1 E2 0 rfl 3 8 100 H1.out).mono ?_
  rintro e w3 ⟨h3, rfl, S3, E3⟩
  try simp at E3
  go_wp2_with fail
  refine (Vnt.left S3 E3 0 rfl H2.out).mono ?_
  rintro e w4 ⟨rfl, E4⟩
  try simp at E4
  go_wp2_with fail
  refine (Vnt.exp S3 E4 0 rfl 9 H3.out).mono ?_
  rintro e w5 ⟨h5, rfl, S5, E5⟩
  try simp at E5
  go_wp2
  go_ret
  exact ⟨rfl, E5.low⟩
end Go.Proofs.Ytpigoegjoagbnaa
end
