/- Walks and plain facts that the laws of this seat share, part 3: contracts of functions, each said at its theorem. -/
import Derived.Test.YtpigoegjoagbnaaPk2
import Derived.Test.YtpigoegjoagbnaaChecked
import Derived.Lib.Hide
import Derived.Deep.QuietTactic
import Derived.OwnWalk
import Derived.Lib.Bytealg
set_option linter.all false
section
/- The walks of the small functions: keep.Within, play.Amount, rate.Money, rate.Of, and the document's Of. -/
namespace Go.Proofs.Ytpigoegjoagbnaa
open Go.RowKit Go.Sl
set_option maxHeartbeats 400000

theorem within_calls (v n : Int) (w : World) (h : 0 < n) (hn : n ≤ 9223372036854775807) :
    Calls Try.prog 13 #[.int .i64 v, .int .i64 n] w fun e w' => e = .returned (.int .i64 (within v n)) ∧ w = w' := by
  have h0 : (n == 0) = false := by simp; omega
  have h1 : decide (n < 1) = false := by simp; omega
  by_cases hk : v.tmod n < 0
  · have e := Lib.hid (tmod_emod_neg h hk)
    have hlo : -n < v.tmod n := Int.lt_tmod_of_pos _ h
    go_enter Try.func13, Try.ntmps13
    go_wp2
    go_ret
    exact ⟨by rw [e.out]; rfl, rfl⟩
  · have e := Lib.hid (tmod_emod_pos h hk)
    go_enter Try.func13, Try.ntmps13
    go_wp2
    go_ret
    exact ⟨by rw [e.out]; rfl, rfl⟩

theorem money_calls (n : Int) (w : World) : Calls Try.prog 41 #[.int .i64 n] w fun e w' => e = .returned (.bool (money n)) ∧ w = w' := by
  go_enter Try.func41, Try.ntmps41
  go_wp2
  all_goals
    go_ret
    exact ⟨by simp [money]; omega, rfl⟩

theorem of_calls (n r : Int) (w : World) : Calls Try.prog 56 #[.int .i64 n, .int .i64 r] w fun e w' => e = .returned (.tuple #[.int .i64 (ofVal n r), .bool (ofOk n r)]) ∧ w = w' := by
  by_cases hok : -400000000000 ≤ n ∧ n ≤ 400000000000 ∧ 0 ≤ r ∧ r ≤ 10000000
  · obtain ⟨h1, h2, h3, h4⟩ := hok
    obtain ⟨p1, p2⟩ := mul_bd h1 h2 h3 h4
    have e1 : ofOk n r = true := by simp [ofOk]; omega
    have e2 : ofVal n r = partOf n r := by simp [ofVal, e1]
    rw [e1, e2]
    clear e1 e2
    go_enter Try.func56, Try.ntmps56
    go_wp2
    all_goals first | (exfalso; omega) | skip
    all_goals
      go_ret2
      refine ⟨?_, rfl⟩
      unfold partOf
      first | (rw [if_pos (by assumption)]; rfl) | (rw [if_neg (by omega)]; rfl)
  · have e1 : ofOk n r = false := by simp [ofOk]; omega
    have e2 : ofVal n r = 0 := by simp [ofVal, e1]
    rw [e1, e2]
    clear e1 e2
    go_enter Try.func56, Try.ntmps56
    go_wp2
    all_goals first | (exfalso; omega) | skip
    all_goals
      go_ret2
      exact ⟨rfl, rfl⟩

theorem amount_calls (n : Int) (hw : -9223372036854775808 ≤ n ∧ n ≤ 9223372036854775807) (w : World) :
    Calls Try.prog 21 #[.int .i64 n] w fun e w' => e = .returned (.int .i64 (amount n)) ∧ w = w' := by
  obtain ⟨w1, w2⟩ := hw
  have a5 := within_lo (n.tdiv 23) (n := 5) (by omega)
  have b5 := within_hi (n.tdiv 23) (n := 5) (by omega)
  have a2 := within_lo (n.tdiv 23) (n := 200000000001) (by omega)
  have b2 := within_hi (n.tdiv 23) (n := 200000000001) (by omega)
  have a4 := within_lo n (n := 4001) (by omega)
  have b4 := within_hi n (n := 4001) (by omega)
  by_cases c1 : n.tmod 23 = 20
  · have b1 : (n.tmod 23 == 20) = true := by simpa using c1
    have e := Lib.hid (show amount n = 100000000000 - within (n.tdiv 23) 5 + 2 by simp [amount, c1])
    clear c1
    go_enter Try.func21, Try.ntmps21
    go_wp2_with (go_at_call 13; refine (within_calls _ _ _ (by omega) (by omega)).mono ?_; rintro e w' ⟨rfl, rfl⟩)
    go_ret
    exact ⟨by rw [e.out]; rfl, rfl⟩
  have b1 : (n.tmod 23 == 20) = false := by simpa using c1
  by_cases c2 : n.tmod 23 = 21
  · have b1 : (n.tmod 23 == 21) = true := by simpa using c2
    have e := Lib.hid (show amount n = -100000000000 + within (n.tdiv 23) 5 - 2 by simp [amount, c2])
    clear c1 c2
    go_enter Try.func21, Try.ntmps21
    go_wp2_with (go_at_call 13; refine (within_calls _ _ _ (by omega) (by omega)).mono ?_; rintro e w' ⟨rfl, rfl⟩)
    go_ret
    exact ⟨by rw [e.out]; rfl, rfl⟩
  have d1 : (n.tmod 23 == 21) = false := by simpa using c2
  by_cases c3 : n.tmod 23 = 22
  · have b1 : (n.tmod 23 == 22) = true := by simpa using c3
    have e := Lib.hid (show amount n = n by simp [amount, c3])
    clear c1 c2 c3
    go_enter Try.func21, Try.ntmps21
    go_wp2
    go_ret
    exact ⟨by rw [e.out]; rfl, rfl⟩
  have d2 : (n.tmod 23 == 22) = false := by simpa using c3
  by_cases c4 : n.tmod 23 = 19
  · have b1 : (n.tmod 23 == 19) = true := by simpa using c4
    have e := Lib.hid (show amount n = within (n.tdiv 23) 200000000001 - 100000000000 by simp [amount, c4])
    clear c1 c2 c3 c4
    go_enter Try.func21, Try.ntmps21
    go_wp2_with (go_at_call 13; refine (within_calls _ _ _ (by omega) (by omega)).mono ?_; rintro e w' ⟨rfl, rfl⟩)
    go_ret
    exact ⟨by rw [e.out]; rfl, rfl⟩
  · have d3 : (n.tmod 23 == 19) = false := by simpa using c4
    have e := Lib.hid (show amount n = within n 4001 - 2000 by simp [amount, c1, c2, c3, c4])
    clear c1 c2 c3 c4
    go_enter Try.func21, Try.ntmps21
    go_wp2_with (go_at_call 13; refine (within_calls _ _ _ (by omega) (by omega)).mono ?_; rintro e w' ⟨rfl, rfl⟩)
    go_ret
    exact ⟨by rw [e.out]; rfl, rfl⟩

theorem refOf_pos (n r : Int) (h : 0 ≤ n) (w : World) : Calls Try.prog 71 #[.int .i64 n, .int .i64 r] w fun e w' => e = .returned (.tuple #[.int .i64 (ofVal n r), .bool (ofOk n r)]) ∧ w = w' := by
  have hn : (n == 0) = true ∨ (n == 0) = false := by cases (n == 0) <;> simp
  by_cases hok : n ≤ 400000000000 ∧ 0 ≤ r ∧ r ≤ 10000000
  · obtain ⟨h2, h3, h4⟩ := hok
    obtain ⟨p1, p2⟩ := mul_bd (n := n) (by omega) h2 h3 h4
    have e1 : ofOk n r = true := by simp [ofOk]; omega
    have e2 : ofVal n r = partOf n r := by simp [ofVal, e1]
    have p3 : 0 ≤ n * r := Int.mul_nonneg h h3
    have p4 : n * r ≤ 4000000000000000000 := by rw [Int.mul_assoc] at p2; omega
    have p5 : partOf n r = if 2 * (n * r % 1000000) ≥ 1000000 then n * r / 1000000 + 1 else n * r / 1000000 := by
      unfold partOf
      rw [if_neg (by omega), Int.mul_assoc, Int.tdiv_eq_ediv_of_nonneg (by omega)]
      split <;> omega
    have P5 := Lib.hid p5
    rw [e1, e2]
    clear e1 e2 p1 p2 p5 hn
    go_enter Try.func71, Try.ntmps71
    go_wp2
    all_goals first | (exfalso; omega) | skip
    all_goals
      go_ret2
      refine ⟨?_, rfl⟩
      rw [P5.out]
      first | (rw [if_pos (by omega)]; rfl) | (rw [if_neg (by omega)]; rfl)
  · have e1 : ofOk n r = false := by simp [ofOk]; omega
    have e2 : ofVal n r = 0 := by simp [ofVal, e1]
    rw [e1, e2]
    clear e1 e2 hn
    go_enter Try.func71, Try.ntmps71
    go_wp2
    all_goals first | (exfalso; omega) | skip
    all_goals
      go_ret2
      exact ⟨rfl, rfl⟩
theorem refOf_calls (n r : Int) (w : World) : Calls Try.prog 71 #[.int .i64 n, .int .i64 r] w fun e w' => e = .returned (.tuple #[.int .i64 (ofVal n r), .bool (ofOk n r)]) ∧ w = w' := by
  by_cases h : 0 ≤ n
  · exact refOf_pos n r h w
  have hb := ofVal_neg n r
  by_cases hok : -400000000000 ≤ n ∧ 0 ≤ r ∧ r ≤ 10000000
  · obtain ⟨h2, h3, h4⟩ := hok
    have e1 : ofOk n r = true := by simp [ofOk]; omega
    have e3 := ofOk_neg n r
    have e2 : -ofVal (-n) r = ofVal n r := by omega
    obtain ⟨b1, b2⟩ := ofVal_bd (-n) r
    have E2 := Lib.hid e2
    have E1 := Lib.hid e1
    have C := refOf_pos (-n) r (by omega)
    rw [e3, e1] at C
    have hlt : n < 0 := by omega
    rw [e1]
    clear e1 e2 e3 hb h
    go_enter Try.func71, Try.ntmps71
    go_wp2_with (go_at_call 71; refine (C _).mono ?_; rintro e w' ⟨rfl, rfl⟩)
    all_goals first | (exfalso; omega) | skip
    all_goals
      go_ret2
      exact ⟨by rw [← E2.out]; rfl, rfl⟩
  · have e1 : ofOk n r = false := by simp [ofOk]; omega
    have e2 : ofVal n r = 0 := by simp [ofVal, e1]
    rw [e1, e2]
    clear e1 e2 hb
    go_enter Try.func71, Try.ntmps71
    go_wp2_with fail
    all_goals first | (exfalso; omega) | skip
    all_goals
      go_ret2
      exact ⟨rfl, rfl⟩
end Go.Proofs.Ytpigoegjoagbnaa
end
section
/- The walk of rate.Right. -/
namespace Go.Proofs.Ytpigoegjoagbnaa
open Go.RowKit Go.Sl
set_option maxHeartbeats 2000000
theorem rateRight_calls (r : Int) (w : World) : Calls Try.prog 50 #[.int .i64 r] w fun e w' => e = .returned (.bool (rightRate r)) ∧ w = w' := by
  go_enter Try.func50, Try.ntmps50
  go_wp2
  all_goals
    go_ret
    exact ⟨by simp [rightRate]; omega, rfl⟩
end Go.Proofs.Ytpigoegjoagbnaa
end
section
/- append onto a slice in a body's own memory. No program is named here. -/
namespace Go.Sl
open Go Go.RowKit
section
variable {P : Program} {α : Type} {k : Kd α} {h hx : Hp} {A B : Option Addr} {cap : Nat} {xs ys : List α} {w0 w : World} {l : List Hp}
theorem Env.at_mem (E : Env w0 w l) {h : Hp} (m : h ∈ l) : h.sub w := E.own.mem h m
/-- One flat element. -/
theorem wpList_eapp {ops : Array Oper} {rest : List Oper} {op : Oper} {a : Act} {Q : Exit → Act → World → Prop} {sx xx : Operand} {t e : TypeId} {z : Value} {bytes : Nat} {cs : List Value} {T : TypeId} {fr : Nat × Nat} {b : Nat}
    (i : Nat) (y : α) (ht : P.underlying t = some (.slice e)) (hinfo : Info P e z k.size bytes) (E : Env w0 w l) (hi : l[i]? = some h) (o : Ow k h A cap xs) (n : Nat) (hn : xs.length = n)
    (hzs : z.cells.size = k.size) (hgd : Region.wanted op (yielded ops a.tmps) = true)
    (ho : op.op = .call { callee := .builtin .append, args := #[sx, xx], argTypes := #[t, t] }) (c : Nat) (hsv : a.eval sx = .slice A n cap) (hxv : a.eval xx = .slice (some ⟨b, 0, none⟩) 1 c)
    (hb : w.heap[b]? = some (.cells cs.toArray T fr)) (hK : k.K Hp.none y cs)
    (hm : n + 1 ≤ 1000000000) (hby : bytes ≤ 1000)
    (H : ∀ A' cap' w' h', Ow k h' A' cap' (xs ++ [y]) → Env w0 w' (l.set i h') → wpList P ops Q rest (a.put op.dst (.slice A' (n + 1) cap')) w') : wpList P ops Q (op :: rest) a w :=
  wpList_app1f ht hinfo hzs hgd ho n c hsv hxv hn o (E.sub i hi) hb hK hm hby fun A' cap' w' h' h1 h2 => H A' cap' w' h' h1 (E.upd i hi h2)
/-- A whole slice of flat elements. -/
theorem wpList_eappF {ops : Array Oper} {rest : List Oper} {op : Oper} {a : Act} {Q : Exit → Act → World → Prop} {sx xx : Operand} {t e : TypeId} {z : Value} {bytes cb : Nat}
    (i : Nat) (ht : P.underlying t = some (.slice e)) (hinfo : Info P e z k.size bytes) (E : Env w0 w l) (hi : l[i]? = some h) (o : Ow k h A cap xs) (sy : Sl k hx B cb ys) (sx' : hx.sub w) (n m : Nat) (hn : xs.length = n) (hm' : ys.length = m)
    (f : k.Flat) (hzs : z.cells.size = k.size) (hgd : Region.wanted op (yielded ops a.tmps) = true)
    (ho : op.op = .call { callee := .builtin .append, args := #[sx, xx], argTypes := #[t, t] }) (c : Nat) (hsv : a.eval sx = .slice A n cap) (hxv : a.eval xx = .slice B m c)
    (hm : n + m ≤ 1000000000) (hby : bytes ≤ 1000)
    (H : ∀ A' cap' w' h', Ow k h' A' cap' (xs ++ ys) → Env w0 w' (l.set i h') → wpList P ops Q rest (a.put op.dst (.slice A' (n + m) cap')) w') : wpList P ops Q (op :: rest) a w :=
  wpList_appF ht hinfo hzs hgd ho n m c hsv hxv hn hm' f o (E.sub i hi) sy sx' hm hby fun A' cap' w' h' h1 h2 => H A' cap' w' h' h1 (E.upd i hi h2)
end
end Go.Sl
end
section
/- The walk of play.Rate. -/
namespace Go.Sl
open Go Go.RowKit
def rateTab : List Int := [250000, 300000, 190000, 0, 1000000, 333333, 500000, 1, 125000, 999999]
def rateOf (n : Int) : Int := if n.tmod 29 = 28 then n else rateTab.getD (within n 10).toNat 0
def rateCells : Array Value := #[.int .i64 250000, .int .i64 300000, .int .i64 190000, .int .i64 0, .int .i64 1000000, .int .i64 333333, .int .i64 500000, .int .i64 1, .int .i64 125000, .int .i64 999999]
theorem rateCells_get : ∀ k : Nat, k < 10 → rateCells[k]? = some (.int .i64 (rateTab.getD k 0))
  | 0, _ => rfl | 1, _ => rfl | 2, _ => rfl | 3, _ => rfl | 4, _ => rfl | 5, _ => rfl | 6, _ => rfl | 7, _ => rfl | 8, _ => rfl | 9, _ => rfl
  | k + 10, h => by omega
end Go.Sl
namespace Go.Proofs.Ytpigoegjoagbnaa
open Go.RowKit Go.Sl
set_option maxHeartbeats 1000000
set_option maxRecDepth 100000
theorem info_int : Info Try.prog 3 (.int .i64 0) 1 8 := by unfold Info; kernel_rfl
theorem playRate_calls (n : Int) (w : World) : Calls Try.prog 35 #[.int .i64 n] w fun e w' => e = .returned (.int .i64 (rateOf n)) ∧ Below w.heap.size w w' := by
  by_cases h : n.tmod 29 = 28
  · have HR : Hid (rateOf n = n) := by unfold Hid rateOf; rw [if_pos h]
    have t1 : (n.tmod 29 == 28) = true := by simpa using h
    clear h
    go_enter Try.func35, Try.ntmps35
    go_wp2
    go_ret
    exact ⟨by rw [HR.out]; rfl, Below.refl _ _⟩
  · have h1 := within_lo n (n := 10) (by omega)
    have h2 := within_hi n (n := 10) (by omega)
    obtain ⟨k, hk⟩ : ∃ k : Nat, within n 10 = (k : Int) := ⟨(within n 10).toNat, by omega⟩
    have HR : Hid (rateOf n = rateTab.getD k 0) := by unfold Hid rateOf; rw [if_neg h, hk]; rfl
    have hk10 : k < 10 := by omega
    have t1 : (n.tmod 29 == 28) = false := by simpa using h
    have WC := fun W => within_calls n 10 W (by omega) (by omega)
    rw [hk] at WC
    have hc : (w.alloc (.cells rateCells 3)).cell? ⟨w.heap.size, k, none⟩ = some (.int .i64 (rateTab.getD k 0)) := by rw [cell_new rfl]; exact rateCells_get k hk10
    unfold rateCells at hc
    generalize rateTab.getD k 0 = v at *
    have i1 : (0 : Int) ≤ (k : Int) := by omega
    have i2 : (k : Int) < 10 := by omega
    clear h h1 h2 hk
    go_enter Try.func35, Try.ntmps35
    go_wp2_with fail
    refine (WC _).mono ?_
    rintro e w' ⟨rfl, rfl⟩
    go_wp2
    go_ret
    exact ⟨by rw [HR.out]; rfl, (by repeat (first | exact Below.refl _ _ | apply Below.drew | refine Below.alloc ?_ (by simp) _))⟩
end Go.Proofs.Ytpigoegjoagbnaa
end
section
/- Small structs of a body's own, each in a block of its own. No program is named here. -/
namespace Go.Sl
open Go Go.RowKit
section
variable {h : Hp} {w0 w : World} {l : List Hp} {b : Nat} {cs : List Value} {T : TypeId}
abbrev Hp.box (b : Nat) (cs : List Value) (T : TypeId) : Hp := Hp.one b (.cells cs.toArray T (0, 0))
theorem Hp.none_put (b : Nat) (o : Obj) : Hp.none.put b o = Hp.one b o := by funext q; simp [Hp.put, Hp.one, Hp.none]
theorem Upd.oneSet (s : (Hp.box b cs T).sub w) (j : Nat) (v : Value) : Upd (Hp.box b cs T) (Hp.box b (cs.set j v) T) w (w.setCell ⟨b, j, .none⟩ v) := by
  have h := (Upd.field (h := Hp.box b cs T) (hr := Hp.none) (r' := Hp.none) (w1 := w) (v := v) j (Hp.one_self b _) s (Hp.none_le _) (Upd.of_below (Below.refl _ _))).1
  rw [Hp.none_put] at h; exact h
theorem Env.weak {k : Hp} (E : Env w0 w l) (i : Nat) (hi : l[i]? = some h) (hk : k.le h) : Env w0 w (l.set i k) := E.upd i hi ⟨rfl, rfl, rfl, Nat.le_refl _, fun _ _ _ => rfl, (E.sub i hi).le hk, fun q hq => .inl fun hn => by
  cases hh : k q with
  | none => exact hq hh
  | some o => rw [hk q o hh] at hn; cases hn⟩
/-- A field is stored. -/
theorem Env.cellset (E : Env w0 w l) (i : Nat) (hi : l[i]? = some (Hp.box b cs T)) (j : Nat) (v : Value) : Env w0 (w.setCell ⟨b, j, .none⟩ v) (l.set i (Hp.box b (cs.set j v) T)) := E.upd i hi (Upd.oneSet (E.sub i hi) j v)
theorem Env.cell (E : Env w0 w l) (i : Nat) (hi : l[i]? = some (Hp.box b cs T)) (j : Nat) {v : Value} (hv : cs[j]? = some v) : w.cell? ⟨b, j, .none⟩ = some v := by
  rw [cell_of_row w b j _ _ _ (E.sub i hi b _ (Hp.one_self b _))]; simpa using hv
theorem Env.free (E : Env w0 w l) (i : Nat) (hi : l[i]? = some (Hp.box b cs T)) (n : Nat) : w.frozen? ⟨b, n, .none⟩ = false := frozen_of_row w b n _ T (E.sub i hi b _ (Hp.one_self b _))
end
theorem Env.swap2 {w0 w : World} {a b c d : Hp} (E : Env w0 w [a, b, c, d]) : Env w0 w [a, b, d, c] :=
  ⟨⟨E.own.1, fun k hk => E.own.2.1 k (by simp at hk ⊢; rcases hk with h | h | h <;> simp [h]), E.own.2.2.1, fun k hk => E.own.2.2.2.1 k (by simp at hk ⊢; rcases hk with h | h <;> simp [h]), E.own.2.2.2.2.swap⟩, fun h m => E.fr h (by simp at m ⊢; rcases m with h | h | h | h <;> simp [h]), E.low⟩
theorem Below.drN {B : Nat} {a w : World} (h : Below B a w) (n : Nat) : Below B a (w.drewN n) := h.trans ⟨rfl, rfl, rfl, Nat.le_refl _, fun _ _ => rfl⟩
/-- What was made since the start. -/
theorem Env.made {w0 w : World} {l : List Hp} {h : Hp} (E : Env w0 w l) (m : h ∈ l) : Upd Hp.none h w0 w := ⟨E.low.os, E.low.tape, E.low.output, E.low.size, fun q hq _ => E.low.block q hq, E.own.mem h m, fun q hq => .inr (E.fr h m q hq)⟩
/-- A call that turns nothing, in a quiet region: the first one of a walk, or a later one. -/
theorem quiet_one {P : Program} {f : FuncId} {args : Array Value} {W : World} {n : Nat} {v : Value} (h : Calls P f args (W.drewN n) fun e w' => e = .returned v ∧ W.drewN n = w') :
    Calls P f args (W.drewN n) fun e w' => e = .returned v ∧ ∃ m, w' = W.drewN m := h.mono fun _ _ ⟨a, b⟩ => ⟨a, n, b.symm⟩
theorem quiet_more {P : Program} {f : FuncId} {args : Array Value} {W : World} {k n : Nat} {v : Value} (h : Calls P f args (W.drewN (k + n)) fun e w' => e = .returned v ∧ W.drewN (k + n) = w') :
    Calls P f args (W.drewN (k + n)) fun e w' => e = .returned v ∧ ∃ m, w' = W.drewN (k + m) := h.mono fun _ _ ⟨a, b⟩ => ⟨a, n, b.symm⟩
end Go.Sl
end
section
/- What the type table says of api.Vintage. -/
namespace Go.Proofs.Ytpigoegjoagbnaa
open Go.RowKit Go.Sl
set_option maxHeartbeats 1000000
set_option maxRecDepth 100000
theorem info_vint : Info Try.prog 34 (.agg #[.int .i64 0, .int .i64 0, .int .i64 0]) 3 24 := by unfold Info; kernel_rfl
end Go.Proofs.Ytpigoegjoagbnaa
end
section
/- The walks of rate.Floor, use.Room, use.Vector, use.Used, current.right. -/
namespace Go.Sl
open Go Go.RowKit
def floorOk (n r : Int) : Bool := decide (0 ≤ n ∧ n ≤ 100000000000 ∧ 0 ≤ r ∧ r ≤ 1000000)
def floorV (n r : Int) : Int := if floorOk n r then (n * r).tdiv 1000000 else 0
def roomV (income most : Int) : Int := if income < 1 then 0 else floorV income most
def useOf (year : Int) (x : STri) (left : Int) : Int := if year ≤ x.b then min x.c left else 0
def vecGo (year : Int) : List STri → Int → List Int
  | [], _ => []
  | x :: xs, left => useOf year x left :: vecGo year xs (left - useOf year x left)
theorem vecGo_snoc (year : Int) (x : STri) : ∀ (xs : List STri) (left : Int), vecGo year (xs ++ [x]) left = vecGo year xs left ++ [useOf year x (left - (vecGo year xs left).sum)]
  | [], left => by simp [vecGo]
  | y :: ys, left => by
    simp only [List.cons_append, vecGo, List.sum_cons]
    rw [vecGo_snoc year x ys]
    congr 4; omega
theorem vecGo_len (year : Int) : ∀ (xs : List STri) (left : Int), (vecGo year xs left).length = xs.length
  | [], _ => rfl
  | x :: xs, left => by simp [vecGo, vecGo_len year xs]
theorem useOf_bd {year left : Int} {x : STri} (hx : 0 ≤ x.c) (hl : 0 ≤ left) : 0 ≤ useOf year x left ∧ useOf year x left ≤ left ∧ useOf year x left ≤ x.c := by
  unfold useOf; split <;> omega
theorem vecGo_bd (year : Int) : ∀ (xs : List STri) (left : Int), (∀ x ∈ xs, 0 ≤ x.c) → 0 ≤ left → 0 ≤ (vecGo year xs left).sum ∧ (vecGo year xs left).sum ≤ left ∧ ∀ u ∈ vecGo year xs left, 0 ≤ u ∧ u ≤ left
  | [], left, _, h => by simp [vecGo]; exact h
  | x :: xs, left, hx, h => by
    have h1 := useOf_bd (year := year) (hx x (by simp)) h
    obtain ⟨i1, i2, i3⟩ := vecGo_bd year xs (left - useOf year x left) (fun y hy => hx y (by simp [hy])) (by omega)
    simp only [vecGo, List.sum_cons]
    refine ⟨by omega, by omega, fun u hu => ?_⟩
    rcases List.mem_cons.1 hu with rfl | hu
    · omega
    · have := i3 u hu; omega
end Go.Sl
namespace Go.Proofs.Ytpigoegjoagbnaa
open Go.RowKit Go.Sl
set_option maxHeartbeats 2000000
set_option maxRecDepth 100000
theorem used_calls (A : Option Addr) (ca : Nat) (us : List Int) (h : Hp) (w : World) (hs : h.sub w) (sx : Sl kInt h A ca us) (hb : ∀ j, j ≤ us.length → -1000000000000000 ≤ (us.take j).sum ∧ (us.take j).sum ≤ 1000000000000000) :
    Calls Try.prog 55 #[.slice A us.length ca] w fun e w' => e = .returned (.int .i64 us.sum) ∧ Below w.heap.size w w' := by
  have m1 := sx.small
  have HB := Lib.hid hb
  clear hb
  go_enter Try.func55, Try.ntmps55
  go_wp2
  go_loopw [3, 8] (fun s i wr => ∃ (j : Nat), j ≤ us.length ∧ i = .int .i64 j ∧ s = .int .i64 (us.take j).sum ∧ Below w.heap.size w wr) (fun _ i _ => us.length - (intOf i).toNat)
  case atStart => exact ⟨0, by omega, rfl, by simp, Below.refl _ _⟩
  case round =>
    obtain ⟨j, hj, rfl, rfl, B⟩ := hrel
    by_cases hlt : j < us.length
    · obtain ⟨u, hu⟩ := some_of_lt hlt
      obtain ⟨b1, o1, rfl, c1⟩ := sx.int (hs.of_below B) hu
      have i1 : (0 : Int) ≤ (j : Int) := by omega
      have i2 : (j : Int) < (us.length : Int) := by omega
      have h1 := HB.out j hj
      have h2 := HB.out (j + 1) (by omega)
      have HS : Hid ((us.take (j + 1)).sum = (us.take j).sum + u) := by unfold Hid; rw [take_next hu, List.sum_append]; simp
      rw [HS.out] at h2
      generalize (us.take j).sum = s at *
      go_wp2
      go_roundw
      case rel => exact ⟨j + 1, by omega, by go_num, by rw [HS.out], B⟩
      case measure => simp [intOf]; omega
    · obtain rfl : j = us.length := by omega
      rw [List.take_length]
      go_wp2
      go_ret
      exact ⟨rfl, B⟩
theorem vector_calls (A : Option Addr) (ca : Nat) (rows : List STri) (year room : Int) (h : Hp) (w : World) (hs : h.sub w) (sx : Sl kTri h A ca rows) (hl : rows.length ≤ 1000) (hc : ∀ x ∈ rows, 0 ≤ x.c) (hr : room ≤ 1000000000000000) (hr2 : -1000000000000000 ≤ room) :
    Calls Try.prog 53 #[.slice A rows.length ca, .int .i64 year, .int .i64 room] w fun e w' => ∃ C cap h', e = .returned (.slice C rows.length cap) ∧ Ow kInt h' C cap (vecGo year rows (max 0 room)) ∧ Upd Hp.none h' w w' := by
  have m1 := sx.small
  have E0 := (Env.start w).new (Upd.of_below (Below.refl w.heap.size w))
  simp at E0
  have hmx : (if (0 : Int) ≤ room then room else 0) = max 0 room := by omega
  have L0 : 0 ≤ max 0 room := by omega
  have L1 : max 0 room ≤ 1000000000000000 := by omega
  go_enter Try.func53, Try.ntmps53
  go_wp2
  generalize hM : max 0 room = M at *
  go_loopw [7, 8, 16] (fun v o i wr => ∃ (j cap : Nat) (C : Option Addr) (hv : Hp), j ≤ rows.length ∧ i = .int .i64 j ∧ v = .int .i64 (M - (vecGo year (rows.take j) M).sum) ∧ o = .slice C j cap ∧ Ow kInt hv C cap (vecGo year (rows.take j) M) ∧ Env w wr [hv]) (fun _ _ i _ => rows.length - (intOf i).toNat)
  case atStart => exact ⟨0, 0, none, Hp.none, by omega, rfl, by simp [vecGo], rfl, Ow.none _ _, E0⟩
  case round =>
    clear E0
    obtain ⟨j, cap, C, hv, hj, rfl, rfl, rfl, o, E⟩ := hrel
    by_cases hlt : j < rows.length
    · obtain ⟨x, hx⟩ := some_of_lt hlt
      obtain ⟨b1, o1, rfl, c1, c2, c3⟩ := sx.tri (hs.of_below E.low) hx
      have i1 : (0 : Int) ≤ (j : Int) := by omega
      have i2 : (j : Int) < (rows.length : Int) := by omega
      have hbd := vecGo_bd year (rows.take j) M (fun z hz => hc z (List.mem_of_mem_take hz)) L0
      have hxc := hc x (List.mem_of_getElem? hx.out)
      have HV : Hid (vecGo year (rows.take (j + 1)) M = vecGo year (rows.take j) M ++ [useOf year x (M - (vecGo year (rows.take j) M).sum)]) := by unfold Hid; rw [take_next hx, vecGo_snoc]
      have hub := useOf_bd (year := year) (x := x) (left := M - (vecGo year (rows.take j) M).sum) hxc (by omega)
      have hvl : Hid ((vecGo year (rows.take j) M).length = j) := by unfold Hid; rw [vecGo_len, List.length_take]; omega
      have HSm : Hid ((vecGo year (rows.take (j + 1)) M).sum = (vecGo year (rows.take j) M).sum + useOf year x (M - (vecGo year (rows.take j) M).sum)) := by unfold Hid; rw [HV.out, List.sum_append]; simp
      by_cases hy : year ≤ x.b
      · have ty : decide (year ≤ x.b) = true := by simpa using hy
        have HU : useOf year x (M - (vecGo year (rows.take j) M).sum) = min x.c (M - (vecGo year (rows.take j) M).sum) := by unfold useOf; rw [if_pos hy]
        rw [HU] at HV HSm hub
        have HRel : Hid (M - (vecGo year (rows.take (j + 1)) M).sum = M - (vecGo year (rows.take j) M).sum - min x.c (M - (vecGo year (rows.take j) M).sum)) := by unfold Hid; rw [HSm.out]; omega
        clear HU hy HSm
        generalize hS : (vecGo year (rows.take j) M).sum = S at *
        generalize vecGo year (rows.take j) M = V1 at *
        obtain ⟨q, hq⟩ : ∃ q, min x.c (M - S) = q := ⟨_, rfl⟩
        rw [hq] at HV HRel hub
        have hwS : IntKind.i64.wrap (M - S - q) = M - S - q := by rw [IntKind.wrap_i64]; omega
        go_wp2_with (at_builtin; refine wpList_eapp 0 q Try.underlying26 info_int (by repeat (first | (with_reducible exact E) | (with_reducible apply Env.drew) | (with_reducible apply Env.drewN) | (with_reducible apply Env.alloc'))) (by rfl) o j hvl.out (by rfl) (by rfl) rfl 1 (by rfl) (by rfl) (heap_new_at (by simp)) (by rfl) (by omega) (by omega) ?_; intro C5 n5 w5 h5 o5 E5)
        simp only [List.set_cons_zero] at E5
        go_roundw
        case rel => exact ⟨j + 1, n5, C5, h5, by omega, by go_num, by rw [HRel.out], rfl, by rw [HV.out]; exact o5, E5⟩
        case measure => simp [intOf]; omega
      · have ty : decide (year ≤ x.b) = false := by simpa using hy
        have HU : useOf year x (M - (vecGo year (rows.take j) M).sum) = 0 := by unfold useOf; rw [if_neg hy]
        rw [HU] at HV HSm
        have HRel : Hid (M - (vecGo year (rows.take (j + 1)) M).sum = M - (vecGo year (rows.take j) M).sum) := by unfold Hid; rw [HSm.out]; omega
        clear HU hy HSm
        generalize hS : (vecGo year (rows.take j) M).sum = S at *
        generalize vecGo year (rows.take j) M = V1 at *
        go_wp2_with (at_builtin; refine wpList_eapp 0 (0 : Int) Try.underlying26 info_int (by repeat (first | (with_reducible exact E) | (with_reducible apply Env.drew) | (with_reducible apply Env.drewN) | (with_reducible apply Env.alloc'))) (by rfl) o j hvl.out (by rfl) (by rfl) rfl 1 (by rfl) (by rfl) (heap_new_at (by simp)) (by rfl) (by omega) (by omega) ?_; intro C5 n5 w5 h5 o5 E5)
        simp only [List.set_cons_zero] at E5
        go_roundw
        case rel => exact ⟨j + 1, n5, C5, h5, by omega, by go_num, by rw [HRel.out], rfl, by rw [HV.out]; exact o5, E5⟩
        case measure => simp [intOf]; omega
    · obtain rfl : j = rows.length := by omega
      rw [List.take_length] at o
      have UM := E.made (h := hv) (by simp)
      go_wp2
      go_ret
      exact ⟨C, cap, hv, rfl, by rw [hM]; exact o, UM⟩
theorem floor_calls (n r : Int) (w : World) : Calls Try.prog 68 #[.int .i64 n, .int .i64 r] w fun e w' => e = .returned (.tuple #[.int .i64 (floorV n r), .bool (floorOk n r)]) ∧ w = w' := by
  have MC := fun W : World => money_calls n W
  have RC := fun W : World => rateRight_calls r W
  have HM : money n = decide (-100000000000 ≤ n ∧ n ≤ 100000000000) := rfl
  have HR : rightRate r = decide (0 ≤ r ∧ r ≤ 1000000) := rfl
  cases hm : money n with
  | false =>
    have hO : floorOk n r = false := by rw [hm] at HM; simp at HM; simp [floorOk]; omega
    have hV : Hid (floorV n r = 0) := by unfold Hid floorV; rw [hO]; rfl
    rw [hm] at MC
    clear HM HR hm
    have hO := Lib.hid hO
    go_enter Try.func68, Try.ntmps68
    go_wp2_with fail
    refine (MC _).mono ?_
    rintro e w' ⟨rfl, rfl⟩
    go_wp2
    go_ret2
    exact ⟨by rw [hV.out, hO.out]; rfl, rfl⟩
  | true =>
  have hmb : -100000000000 ≤ n ∧ n ≤ 100000000000 := by rw [hm] at HM; simpa using HM.symm
  rw [hm] at MC
  by_cases hn : n < 0
  · have hO : floorOk n r = false := by simp [floorOk]; omega
    have hV : Hid (floorV n r = 0) := by unfold Hid floorV; rw [hO]; rfl
    have t1 : decide (n < 0) = true := by simpa using hn
    clear HM HR hm hn
    have hO := Lib.hid hO
    go_enter Try.func68, Try.ntmps68
    go_wp2_with fail
    refine (MC _).mono ?_
    rintro e w' ⟨rfl, rfl⟩
    go_wp2
    go_ret2
    exact ⟨by rw [hV.out, hO.out]; rfl, rfl⟩
  have t1 : decide (n < 0) = false := by simpa using hn
  cases hr : rightRate r with
  | false =>
    have hO : floorOk n r = false := by rw [hr] at HR; simp at HR; simp [floorOk]; omega
    have hV : Hid (floorV n r = 0) := by unfold Hid floorV; rw [hO]; rfl
    rw [hr] at RC
    clear HM HR hm hr hn
    have hO := Lib.hid hO
    go_enter Try.func68, Try.ntmps68
    go_wp2_with fail
    refine (MC _).mono ?_
    rintro e w' ⟨rfl, rfl⟩
    go_wp2_with fail
    refine (RC _).mono ?_
    rintro e w' ⟨rfl, rfl⟩
    go_wp2
    go_ret2
    exact ⟨by rw [hV.out, hO.out]; rfl, rfl⟩
  | true =>
  have hrb : 0 ≤ r ∧ r ≤ 1000000 := by rw [hr] at HR; simpa using HR.symm
  have hO : floorOk n r = true := by simp [floorOk]; omega
  have hV : Hid (floorV n r = (n * r).tdiv 1000000) := by unfold Hid floorV; rw [hO]; rfl
  have hp : 0 ≤ n * r ∧ n * r ≤ 100000000000 * 1000000 := ⟨Int.mul_nonneg (by omega) hrb.1, Int.mul_le_mul hmb.2 hrb.2 hrb.1 (by omega)⟩
  have hwp : IntKind.i64.wrap (n * r) = n * r := by rw [IntKind.wrap_i64]; omega
  have hwq : IntKind.i64.wrap ((n * r).tdiv 1000000) = (n * r).tdiv 1000000 := by rw [IntKind.wrap_i64, Int.tdiv_eq_ediv_of_nonneg hp.1]; omega
  rw [hr] at RC
  clear HM HR hm hr hn
  have hO := Lib.hid hO
  go_enter Try.func68, Try.ntmps68
  go_wp2_with fail
  refine (MC _).mono ?_
  rintro e w' ⟨rfl, rfl⟩
  go_wp2_with fail
  refine (RC _).mono ?_
  rintro e w' ⟨rfl, rfl⟩
  go_wp2
  go_ret2
  exact ⟨by rw [hV.out, hO.out]; rfl, rfl⟩
theorem room_calls (income most : Int) (w : World) : Calls Try.prog 54 #[.int .i64 income, .int .i64 most] w fun e w' => e = .returned (.int .i64 (roomV income most)) ∧ w = w' := by
  have FC := fun W : World => floor_calls income most W
  by_cases h : income < 1
  · have t1 : decide (income < 1) = true := by simpa using h
    have HR : Hid (roomV income most = 0) := by unfold Hid roomV; rw [if_pos h]
    clear h FC
    go_enter Try.func54, Try.ntmps54
    go_wp2
    go_ret
    exact ⟨by rw [HR.out]; rfl, rfl⟩
  · have t1 : decide (income < 1) = false := by simpa using h
    have HR : Hid (roomV income most = floorV income most) := by unfold Hid roomV; rw [if_neg h]
    clear h
    generalize floorV income most = v at *
    generalize floorOk income most = b at *
    go_enter Try.func54, Try.ntmps54
    go_wp2_with fail
    refine (FC _).mono ?_
    rintro e w' ⟨rfl, rfl⟩
    go_wp2
    go_ret
    exact ⟨by rw [HR.out]; rfl, rfl⟩
theorem curRight_calls (y : Int) (w : World) : Calls Try.prog 51 #[.int .i64 y] w fun e w' => e = .returned (.bool (decide (0 ≤ y ∧ y ≤ 99))) ∧ w = w' := by
  go_enter Try.func51, Try.ntmps51
  go_wp2
  all_goals
    go_ret
    exact ⟨by simp; omega, rfl⟩
end Go.Proofs.Ytpigoegjoagbnaa
end
section
/- The walks of rate.Sum and bridge.Income. -/
namespace Go.Sl
open Go Go.RowKit
def sumOk (zs : List Int) : Bool := zs.all money && money zs.sum
def sumV (zs : List Int) : Int := if sumOk zs then zs.sum else 0
def incOk (b p m : Int) : Bool := money b && (money p && (money m && money (b + p - m)))
def incV (b p m : Int) : Int := if incOk b p m then b + p - m else 0
theorem sum_money : ∀ zs : List Int, (∀ z ∈ zs, money z = true) → -(zs.length * 100000000000 : Int) ≤ zs.sum ∧ zs.sum ≤ zs.length * 100000000000
  | [], _ => by simp
  | z :: zs, h => by
    have h1 : -100000000000 ≤ z ∧ z ≤ 100000000000 := by simpa [money] using h z (by simp)
    have h2 := sum_money zs fun y hy => h y (by simp [hy])
    simp only [List.sum_cons, List.length_cons, Int.natCast_add, Int.natCast_one, Int.add_mul, Int.one_mul]
    omega
end Go.Sl
namespace Go.Proofs.Ytpigoegjoagbnaa
open Go.RowKit Go.Sl
set_option maxHeartbeats 2000000
set_option maxRecDepth 100000
theorem sum_calls (A : Option Addr) (ca : Nat) (zs : List Int) (h : Hp) (w : World) (hs : h.sub w) (sx : Sl kInt h A ca zs) (hl : zs.length ≤ 1000) :
    Calls Try.prog 67 #[.slice A zs.length ca] w fun e w' => e = .returned (.tuple #[.int .i64 (sumV zs), .bool (sumOk zs)]) ∧ Below w.heap.size w w' := by
  have m1 := sx.small
  go_enter Try.func67, Try.ntmps67
  go_wp2
  go_loopw [4, 9] (fun s i wr => ∃ (j : Nat), j ≤ zs.length ∧ i = .int .i64 j ∧ s = .int .i64 (zs.take j).sum ∧ Hid (∀ z ∈ zs.take j, money z = true) ∧ Below w.heap.size w wr) (fun _ i _ => zs.length - (intOf i).toNat)
  case atStart => exact ⟨0, by omega, rfl, by simp, by unfold Hid; simp, Below.refl _ _⟩
  case round =>
    obtain ⟨j, hj, rfl, rfl, hm, B⟩ := hrel
    have hb := sum_money (zs.take j) hm.out
    rw [List.length_take] at hb
    by_cases hlt : j < zs.length
    · obtain ⟨z, hz⟩ := some_of_lt hlt
      obtain ⟨b1, o1, rfl, c1⟩ := sx.int (hs.of_below B) hz
      have i1 : (0 : Int) ≤ (j : Int) := by omega
      have i2 : (j : Int) < (zs.length : Int) := by omega
      have MC := fun W : World => money_calls z W
      cases hmz : money z with
      | false =>
        have HO : Hid (sumOk zs = false) := by
          unfold Hid sumOk
          have : zs.all money = false := by rw [List.all_eq_false]; exact ⟨z, List.mem_of_getElem? hz.out, by rw [hmz]; simp⟩
          rw [this]; rfl
        rw [hmz] at MC
        have HV : Hid (sumV zs = 0) := by unfold Hid sumV; rw [HO.out]; rfl
        clear hmz hb
        go_wp2_with fail
        refine (MC _).mono ?_
        rintro e w' ⟨rfl, rfl⟩
        go_wp2
        go_ret2
        exact ⟨by rw [HV.out, HO.out]; rfl, B⟩
      | true =>
        have hzb : -100000000000 ≤ z ∧ z ≤ 100000000000 := by simpa [money] using hmz
        have HS : Hid ((zs.take (j + 1)).sum = (zs.take j).sum + z) := by unfold Hid; rw [take_next hz, List.sum_append]; simp
        have HM : Hid (∀ y ∈ zs.take (j + 1), money y = true) := fun y hy => by
          rw [take_next hz] at hy
          rcases List.mem_append.1 hy with hy | hy
          · exact hm.out y hy
          · simp at hy; rw [hy]; exact hmz
        rw [hmz] at MC
        clear hmz
        generalize (zs.take j).sum = s at *
        go_wp2_with fail
        refine (MC _).mono ?_
        rintro e w' ⟨rfl, rfl⟩
        go_wp2
        go_roundw
        case rel => exact ⟨j + 1, by omega, by go_num, by rw [HS.out], HM, B⟩
        case measure => simp [intOf]; omega
    · obtain rfl : j = zs.length := by omega
      rw [List.take_length] at hm
      rw [List.take_length]
      have HA : zs.all money = true := List.all_eq_true.2 hm.out
      have MC := fun W : World => money_calls zs.sum W
      have HO : Hid (sumOk zs = money zs.sum) := by unfold Hid sumOk; rw [HA]; rfl
      have HV : Hid (sumV zs = if sumOk zs then zs.sum else 0) := rfl
      clear HA hb
      generalize zs.sum = s at *
      cases hms : money s with
      | false =>
        have HO2 : Hid (sumOk zs = false) := by unfold Hid; rw [HO.out, hms]
        have HV2 : Hid (sumV zs = 0) := by unfold Hid; rw [HV.out, HO2.out]; rfl
        clear HV
        rw [hms] at MC
        clear hms
        go_wp2_with fail
        refine (MC _).mono ?_
        rintro e w' ⟨rfl, rfl⟩
        go_wp2
        go_ret2
        exact ⟨by rw [HV2.out, HO2.out]; rfl, B⟩
      | true =>
        have HO2 : Hid (sumOk zs = true) := by unfold Hid; rw [HO.out, hms]
        have HV2 : Hid (sumV zs = s) := by unfold Hid; rw [HV.out, HO2.out]; rfl
        clear HV
        rw [hms] at MC
        clear hms
        go_wp2_with fail
        refine (MC _).mono ?_
        rintro e w' ⟨rfl, rfl⟩
        go_wp2
        go_ret2
        exact ⟨by rw [HV2.out, HO2.out]; rfl, B⟩
theorem income_calls (b p m : Int) (w : World) : Calls Try.prog 52 #[.int .i64 b, .int .i64 p, .int .i64 m] w fun e w' => e = .returned (.tuple #[.int .i64 (incV b p m), .bool (incOk b p m)]) ∧ Below w.heap.size w w' := by
  have MC := fun W : World => money_calls m W
  cases hm : money m with
  | false =>
    have HO : Hid (incOk b p m = false) := by unfold Hid incOk; rw [hm]; simp
    have HV : Hid (incV b p m = 0) := by unfold Hid incV; rw [HO.out]; rfl
    rw [hm] at MC
    clear hm
    go_enter Try.func52, Try.ntmps52
    go_wp2_with fail
    refine (MC _).mono ?_
    rintro e w' ⟨rfl, rfl⟩
    go_wp2
    go_ret2
    exact ⟨by rw [HV.out, HO.out]; rfl, Below.refl _ _⟩
  | true =>
    have hmb : -100000000000 ≤ m ∧ m ≤ 100000000000 := by simpa [money] using hm
    have HO : Hid (incOk b p m = sumOk [b, p, -m]) := by
      unfold Hid incOk sumOk
      have : money (-m) = true := by simp [money]; omega
      simp only [List.all_cons, List.all_nil, this, hm, List.sum_cons, List.sum_nil, Bool.and_true, Bool.true_and]
      rw [show b + (p + (-m + 0)) = b + p - m by omega, Bool.and_assoc]
    have HV : Hid (incV b p m = sumV [b, p, -m]) := by
      unfold Hid incV sumV; rw [HO.out]
      split
      · simp; omega
      · rfl
    have E0 := (Env.start w).alloc (.cells #[.int .i64 b, .int .i64 p, .int .i64 (-m)] 3)
    simp at E0
    have SC := sum_calls (some ⟨w.heap.size, 0, none⟩) 3 [b, p, -m] _ _ (E0.sub 0 rfl) (Sl.litInt (xs := [b, p, -m]) (Hp.one_self _ _) rfl (by unfold maxLen; simp)) (by simp)
    rw [show ([b, p, -m] : List Int).length = 3 from rfl] at SC
    rw [hm] at MC
    clear hm
    rw [HV.out, HO.out]
    clear HV HO
    generalize sumV [b, p, -m] = v at *
    generalize sumOk [b, p, -m] = q at *
    go_enter Try.func52, Try.ntmps52
    go_wp2_with fail
    refine (MC _).mono ?_
    rintro e w' ⟨rfl, rfl⟩
    go_wp2_with fail
    refine SC.mono ?_
    rintro e w2 ⟨rfl, B2⟩
    go_wp2
    go_ret2
    exact ⟨rfl, (E0.below B2).low⟩
end Go.Proofs.Ytpigoegjoagbnaa
end
section
/- More structs of the program as plain Lean, and how each lies in memory. No program is named here. -/
namespace Go.Sl
open Go Go.RowKit
/-- SWay, as its cells. -/
structure SWay where
  cls : Int
  yr : Int
  opn : Int
  mov : Int
  clo : Int
instance : DecidableEq SWay := fun x y => decidable_of_iff (x.cls = y.cls ∧ x.yr = y.yr ∧ x.opn = y.opn ∧ x.mov = y.mov ∧ x.clo = y.clo) (by cases x; cases y; simp)
def SWay.cells (x : SWay) : List Value := [.int .i64 x.cls, .int .i64 x.yr, .int .i64 x.opn, .int .i64 x.mov, .int .i64 x.clo]
def kWay : Kd SWay := Kd.flat 5 SWay.cells (by decide) (fun _ => rfl) (fun x u h => by simp [SWay.cells] at h; rcases h with rfl | rfl | rfl | rfl | rfl <;> rfl)
theorem kWay_flat : kWay.Flat := Kd.flat_flat
theorem Sl.way {h : Hp} {A : Option Addr} {cap : Nat} {xs : List SWay} {w : World} (s : Sl kWay h A cap xs) (hs : h.sub w) {i : Nat} {x : SWay} (hx : Hid (xs[i]? = some x)) :
    ∃ b off, A = some ⟨b, off, .none⟩ ∧ w.cell? ⟨b, off + i * 5, .none⟩ = some (.int .i64 x.cls) ∧ w.cell? ⟨b, off + i * 5 + 1, .none⟩ = some (.int .i64 x.yr) ∧ w.cell? ⟨b, off + i * 5 + 2, .none⟩ = some (.int .i64 x.opn) ∧ w.cell? ⟨b, off + i * 5 + 3, .none⟩ = some (.int .i64 x.mov) ∧ w.cell? ⟨b, off + i * 5 + 4, .none⟩ = some (.int .i64 x.clo) := by
  obtain ⟨b, off, cs, e, hK, _, hc⟩ := s.at hs hx.out
  have hK' : cs = SWay.cells x := hK
  subst hK'
  exact ⟨b, off, e, by simpa [kWay, Kd.flat] using hc 0 _ rfl, hc 1 _ rfl, hc 2 _ rfl, hc 3 _ rfl, hc 4 _ rfl⟩
/-- SRate, as its cells. -/
structure SRate where
  j : ByteArray
  yr : Int
  rt : Int
  per : Int
instance : DecidableEq SRate := fun x y => decidable_of_iff (x.j = y.j ∧ x.yr = y.yr ∧ x.rt = y.rt ∧ x.per = y.per) (by cases x; cases y; simp)
def SRate.cells (x : SRate) : List Value := [.string x.j, .int .i64 x.yr, .int .i64 x.rt, .int .i64 x.per]
def kRate : Kd SRate := Kd.flat 4 SRate.cells (by decide) (fun _ => rfl) (fun x u h => by simp [SRate.cells] at h; rcases h with rfl | rfl | rfl | rfl <;> rfl)
theorem kRate_flat : kRate.Flat := Kd.flat_flat
theorem Sl.rate {h : Hp} {A : Option Addr} {cap : Nat} {xs : List SRate} {w : World} (s : Sl kRate h A cap xs) (hs : h.sub w) {i : Nat} {x : SRate} (hx : Hid (xs[i]? = some x)) :
    ∃ b off, A = some ⟨b, off, .none⟩ ∧ w.cell? ⟨b, off + i * 4, .none⟩ = some (.string x.j) ∧ w.cell? ⟨b, off + i * 4 + 1, .none⟩ = some (.int .i64 x.yr) ∧ w.cell? ⟨b, off + i * 4 + 2, .none⟩ = some (.int .i64 x.rt) ∧ w.cell? ⟨b, off + i * 4 + 3, .none⟩ = some (.int .i64 x.per) := by
  obtain ⟨b, off, cs, e, hK, _, hc⟩ := s.at hs hx.out
  have hK' : cs = SRate.cells x := hK
  subst hK'
  exact ⟨b, off, e, by simpa [kRate, Kd.flat] using hc 0 _ rfl, hc 1 _ rfl, hc 2 _ rfl, hc 3 _ rfl⟩
/-- SPair, as its cells. -/
structure SPair where
  s : ByteArray
  b : ByteArray
  amt : Int
instance : DecidableEq SPair := fun x y => decidable_of_iff (x.s = y.s ∧ x.b = y.b ∧ x.amt = y.amt) (by cases x; cases y; simp)
def SPair.cells (x : SPair) : List Value := [.string x.s, .string x.b, .int .i64 x.amt]
def kPair : Kd SPair := Kd.flat 3 SPair.cells (by decide) (fun _ => rfl) (fun x u h => by simp [SPair.cells] at h; rcases h with rfl | rfl | rfl <;> rfl)
theorem kPair_flat : kPair.Flat := Kd.flat_flat
theorem Sl.pair {h : Hp} {A : Option Addr} {cap : Nat} {xs : List SPair} {w : World} (s : Sl kPair h A cap xs) (hs : h.sub w) {i : Nat} {x : SPair} (hx : Hid (xs[i]? = some x)) :
    ∃ b off, A = some ⟨b, off, .none⟩ ∧ w.cell? ⟨b, off + i * 3, .none⟩ = some (.string x.s) ∧ w.cell? ⟨b, off + i * 3 + 1, .none⟩ = some (.string x.b) ∧ w.cell? ⟨b, off + i * 3 + 2, .none⟩ = some (.int .i64 x.amt) := by
  obtain ⟨b, off, cs, e, hK, _, hc⟩ := s.at hs hx.out
  have hK' : cs = SPair.cells x := hK
  subst hK'
  exact ⟨b, off, e, by simpa [kPair, Kd.flat] using hc 0 _ rfl, hc 1 _ rfl, hc 2 _ rfl⟩
end Go.Sl
end
section
/- The order of strings, plain; pairs of them. No program is named here. -/
namespace Go.Sl
open Go Go.RowKit
def cmpS (a b : ByteArray) : Int := Lib.compareBytes a.data.toList b.data.toList
theorem cmpB_self : ∀ l : List UInt8, Lib.compareBytes l l = 0
  | [] => rfl
  | x :: l => by simp [Lib.compareBytes, UInt8.lt_irrefl, cmpB_self l]
theorem cmpB_rng : ∀ a b : List UInt8, Lib.compareBytes a b = -1 ∨ Lib.compareBytes a b = 0 ∨ Lib.compareBytes a b = 1
  | [], [] => by simp [Lib.compareBytes]
  | [], _ :: _ => by simp [Lib.compareBytes]
  | _ :: _, [] => by simp [Lib.compareBytes]
  | a :: az, b :: bs => by
    unfold Lib.compareBytes
    split
    · simp
    · split
      · simp
      · exact cmpB_rng az bs
theorem u8_tri (a b : UInt8) : a < b ∨ a = b ∨ b < a := by
  simp only [UInt8.lt_iff_toNat_lt, ← UInt8.toNat_inj]; omega
theorem cmpB_eq : ∀ {a b : List UInt8}, Lib.compareBytes a b = 0 → a = b
  | [], [], _ => rfl
  | [], _ :: _, h => by simp [Lib.compareBytes] at h
  | _ :: _, [], h => by simp [Lib.compareBytes] at h
  | a :: az, b :: bs, h => by
    unfold Lib.compareBytes at h
    split at h
    · simp at h
    · split at h
      · simp at h
      · rename_i h1 h2
        rcases u8_tri a b with h3 | h3 | h3
        · exact absurd h3 h1
        · rw [h3, cmpB_eq h]
        · exact absurd h3 h2
theorem u8_asymm {a b : UInt8} (h : a < b) : ¬ b < a := by simp only [UInt8.lt_iff_toNat_lt] at *; omega
theorem cmpB_swap : ∀ a b : List UInt8, Lib.compareBytes b a = -Lib.compareBytes a b
  | [], [] => rfl
  | [], _ :: _ => rfl
  | _ :: _, [] => rfl
  | a :: az, b :: bs => by
    unfold Lib.compareBytes
    by_cases h1 : a < b
    · rw [if_pos h1, if_neg (u8_asymm h1), if_pos h1]; rfl
    · by_cases h2 : b < a
      · rw [if_pos h2, if_neg h1, if_pos h2]
      · rw [if_neg h2, if_neg h1, if_neg h1, if_neg h2]; exact cmpB_swap az bs
theorem cmpB_trans : ∀ {a b c : List UInt8}, Lib.compareBytes a b = -1 → Lib.compareBytes b c = -1 → Lib.compareBytes a c = -1
  | [], [], _, h, _ => by simp [Lib.compareBytes] at h
  | [], _ :: _, [], _, h => by simp [Lib.compareBytes] at h
  | [], _ :: _, _ :: _, _, _ => rfl
  | _ :: _, [], _, h, _ => by simp [Lib.compareBytes] at h
  | _ :: _, _ :: _, [], _, h => by simp [Lib.compareBytes] at h
  | a :: az, b :: bs, c :: cs, h1, h2 => by
    unfold Lib.compareBytes at h1 h2 ⊢
    by_cases x1 : a < b
    · by_cases x2 : b < c
      · rw [if_pos (UInt8.lt_trans x1 x2)]
      · rw [if_neg x2] at h2
        by_cases x3 : c < b
        · rw [if_pos x3] at h2; simp at h2
        · have : b = c := by rcases u8_tri b c with h | h | h
                             · exact absurd h x2
                             · exact h
                             · exact absurd h x3
          subst this; rw [if_pos x1]
    · rw [if_neg x1] at h1
      by_cases x3 : b < a
      · rw [if_pos x3] at h1; simp at h1
      · have e : a = b := by rcases u8_tri a b with h | h | h
                             · exact absurd h x1
                             · exact h
                             · exact absurd h x3
        subst e
        rw [if_neg x1] at h1
        by_cases x2 : a < c
        · rw [if_pos x2]
        · rw [if_neg x2] at h2 ⊢
          by_cases x4 : c < a
          · rw [if_pos x4] at h2; simp at h2
          · rw [if_neg x4] at h2 ⊢
            exact cmpB_trans h1 h2
theorem ba_ext {a b : ByteArray} (h : a.data.toList = b.data.toList) : a = b := by
  cases a; cases b; congr 1; exact Array.toList_inj.1 h
theorem cmpS_eq {a b : ByteArray} : cmpS a b = 0 ↔ a = b := ⟨fun h => ba_ext (cmpB_eq h), fun h => by rw [h]; exact cmpB_self _⟩
/-- By the first, then the second. -/
def ordStr2 : Ord (ByteArray × ByteArray) := ⟨fun x y => decide (cmpS x.1 y.1 = -1 ∨ x.1 = y.1 ∧ cmpS x.2 y.2 = -1), by
    intro x; simp [cmpS, cmpB_self], by
    intro x y z h1 h2
    simp only [decide_eq_true_eq] at *
    rcases h1 with h1 | ⟨e1, h1⟩ <;> rcases h2 with h2 | ⟨e2, h2⟩
    · exact .inl (cmpB_trans h1 h2)
    · rw [← e2]; exact .inl h1
    · rw [e1]; exact .inl h2
    · exact .inr ⟨e1.trans e2, cmpB_trans h1 h2⟩, by
    intro x y
    simp only [decide_eq_true_eq]
    have s1 : cmpS y.1 x.1 = -cmpS x.1 y.1 := cmpB_swap _ _
    have s2 : cmpS y.2 x.2 = -cmpS x.2 y.2 := cmpB_swap _ _
    rcases cmpB_rng x.1.data.toList y.1.data.toList with h | h | h
    · exact .inl (.inl h)
    · have e := cmpS_eq.1 h
      rcases cmpB_rng x.2.data.toList y.2.data.toList with h' | h' | h'
      · exact .inl (.inr ⟨e, h'⟩)
      · exact .inr (.inl (Prod.ext e (cmpS_eq.1 h')))
      · exact .inr (.inr (.inr ⟨e.symm, by rw [s2, show cmpS x.2 y.2 = 1 from h']⟩))
    · exact .inr (.inr (.inl (by rw [s1, show cmpS x.1 y.1 = 1 from h])))⟩
def pkey (x : SPair) : ByteArray × ByteArray := (x.s, x.b)
end Go.Sl
end
section
/- Profit that is still in the group, plain. -/
namespace Go.Sl
open Go Go.RowKit
def noS (b : ByteArray) : Bool := b.toList.isEmpty
def hasP (l : List SPair) (s b : ByteArray) : Int := match find pkey (s, b) l with | some r => r.amt | none => 0
def isP (s b : ByteArray) (x : SPair) : Bool := decide (x.s = s ∧ x.b = b)
def nextP (l : List SPair) (s b : ByteArray) (v : Int) : List SPair := (l.filter fun x => !isP s b x) ++ (if v = 0 then [] else [⟨s, b, v⟩])
def addE (l : List SPair) (s b : ByteArray) (n : Int) : Int :=
  if (noS s || (noS b || (decide (s = b) || !money n))) = true then 1
  else if (decide (hasP l s b + n < 0) || !money (hasP l s b + n)) = true then 6
  else if 8 < (nextP l s b (hasP l s b + n)).length then 5 else 0
def addW (l : List SPair) (s b : ByteArray) (n : Int) : List SPair := if addE l s b n = 0 then isort ordStr2 pkey (nextP l s b (hasP l s b + n)) else l
/-- What holds of all. -/
structure GoodP (l : List SPair) : Prop where
  rise : Rising ordStr2 pkey l
  amt : ∀ x ∈ l, 1 ≤ x.amt ∧ x.amt ≤ 100000000000
  len : l.length ≤ 8
theorem GoodP.nil : GoodP [] := ⟨List.Pairwise.nil, by simp, by simp⟩
theorem filter_isP (l : List SPair) (s b : ByteArray) : (l.filter fun x => !isP s b x) = del pkey (s, b) l := by
  unfold del
  congr 1; funext x
  simp [isP, pkey]
theorem nextP_dist {l : List SPair} (h : Rising ordStr2 pkey l) (s b : ByteArray) (v : Int) : (nextP l s b v).Pairwise fun x y => pkey x ≠ pkey y := by
  unfold nextP
  rw [filter_isP]
  refine List.pairwise_append.2 ⟨(h.del ordStr2 pkey _).imp fun e => ordStr2.ne e, by split <;> simp, fun x hx y hy => ?_⟩
  split at hy
  · cases hy
  · simp at hy; subst hy
    exact (mem_del pkey |>.1 hx).2
theorem nextP_put {l : List SPair} (h : Rising ordStr2 pkey l) (s b : ByteArray) (v : Int) : isort ordStr2 pkey (nextP l s b v) = if v = 0 then del pkey (s, b) l else put ordStr2 pkey ⟨s, b, v⟩ l := by
  refine Rising.ext ordStr2 pkey (isort_rising _) ?_ fun x => ?_
  · split
    · exact h.del _ _ _
    · exact h.put _ _ _
  · rw [mem_isort (nextP_dist h s b v)]
    unfold nextP
    rw [filter_isP, List.mem_append]
    split
    · simp
    · rw [mem_put, mem_del]
      simp only [List.mem_singleton]
      constructor
      · rintro (h | h)
        · exact .inr h
        · exact .inl h
      · rintro (h | h)
        · exact .inr h
        · exact .inl h
theorem hasP_bd {l : List SPair} (g : GoodP l) (s b : ByteArray) : 0 ≤ hasP l s b ∧ hasP l s b ≤ 100000000000 := by
  unfold hasP
  split
  · rename_i r hr
    have := g.amt r (find_some hr).1; omega
  · omega
theorem addE_ok {l : List SPair} {s b : ByteArray} {n : Int} (h : addE l s b n = 0) : 0 ≤ hasP l s b + n ∧ hasP l s b + n ≤ 100000000000 ∧ (nextP l s b (hasP l s b + n)).length ≤ 8 := by
  unfold addE at h
  split at h
  · cases h
  · split at h
    · cases h
    · split at h
      · cases h
      · rename_i h1 h2 h3
        simp [money] at h2
        omega
theorem isort_length {l : List SPair} (h : l.Pairwise fun x y => pkey x ≠ pkey y) : (isort ordStr2 pkey l).length = l.length := by
  induction l with
  | nil => rfl
  | cons x l ih =>
    obtain ⟨h1, h2⟩ := List.pairwise_cons.1 h
    show (put ordStr2 pkey x (isort ordStr2 pkey l)).length = _
    have hn : find pkey (pkey x) (isort ordStr2 pkey l) = none := by
      unfold find; rw [List.find?_eq_none]; intro y hy
      have := h1 y ((mem_isort h2).1 hy)
      simpa using this.symm
    rw [len_put x (isort_rising l), del_none hn, ih h2]; rfl
theorem GoodP.add {l : List SPair} (g : GoodP l) (s b : ByteArray) (n : Int) : GoodP (addW l s b n) := by
  unfold addW
  split
  · rename_i h
    obtain ⟨h1, h2, h3⟩ := addE_ok h
    have hd := nextP_dist g.rise s b (hasP l s b + n)
    refine ⟨isort_rising _, fun x hx => ?_, by rw [isort_length hd]; exact h3⟩
    have hx := (mem_isort hd).1 hx
    unfold nextP at hx
    rcases List.mem_append.1 hx with hx | hx
    · exact g.amt x (List.mem_filter.1 hx).1
    · split at hx
      · cases hx
      · simp at hx; subst hx; show 1 ≤ hasP l s b + n ∧ hasP l s b + n ≤ 100000000000; omega
  · exact g
theorem hasP_idx (l : List SPair) (s b : ByteArray) : (idx (isP s b) l = -1 ∧ hasP l s b = 0) ∨ ∃ (i : Nat) (x : SPair), l[i]? = some x ∧ idx (isP s b) l = i ∧ hasP l s b = x.amt := by
  by_cases h : l.any (isP s b) = true
  · right
    have hlt : l.findIdx (isP s b) < l.length := List.findIdx_lt_length.2 (List.any_eq_true.1 h)
    refine ⟨l.findIdx (isP s b), l[l.findIdx (isP s b)], by simp [hlt], by unfold idx; rw [if_pos h], ?_⟩
    have hp := List.findIdx_getElem (w := hlt)
    unfold hasP find
    have : l.find? (fun y => decide (pkey y = (s, b))) = some l[l.findIdx (isP s b)] := by
      rw [List.find?_eq_some_iff_getElem]
      refine ⟨by simpa [isP, pkey] using hp, l.findIdx (isP s b), hlt, rfl, fun j hj => ?_⟩
      have := List.not_of_lt_findIdx hj
      have hf : isP s b l[j] = false := by simpa using this
      have e : isP s b l[j] = decide (pkey l[j] = (s, b)) := by simp [isP, pkey]
      rw [← e, hf]; rfl
    rw [this]
  · left
    have hn : ∀ y ∈ l, isP s b y = false := fun y hy => by
      cases e : isP s b y with
      | false => rfl
      | true => exact absurd (List.any_eq_true.2 ⟨y, hy, e⟩) h
    refine ⟨idx_miss hn, ?_⟩
    unfold hasP find
    have : l.find? (fun y => decide (pkey y = (s, b))) = none := by
      rw [List.find?_eq_none]; intro y hy; have := hn y hy; simpa [isP, pkey] using this
    rw [this]
/-- A struct's own: one slice of a kind. -/
def kOne {α : Type} (k : Kd α) : Kd (List α) where
  size := 1
  K h l cs := ∃ A cap, cs = [.slice A l.length cap] ∧ Ow k h A cap l
  pos := by decide
  len := by rintro h x cs ⟨A, cap, rfl, _⟩; rfl
  one := by rintro h x cs ⟨A, cap, rfl, _⟩ u hu; simp at hu; subst hu; rfl
  mono := by rintro h h' x cs ⟨A, cap, e, s⟩ l; exact ⟨A, cap, e, s.mono l⟩
theorem Pt.one {α : Type} {k : Kd α} {T : TypeId} {h : Hp} {b : Nat} {l : List α} {w : World} (p : Pt (kOne k) T h b l) (s : h.sub w) : ∃ A ca, h b = some (.cells #[.slice A l.length ca] T (0, 0)) ∧ w.cell? ⟨b, 0, .none⟩ = some (.slice A l.length ca) ∧ Ow k (h.del b) A ca l ∧ ∀ n, w.frozen? ⟨b, n, .none⟩ = false := by
  obtain ⟨cs, hb, A, ca, rfl, ow⟩ := p
  exact ⟨A, ca, hb, by rw [cell_of_row w b 0 _ _ _ (s b _ hb)]; rfl, ow, fun n => frozen_of_row w b n _ _ (s b _ hb)⟩
end Go.Sl
end
