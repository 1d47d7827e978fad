/- Walks and plain facts that the laws of this seat share, part 5: contracts of functions, each said at its theorem. -/
import Derived.Test.YtpigoegjoagbnaaPk4
import Derived.Deep.DeepCutAuto
import Derived.Deep.RegionLaw
import Derived.OwnWalk
import Derived.Deep.QuietTactic
import Derived.BigQuiet
import Derived.StillTailTactics
set_option linter.all false
section
/- The walk of vintage.Add. -/
namespace Go.Proofs.Ytpigoegjoagbnaa
open Go.RowKit Go.Sl Go.Sort
set_option maxHeartbeats 4000000
set_option maxRecDepth 100000
/-- What Add and Take return. -/
def VAns (b : Nat) (q : Int) (L : List STri) (h : Hp) (w : World) (e : Ending) (w' : World) : Prop := ∃ h', e = .returned (.int .i64 q) ∧ PtV h' b L ∧ Upd h h' w w'
theorem VAns.no {b : Nat} {l L : List STri} {h : Hp} {w w' : World} {q q' : Int} (hq : q' = q) (hL : L = l) (hp : PtV h b l) (hs : h.sub w) (hb : Below w.heap.size w w') :
    VAns b q' L h w (.returned (.int .i64 q)) w' := ⟨h, by rw [hq], by rw [hL]; exact hp, Upd.stay hs hb⟩
theorem vAdd_no {l : List STri} {o e n q : Int} (h : vAddE l o e n = q) (h0 : q ≠ 0) : vAdd l o e n = l := by unfold vAdd; rw [if_neg (by rw [h]; exact h0)]
theorem vintAdd_calls (b : Nat) (l : List STri) (o e n : Int) (h : Hp) (w : World) (hs : h.sub w) (hp : PtV h b l) (g : GoodV l) :
    Calls Try.prog 14 #[.pointer (some ⟨b, 0, none⟩), .int .i64 o, .int .i64 e, .int .i64 n] w (VAns b (vAddE l o e n) (vAdd l o e n) h w) := by
  obtain ⟨A, ca, hb, hc, ow, hf⟩ := hp.one hs
  have hlt : b < w.heap.size := World.block_lt_of_cell? _ _ hc
  have lm := ow.small
  have gl := g.len
  have EW := ((Env.start w).alloc (.cells #[.int .i64 o] 3)).alloc (.cells #[.int .i64 e] 3)
  simp at EW
  have hcE := (EW.low.cell (p := ⟨b, 0, none⟩) hlt).trans hc
  have eg : ∀ args w, (callFunc 39 args).run Try.prog w = .ok (.enter 39 args) w := enters_of Try.func39 (by kernel_rfl) rfl
  have eg2 : ∀ args w, (callFunc 43 args).run Try.prog w = .ok (.enter 43 args) w := enters_of Try.func43 (by kernel_rfl) rfl
  have IC := fun (W : World) (E : Env w W [Hp.box w.heap.size [.int .i64 o] 3, Hp.box (w.heap.size + 1) [.int .i64 e] 3]) =>
    indexFunc_vint 39 #[.pointer (some ⟨w.heap.size, 0, none⟩), .pointer (some ⟨w.heap.size + 1, 0, none⟩)] eg (isV o e) A ca l (h.del b) W ((hs.del b).of_below E.low) ow.sl
      (fun x W' hW => vintSame_calls x w.heap.size (w.heap.size + 1) o e W' ((E.below hW).cell 0 rfl 0 rfl) ((E.below hW).cell 1 rfl 0 rfl))
  rcases getV_idx g.rise o e with ⟨hi, ha, hv⟩ | ⟨i, x, hx, hi, hv, ha, hxa, hxb⟩
  · rw [hi] at IC
    clear hi
    have NO : ∀ {q : Int} {W : World}, vAddE l o e n = q → q ≠ 0 → Below w.heap.size w W → VAns b (vAddE l o e n) (vAdd l o e n) h w (.returned (.int .i64 q)) W := fun h1 h2 h3 => .no h1 (vAdd_no h1 h2) hp hs h3
    go_enter Try.func14, Try.ntmps14
    go_wp2_with fail
    refine (IC _ EW).mono ?_
    rintro e' w1 ⟨rfl, b1⟩
    have E1 := EW.below b1
    have hc1 := (E1.low.cell (p := ⟨b, 0, none⟩) hlt).trans hc
    have hf1 := (E1.low.frozen (p := ⟨b, 0, none⟩) hlt).trans (hf 0)
    have k0 := E1.cell 0 rfl 0 rfl
    have k1 := E1.cell 1 rfl 0 rfl
    cases h1 : vOk o e with
    | false =>
      have HE : Hid (vAddE l o e n = 1) := by unfold Hid vAddE; rw [if_pos (by simp [h1])]
      have RC := fun W : World => vintRight_calls o e W
      rw [h1] at RC
      clear h1
      go_wp2_with fail
      refine (RC _).mono ?_
      rintro e' w' ⟨rfl, rfl⟩
      go_wp2
      go_ret
      exact NO HE.out (by decide) E1.low
    | true =>
    have RC := fun W : World => vintRight_calls o e W
    rw [h1] at RC
    by_cases h2 : n < 1
    · have t2 : decide (n < 1) = true := by simpa using h2
      have HE : Hid (vAddE l o e n = 1) := by unfold Hid vAddE; rw [if_pos (by simp; intro _ _; omega)]
      clear h1 h2
      go_wp2_with fail
      refine (RC _).mono ?_
      rintro e' w' ⟨rfl, rfl⟩
      go_wp2
      go_ret
      exact NO HE.out (by decide) E1.low
    have t2 : decide (n < 1) = false := by simpa using h2
    cases h3 : money n with
    | false =>
      have HE : Hid (vAddE l o e n = 1) := by unfold Hid vAddE; rw [if_pos (by simp [h3])]
      have MC := fun W : World => money_calls n W
      rw [h3] at MC
      clear h1 h2 h3
      go_wp2_with fail
      refine (RC _).mono ?_
      rintro e' w' ⟨rfl, rfl⟩
      go_wp2_with fail
      refine (MC _).mono ?_
      rintro e' w' ⟨rfl, rfl⟩
      go_wp2
      go_ret
      exact NO HE.out (by decide) E1.low
    | true =>
    have MC := fun W : World => money_calls n W
    rw [h3] at MC
    have h3' : -100000000000 ≤ n ∧ n ≤ 100000000000 := by simpa [money] using h3
    have HM : Hid (vAddE l o e n = if money (sumC l + n) = false then 6 else if l.any (isV o e) = true then 0 else if 12 ≤ l.length then 5 else 0) := by
      unfold Hid vAddE; rw [if_neg (by simp [h1, h3]; omega)]
    have HR : Hid (vAddE l o e n = 0 → vAdd l o e n = putV l o e (getV l o e + n)) := fun h => by unfold vAdd; rw [if_pos h]
    have hs0 := sumC_pos g.lo
    have hs1 := g.mon
    have LC := fun (W : World) (hW : Below w.heap.size w W) => vintLeft_calls b l h W (hs.of_below hW) hp (by omega) (fun x hx => by have := g.lo x hx; have := le_sumC g.lo hx; omega)
    clear h1 h3
    generalize sumC l = s at *
    have M1 := fun W : World => money_calls (s + n) W
    cases h4 : money (s + n) with
    | false =>
      have HE : Hid (vAddE l o e n = 6) := by unfold Hid; rw [HM.out, h4]; rfl
      rw [h4] at M1
      clear h4
      go_wp2_with fail
      refine (RC _).mono ?_
      rintro e' w' ⟨rfl, rfl⟩
      go_wp2_with fail
      refine (MC _).mono ?_
      rintro e' w' ⟨rfl, rfl⟩
      go_wp2_with fail
      refine (LC _ E1.low).mono ?_
      rintro e' w2 ⟨rfl, b2⟩
      go_wp2_with fail
      refine (M1 _).mono ?_
      rintro e' w' ⟨rfl, rfl⟩
      go_wp2
      go_ret
      exact NO HE.out (by decide) (E1.below b2).low
    | true =>
    have HM2 : Hid (vAddE l o e n = if l.any (isV o e) = true then 0 else if 12 ≤ l.length then 5 else 0) := by unfold Hid; rw [HM.out, h4]; rfl
    rw [h4] at M1
    clear h4 HM
    go_wp2_with fail
    refine (RC _).mono ?_
    rintro e' w' ⟨rfl, rfl⟩
    go_wp2_with fail
    refine (MC _).mono ?_
    rintro e' w' ⟨rfl, rfl⟩
    go_wp2_with fail
    refine (LC _ E1.low).mono ?_
    rintro e' w2 ⟨rfl, b2⟩
    have E2 := E1.below b2
    have hc2 := (E2.low.cell (p := ⟨b, 0, none⟩) hlt).trans hc
    have hf2 := (E2.low.frozen (p := ⟨b, 0, none⟩) hlt).trans (hf 0)
    have k02 := E2.cell 0 rfl 0 rfl
    have k12 := E2.cell 1 rfl 0 rfl
    go_wp2_with fail
    refine (M1 _).mono ?_
    rintro e' w' ⟨rfl, rfl⟩
    clear RC MC LC M1 hc1 hf1 k0 k1 E1
    rw [ha] at HM2
    by_cases h5 : 12 ≤ l.length
    · have t5 : decide ((12 : Int) ≤ (l.length : Int)) = true := by simp; omega
      have HE : Hid (vAddE l o e n = 5) := by unfold Hid; rw [HM2.out, if_neg (by simp), if_pos h5]
      clear HM2 HR h5
      go_wp2
      go_ret
      exact NO HE.out (by decide) E2.low
    · have t5 : decide ((12 : Int) ≤ (l.length : Int)) = false := by simp; omega
      have HE : Hid (vAddE l o e n = 0) := by unfold Hid; rw [HM2.out, if_neg (by simp), if_neg h5]
      obtain ⟨hd, hso⟩ := isort_putV g.rise (n := n) ha
      have HRe : Hid (vAdd l o e n = isort ordPair vkey (l ++ [⟨o, e, n⟩])) := by unfold Hid; rw [HR.out HE.out, hv, Int.zero_add, hso]
      clear HM2 HR hso ha hv
      have hd1 := (hs.del b).of_below E2.low
      have hne : (h.del b) b = Option.none := Hp.del_self
      have hlt2 := World.block_lt_of_cell? _ _ hc2
      have hca2 : ∀ o, (w2.alloc o).cell? ⟨b, 0, none⟩ = some (.slice A l.length ca) := fun o => (cell_alloc hlt2).trans hc2
      have hfa2 : ∀ o, (w2.alloc o).frozen? ⟨b, 0, none⟩ = false := fun o => (frozen_alloc hlt2).trans hf2
      go_upto_region 11 with fail
      go_cut [8] (fun s wx => s = .int .i64 0 ∧ ∃ (C' : Option Addr) (cap' : Nat) (h3 : Hp), Ow kTri h3 C' cap' (l ++ [⟨o, e, n⟩]) ∧ h3 b = Option.none ∧ Upd h (h3.put b (.cells #[.slice C' (l.length + 1) cap'] 67 (0, 0))) w wx)
      case first =>
        go_region_law (refine step_app1f (h := h.del b) (xs := l) (A := A) (cap := ca) (y := ⟨o, e, n⟩) Try.underlying31 info_vint (by rfl) (by rfl) rfl l.length 1 (by rfl) (by rfl) rfl ow (hd1.of_below (by repeat (first | exact Below.refl _ _ | apply Below.drew | refine Below.alloc ?_ (by simp) _))) (heap_new_at (by simp)) rfl (by omega) (by omega) ?_; intro C' cap' w3 h3 ho3 hu3; have hcv : w3.cell? ⟨b, 0, none⟩ = _ := hu3.cell (hca2 _) hne; have hfv : w3.frozen? ⟨b, 0, none⟩ = _ := (hu3.frozen (p := ⟨b, 0, none⟩) (by have := World.block_lt_of_cell? _ _ (hca2 (.cells #[] 0)); simp at this ⊢; omega) hne).trans (hfa2 _))
        all_goals
          go_wp2_with fail
          go_meet
          have U0 : Upd (h.del b) h3 w w3 := hu3.before (by repeat (first | exact E2.low | apply Below.drew | refine Below.alloc ?_ E2.low.size _))
          obtain ⟨UF, hn3⟩ := Upd.field (v := .slice C' (l.length + 1) cap') 0 hb hs (Hp.le_refl _) U0
          exact ⟨rfl, C', cap', h3, ho3, hn3, UF⟩
      case rest =>
        obtain ⟨rfl, C', cap', h3, ho3, hn3, UF⟩ := hcut
        have hs3 : (h3.put b (.cells #[.slice C' (l.length + 1) cap'] 67 (0, 0))).sub _ := UF.sub
        have hd3 := hs3.del b
        rw [Hp.put_del hn3] at hd3
        have hc3 := hs3.cell (i := 0) (v := .slice C' (l.length + 1) cap') Hp.put_self rfl
        have SC := sortFunc_vint ordPair vkey cfVint lt_vint 43 eg2 vintCmp_calls C' cap' (l ++ [⟨o, e, n⟩]) h3 _ hd3 ho3 hd (by simp; omega)
        rw [show (l ++ [(⟨o, e, n⟩ : STri)]).length = l.length + 1 by simp] at SC
        have hil : Hid ((isort ordPair vkey (l ++ [(⟨o, e, n⟩ : STri)])).length = l.length + 1) := by unfold Hid; rw [(isort_perm hd).length_eq]; simp
        clear hc2 k02 k12 hca2 hfa2 hf2 E2 hd hd1 EW IC hcE ho3
        generalize isort ordPair vkey (l ++ [(⟨o, e, n⟩ : STri)]) = so at *
        go_wp2_with fail
        refine SC.mono ?_
        rintro e' w5 ⟨h5, rfl, o5, u5⟩
        rw [← Hp.put_del (b := b) (o := .cells #[.slice C' (l.length + 1) cap'] 67 (0, 0)) hn3] at u5
        obtain ⟨UR, hn5⟩ := Upd.rest Hp.put_self hs3 u5
        go_wp2
        go_ret
        exact ⟨_, by rw [HE.out]; rfl, ⟨_, Hp.put_self, C', cap', by rw [HRe.out, hil.out], by rw [Hp.put_del hn5, HRe.out]; exact o5⟩, UF.trans UR⟩
  · rw [hi] at IC
    clear hi
    have NO : ∀ {q : Int} {W : World}, vAddE l o e n = q → q ≠ 0 → Below w.heap.size w W → VAns b (vAddE l o e n) (vAdd l o e n) h w (.returned (.int .i64 q)) W := fun h1 h2 h3 => .no h1 (vAdd_no h1 h2) hp hs h3
    go_enter Try.func14, Try.ntmps14
    go_wp2_with fail
    refine (IC _ EW).mono ?_
    rintro e' w1 ⟨rfl, b1⟩
    have E1 := EW.below b1
    have hc1 := (E1.low.cell (p := ⟨b, 0, none⟩) hlt).trans hc
    have hf1 := (E1.low.frozen (p := ⟨b, 0, none⟩) hlt).trans (hf 0)
    have k0 := E1.cell 0 rfl 0 rfl
    have k1 := E1.cell 1 rfl 0 rfl
    cases h1 : vOk o e with
    | false =>
      have HE : Hid (vAddE l o e n = 1) := by unfold Hid vAddE; rw [if_pos (by simp [h1])]
      have RC := fun W : World => vintRight_calls o e W
      rw [h1] at RC
      clear h1
      go_wp2_with fail
      refine (RC _).mono ?_
      rintro e' w' ⟨rfl, rfl⟩
      go_wp2
      go_ret
      exact NO HE.out (by decide) E1.low
    | true =>
    have RC := fun W : World => vintRight_calls o e W
    rw [h1] at RC
    by_cases h2 : n < 1
    · have t2 : decide (n < 1) = true := by simpa using h2
      have HE : Hid (vAddE l o e n = 1) := by unfold Hid vAddE; rw [if_pos (by simp; intro _ _; omega)]
      clear h1 h2
      go_wp2_with fail
      refine (RC _).mono ?_
      rintro e' w' ⟨rfl, rfl⟩
      go_wp2
      go_ret
      exact NO HE.out (by decide) E1.low
    have t2 : decide (n < 1) = false := by simpa using h2
    cases h3 : money n with
    | false =>
      have HE : Hid (vAddE l o e n = 1) := by unfold Hid vAddE; rw [if_pos (by simp [h3])]
      have MC := fun W : World => money_calls n W
      rw [h3] at MC
      clear h1 h2 h3
      go_wp2_with fail
      refine (RC _).mono ?_
      rintro e' w' ⟨rfl, rfl⟩
      go_wp2_with fail
      refine (MC _).mono ?_
      rintro e' w' ⟨rfl, rfl⟩
      go_wp2
      go_ret
      exact NO HE.out (by decide) E1.low
    | true =>
    have MC := fun W : World => money_calls n W
    rw [h3] at MC
    have h3' : -100000000000 ≤ n ∧ n ≤ 100000000000 := by simpa [money] using h3
    have HM : Hid (vAddE l o e n = if money (sumC l + n) = false then 6 else if l.any (isV o e) = true then 0 else if 12 ≤ l.length then 5 else 0) := by
      unfold Hid vAddE; rw [if_neg (by simp [h1, h3]; omega)]
    have HR : Hid (vAddE l o e n = 0 → vAdd l o e n = putV l o e (getV l o e + n)) := fun h => by unfold vAdd; rw [if_pos h]
    have hs0 := sumC_pos g.lo
    have hs1 := g.mon
    have LC := fun (W : World) (hW : Below w.heap.size w W) => vintLeft_calls b l h W (hs.of_below hW) hp (by omega) (fun x hx => by have := g.lo x hx; have := le_sumC g.lo hx; omega)
    clear h1 h3
    generalize sumC l = s at *
    have M1 := fun W : World => money_calls (s + n) W
    cases h4 : money (s + n) with
    | false =>
      have HE : Hid (vAddE l o e n = 6) := by unfold Hid; rw [HM.out, h4]; rfl
      rw [h4] at M1
      clear h4
      go_wp2_with fail
      refine (RC _).mono ?_
      rintro e' w' ⟨rfl, rfl⟩
      go_wp2_with fail
      refine (MC _).mono ?_
      rintro e' w' ⟨rfl, rfl⟩
      go_wp2_with fail
      refine (LC _ E1.low).mono ?_
      rintro e' w2 ⟨rfl, b2⟩
      go_wp2_with fail
      refine (M1 _).mono ?_
      rintro e' w' ⟨rfl, rfl⟩
      go_wp2
      go_ret
      exact NO HE.out (by decide) (E1.below b2).low
    | true =>
    have HM2 : Hid (vAddE l o e n = if l.any (isV o e) = true then 0 else if 12 ≤ l.length then 5 else 0) := by unfold Hid; rw [HM.out, h4]; rfl
    rw [h4] at M1
    clear h4 HM
    go_wp2_with fail
    refine (RC _).mono ?_
    rintro e' w' ⟨rfl, rfl⟩
    go_wp2_with fail
    refine (MC _).mono ?_
    rintro e' w' ⟨rfl, rfl⟩
    go_wp2_with fail
    refine (LC _ E1.low).mono ?_
    rintro e' w2 ⟨rfl, b2⟩
    have E2 := E1.below b2
    have hc2 := (E2.low.cell (p := ⟨b, 0, none⟩) hlt).trans hc
    have hf2 := (E2.low.frozen (p := ⟨b, 0, none⟩) hlt).trans (hf 0)
    have k02 := E2.cell 0 rfl 0 rfl
    have k12 := E2.cell 1 rfl 0 rfl
    go_wp2_with fail
    refine (M1 _).mono ?_
    rintro e' w' ⟨rfl, rfl⟩
    clear RC MC LC M1 hc1 hf1 k0 k1 E1
    rw [ha] at HM2
    have HE : Hid (vAddE l o e n = 0) := by unfold Hid; rw [HM2.out, if_pos rfl]
    have hil : i < l.length := (List.getElem?_eq_some_iff.1 hx).1
    have i1 : (0 : Int) ≤ (i : Int) := by omega
    have i2 : (i : Int) < (l.length : Int) := by omega
    have hxm := g.lo x (List.mem_of_getElem? hx)
    have hxs := g.mon
    have hxl := le_sumC g.lo (List.mem_of_getElem? hx)
    have hsp := set_putV g.rise hx (x.c + n)
    rw [hxa, hxb] at hsp
    have HRe : Hid (vAdd l o e n = l.set i ⟨x.a, x.b, x.c + n⟩) := by unfold Hid; rw [HR.out HE.out, hv, ← hsp, hxa, hxb]
    have hll : Hid ((l.set i (⟨x.a, x.b, x.c + n⟩ : STri)).length = l.length) := by unfold Hid; simp
    have hwn : IntKind.i64.wrap (x.c + n) = x.c + n := by rw [IntKind.wrap_i64]; omega
    have hxx := Lib.hid hx
    clear HM2 HR hsp hv ha hx hxa hxb
    obtain ⟨bx, ox, rfl, c1, c2, c3⟩ := ow.sl.tri ((hs.del b).of_below E2.low) hxx
    have hfx := ow.cell_free ((hs.del b).of_below E2.low) (by omega)
    obtain ⟨h3, o3, u3⟩ := Ow.set (x' := ⟨x.a, x.b, x.c + n⟩) (v := .int .i64 (x.c + n)) (j := 2) ow ((hs.del b).of_below E2.low) hxx.out (by decide) rfl
    obtain ⟨UR, hn3⟩ := Upd.rest hb hs (u3.before E2.low)
    have UR2 := fun n => UR.after (Go.Sl.Below.drN (Below.refl _ _) n)
    have UR3 := UR.after ((Below.refl _ _).drew)
    go_upto_region 7 with fail
    go_region
    all_goals
      go_wp2
      go_ret
      refine ⟨_, by rw [HE.out]; rfl, ⟨_, Hp.put_self, _, ca, by rw [HRe.out, hll.out], by rw [Hp.put_del hn3, HRe.out]; exact o3⟩, ?_⟩
      first | exact UR | exact UR3 | exact UR2 _
end Go.Proofs.Ytpigoegjoagbnaa
end
section
/- The walk of vintage.Take. -/
namespace Go.Sl
open Go Go.RowKit
theorem zip_set_step {α β : Type} (f : α → β → α) : ∀ (xs : List α) (us : List β) (j : Nat) (x : α) (u : β), xs[j]? = some x → us[j]? = some u → (List.zipWith f (xs.take j) (us.take j) ++ xs.drop j).set j (f x u) = List.zipWith f (xs.take (j + 1)) (us.take (j + 1)) ++ xs.drop (j + 1)
  | [], _, j, x, u, h, _ => by simp at h
  | _ :: _, [], j, x, u, _, h => by simp at h
  | y :: ys, v :: us, 0, x, u, h, h' => by simp at h h'; subst h h'; simp
  | y :: ys, v :: us, j + 1, x, u, h, h' => by
    have := zip_set_step f ys us j x u (by simpa using h) (by simpa using h')
    simp only [List.take_succ_cons, List.zipWith_cons_cons, List.drop_succ_cons, List.cons_append, List.set_cons_succ, this]
theorem zip_get_step {α β : Type} (f : α → β → α) : ∀ (xs : List α) (us : List β) (j : Nat), j ≤ us.length → (List.zipWith f (xs.take j) (us.take j) ++ xs.drop j)[j]? = xs[j]?
  | [], us, j, _ => by simp
  | y :: ys, us, 0, _ => by simp
  | y :: ys, [], j + 1, h => by simp at h
  | y :: ys, u :: us, j + 1, h => by
    have := zip_get_step f ys us j (by simpa using h)
    simpa using this
theorem takeE_no {l : List STri} {us : List Int} (h : us.length ≠ l.length) : vTakeE l us = 1 := by unfold vTakeE; rw [if_neg fun e => h e.1]
theorem takeE_bad {l : List STri} {us : List Int} {j : Nat} {x : STri} {u : Int} (hx : l[j]? = some x) (hu : us[j]? = some u) (hb : badU x u = true) : vTakeE l us = 1 := by
  unfold vTakeE
  rw [if_neg]
  rintro ⟨_, h⟩
  rw [List.any_eq_false] at h
  have := h (badU x u) (List.mem_of_getElem? (i := j) (by rw [List.getElem?_zipWith, hx, hu]))
  exact this hb
theorem takeE_ok {l : List STri} {us : List Int} (hl : us.length = l.length) (h : ∀ (i : Nat) (x : STri) (u : Int), l[i]? = some x → us[i]? = some u → badU x u = false) : vTakeE l us = 0 := by
  unfold vTakeE
  refine if_pos ⟨hl, ?_⟩
  rw [List.any_eq_false]
  intro b hb
  obtain ⟨i, hi⟩ := List.mem_iff_getElem?.1 hb
  rw [List.getElem?_zipWith] at hi
  cases hx : l[i]? with
  | none => simp [hx] at hi
  | some x =>
    cases hu : us[i]? with
    | none => simp [hx, hu] at hi
    | some u =>
      simp [hx, hu] at hi
      rw [← hi, h i x u hx hu]; decide
end Go.Sl
namespace Go.Proofs.Ytpigoegjoagbnaa
open Go.RowKit Go.Sl Go.Sort
set_option maxHeartbeats 4000000
set_option maxRecDepth 100000
theorem vTake_no {l : List STri} {us : List Int} {q : Int} (h : vTakeE l us = q) (h0 : q ≠ 0) : vTake l us = l := by unfold vTake; rw [if_neg (by rw [h]; exact h0)]
theorem vintTake_calls (b : Nat) (l : List STri) (h : Hp) (w : World) (hs : h.sub w) (hp : PtV h b l) (g : GoodV l) (U : Option Addr) (cu : Nat) (us : List Int) (ku : Hp) (ks : ku.sub w) (su : Sl kInt ku U cu us) (hz : ∀ u ∈ us, I64 u) :
    Calls Try.prog 20 #[.pointer (some ⟨b, 0, none⟩), .slice U us.length cu] w (VAns b (vTakeE l us) (vTake l us) h w) := by
  obtain ⟨A, ca, hb, hc, ow, hf⟩ := hp.one hs
  have hlt : b < w.heap.size := World.block_lt_of_cell? _ _ hc
  have lm := ow.small
  have lu := su.small
  have gl := g.len
  have HZ := Lib.hid hz
  clear hz
  have NO : ∀ {q : Int} {W : World}, vTakeE l us = q → q ≠ 0 → Below w.heap.size w W → VAns b (vTakeE l us) (vTake l us) h w (.returned (.int .i64 q)) W := fun h1 h2 h3 => .no h1 (vTake_no h1 h2) hp hs h3
  by_cases hl : us.length = l.length
  case neg =>
    have t1 : ((us.length : Int) != (l.length : Int)) = true := by simp; omega
    have HE : Hid (vTakeE l us = 1) := takeE_no hl
    clear hl
    go_enter Try.func20, Try.ntmps20
    go_wp2
    go_ret
    exact NO HE.out (by decide) (Below.refl _ _)
  have t1 : ((us.length : Int) != (l.length : Int)) = false := by simp; omega
  have hL := Lib.hid hl
  clear hl
  have E0 := Env.start w
  go_enter Try.func20, Try.ntmps20
  go_wp2
  clear t1
  go_loopw [20] (fun i wr => ∃ (j : Nat), j ≤ us.length ∧ i = .int .i64 j ∧ Hid (∀ (i : Nat) (x : STri) (u : Int), i < j → l[i]? = some x → us[i]? = some u → badU x u = false) ∧ Env w wr []) (fun i _ => us.length - (intOf i).toNat)
  case atStart => exact ⟨0, by omega, rfl, fun i x u h => absurd h (by omega), E0⟩
  case round =>
    obtain ⟨j, hj, rfl, HB, E⟩ := hrel
    have hc1 := (E.low.cell (p := ⟨b, 0, none⟩) hlt).trans hc
    by_cases hlt2 : j < us.length
    · obtain ⟨u, hu⟩ := some_of_lt hlt2
      obtain ⟨x, hx⟩ := some_of_lt (show j < l.length by rw [← hL.out]; exact hlt2)
      have hjl : j < l.length := by rw [← hL.out]; exact hlt2
      obtain ⟨bu, ou, rfl, c1⟩ := su.int (ks.of_below E.low) hu
      obtain ⟨bx, ox, rfl, d1, d2, d3⟩ := ow.sl.tri ((hs.del b).of_below E.low) hx
      have i1 : (0 : Int) ≤ (j : Int) := by omega
      have i2 : (j : Int) < (us.length : Int) := by omega
      have i3 : (j : Int) < (l.length : Int) := by omega
      have HB' : badU x u = false → Hid (∀ (i : Nat) (x : STri) (u : Int), i < j + 1 → l[i]? = some x → us[i]? = some u → badU x u = false) := fun e i x' u' hi h1 h2 => by
        by_cases h3 : i = j
        · subst h3
          rw [hx.out] at h1; rw [hu.out] at h2; cases h1; cases h2; exact e
        · exact HB.out i x' u' (by omega) h1 h2
      by_cases h1 : u < 0
      · have t1 : decide (u < 0) = true := by simpa using h1
        have HE : Hid (vTakeE l us = 1) := takeE_bad hx.out hu.out (by simp [badU, h1])
        clear h1 HB' d1 d2
        go_wp2
        go_ret
        exact NO HE.out (by decide) E.low
      have t1 : decide (u < 0) = false := by simpa using h1
      by_cases h2 : x.c < u
      · have t2 : decide (x.c < u) = true := by simpa using h2
        have HE : Hid (vTakeE l us = 1) := takeE_bad hx.out hu.out (by simp [badU, h2])
        clear h1 h2 HB' d1 d2
        go_wp2
        go_ret
        exact NO HE.out (by decide) E.low
      have t2 : decide (x.c < u) = false := by simpa using h2
      have HN := HB' (by simp [badU]; omega)
      clear h1 h2 HB' d1 d2
      go_wp2
      go_roundw
      case rel => exact ⟨j + 1, by omega, by go_num, HN, E⟩
      case measure => simp [intOf]; omega
    · obtain rfl : j = us.length := by omega
      have HE : Hid (vTakeE l us = 0) := takeE_ok hL.out fun i x u h1 h2 => HB.out i x u (List.getElem?_eq_some_iff.1 h2).1 h1 h2
      have HRe : Hid (vTake l us = (List.zipWith lessV l us).filter fun z => !zeroB z) := by unfold Hid vTake; rw [if_pos HE.out]
      have HBD : ∀ (j : Nat) (x : STri) (u : Int), l[j]? = some x → us[j]? = some u → 0 ≤ u ∧ u ≤ x.c := fun j x u h1 h2 => vTake_bad HE.out h1 h2
      have HGL := Lib.hid g.lo
      clear HB
      go_wp2_with fail
      refine (vintRows_calls b l h _ (hs.of_below E.low) hp (by omega)).mono ?_
      rintro e' w2 ⟨C2, n2, h2, rfl, o2, u2⟩
      have E2 := E.new u2
      simp at E2
      clear u2 hc1 E
      go_wp2_with fail
      go_loopw [44] (fun i wr => ∃ (j : Nat) (h3 : Hp) (L : List STri), j ≤ us.length ∧ i = .int .i64 j ∧ Hid (L = List.zipWith lessV (l.take j) (us.take j) ++ l.drop j) ∧ Hid (L.length = l.length) ∧ Ow kTri h3 C2 n2 L ∧ Env w wr [h3]) (fun i _ => us.length - (intOf i).toNat)
      case atStart => exact ⟨0, h2, l, by omega, rfl, by unfold Hid; simp, rfl, o2, E2⟩
      case round =>
        clear o2 E2
        obtain ⟨j, h3, L, hj, rfl, HL, hLl, o3, E3⟩ := hrel
        by_cases hlt2 : j < us.length
        · obtain ⟨u, hu⟩ := some_of_lt hlt2
          have hjl : j < l.length := by rw [← hL.out]; exact hlt2
          obtain ⟨x, hx⟩ := some_of_lt hjl
          have hxL : Hid (L[j]? = some x) := by unfold Hid; rw [HL.out, zip_get_step _ _ _ _ hj]; exact hx.out
          have hbd := HBD j x u hx.out hu.out
          have hgl := HGL.out x (List.mem_of_getElem? hx.out)
          have hxm := le_sumC g.lo (List.mem_of_getElem? hx.out)
          have hsm := g.mon
          obtain ⟨bu, ou, rfl, c1⟩ := su.int (ks.of_below E3.low) hu
          obtain ⟨bx, ox, rfl, d1, d2, d3⟩ := o3.sl.tri (E3.sub 0 rfl) hxL
          have hfx := o3.cell_free (E3.sub 0 rfl) (by rw [hLl.out]; omega)
          obtain ⟨h4, o4, u4⟩ := Ow.set (x' := lessV x u) (v := .int .i64 (x.c - u)) (j := 2) o3 (E3.sub 0 rfl) hxL.out (by decide) rfl
          have E4 := E3.upd 0 rfl u4
          simp only [List.set_cons_zero] at E4
          have HL4 : Hid (L.set j (lessV x u) = List.zipWith lessV (l.take (j + 1)) (us.take (j + 1)) ++ l.drop (j + 1)) := by
            unfold Hid; rw [HL.out]; exact zip_set_step lessV l us j x u hx.out hu.out
          have hLl4 : Hid ((L.set j (lessV x u)).length = l.length) := by unfold Hid; rw [List.length_set]; exact hLl.out
          have i1 : (0 : Int) ≤ (j : Int) := by omega
          have i2 : (j : Int) < (us.length : Int) := by omega
          have i3 : (j : Int) < (l.length : Int) := by omega
          clear u4 o3 HBD
          go_wp2
          go_roundw
          case rel => exact ⟨j + 1, h4, _, by omega, by go_num, HL4, hLl4, o4, E4⟩
          case measure => simp [intOf]; omega
        · obtain rfl : j = us.length := by omega
          have HL5 : Hid (L = List.zipWith lessV l us) := by
            unfold Hid; rw [HL.out, List.take_of_length_le (by rw [hL.out]; omega), List.take_length, List.drop_eq_nil_of_le (by rw [hL.out]; omega), List.append_nil]
          rw [← HL5.out] at HRe
          have eg : ∀ args w, (callFunc 48 args).run Try.prog w = .ok (.enter 48 args) w := enters_of Try.func48 (by kernel_rfl) rfl
          have DC := deleteFunc_vint 48 #[] eg zeroB C2 n2 L h3 _ (E3.sub 0 rfl) o3 (by rw [hLl.out]; omega) (fun x W' k u => vintZero_calls x W')
          rw [hLl.out] at DC
          generalize (L.filter fun z => !zeroB z) = R at *
          clear HL HL5 HBD
          go_wp2_with fail
          refine DC.mono ?_
          rintro e' w5 ⟨h5, rfl, o5, u5⟩
          have E5 := E3.upd 0 rfl u5
          simp only [List.set_cons_zero] at E5
          have hc5 := (E5.low.cell (p := ⟨b, 0, none⟩) hlt).trans hc
          have hf5 := (E5.low.frozen (p := ⟨b, 0, none⟩) hlt).trans (hf 0)
          obtain ⟨UF, hn5⟩ := Upd.field (v := .slice C2 R.length n2) 0 hb hs (Hp.none_le _) (E5.made (h := h5) (by simp))
          go_wp2
          go_ret
          exact ⟨_, by rw [HE.out]; rfl, ⟨_, Hp.put_self, C2, n2, by rw [HRe.out]; rfl, by rw [Hp.put_del hn5, HRe.out]; exact o5⟩, UF⟩
end Go.Proofs.Ytpigoegjoagbnaa
end
section
/- The tax of a period, plain. No program is named here. -/
namespace Go.Sl
open Go Go.RowKit
def curArg (most life year r : Int) : Bool := rightRate most && (rightRate r && (decide (0 ≤ life ∧ life ≤ 99) && decide (0 ≤ year ∧ year ≤ 99)))
def curVec (l : List STri) (inc most year : Int) : List Int := if 0 < inc then vecGo year (vExp l year) (max 0 (roomV inc most)) else []
def curNew (inc : Int) : Int := if inc < 0 then -inc else 0
def curTaxable (l : List STri) (inc most year : Int) : Int := inc - (curVec l inc most year).sum + curNew inc
def curE (l : List STri) (b p m most life year r : Int) : Int :=
  if curArg most life year r = false then 1
  else if incOk b p m = false then 6
  else if incV b p m < 0 then vAddE (vExp l year) year (year + life) (-(incV b p m)) else 0
def curNext (l : List STri) (inc most life year : Int) : List STri :=
  if 0 < inc then vTake (vExp l year) (curVec l inc most year)
  else if inc < 0 then vAdd (vExp l year) year (year + life) (-inc) else vExp l year
theorem vecGo_at (year : Int) : ∀ (l : List STri) (left : Int), (∀ x ∈ l, 0 ≤ x.c) → 0 ≤ left → ∀ (i : Nat) (x : STri) (u : Int), l[i]? = some x → (vecGo year l left)[i]? = some u → 0 ≤ u ∧ u ≤ x.c
  | [], _, _, _, i, x, u, h, _ => by simp at h
  | y :: l, left, hl, h0, 0, x, u, h, h' => by
    simp [vecGo] at h h'
    subst h h'
    have := useOf_bd (year := year) (hl y (by simp)) h0
    omega
  | y :: l, left, hl, h0, i + 1, x, u, h, h' => by
    have h1 := useOf_bd (year := year) (hl y (by simp)) h0
    exact vecGo_at year l (left - useOf year y left) (fun z hz => hl z (by simp [hz])) (by omega) i x u (by simpa using h) (by simpa [vecGo] using h')
theorem curVec_take {l : List STri} (g : GoodV l) {inc most year : Int} (h : 0 < inc) : (curVec l inc most year).length = (vExp l year).length ∧ vTakeE (vExp l year) (curVec l inc most year) = 0 := by
  have g' := g.exp year
  unfold curVec
  rw [if_pos h]
  refine ⟨vecGo_len _ _ _, takeE_ok (vecGo_len _ _ _) fun i x u h1 h2 => ?_⟩
  have := vecGo_at year (vExp l year) (max 0 (roomV inc most)) (fun x hx => by have := g'.lo x hx; omega) (by omega) i x u h1 h2
  simp [badU]; omega
theorem GoodV.cur {l : List STri} (g : GoodV l) (inc most life year : Int) : GoodV (curNext l inc most life year) := by
  unfold curNext
  split
  · exact (g.exp year).take _
  · split
    · exact (g.exp year).add _ _ _
    · exact g.exp year
theorem incV_bd (b p m : Int) : -100000000000 ≤ incV b p m ∧ incV b p m ≤ 100000000000 := by
  unfold incV
  split
  · rename_i h
    simp [incOk, money] at h
    omega
  · omega
theorem floorV_bd {n r : Int} : 0 ≤ floorV n r ∧ floorV n r ≤ 100000000000 := by
  unfold floorV
  split
  · rename_i h
    simp [floorOk] at h
    have h1 : 0 ≤ n * r := Int.mul_nonneg h.1 h.2.2.1
    have h2 : n * r ≤ n * 1000000 := Int.mul_le_mul_of_nonneg_left h.2.2.2 h.1
    rw [Int.tdiv_eq_ediv_of_nonneg h1]
    omega
  · omega
theorem floorV_le {n r : Int} (hn : 0 ≤ n) : floorV n r ≤ n := by
  unfold floorV
  split
  · rename_i h
    simp [floorOk] at h
    have h1 : 0 ≤ n * r := Int.mul_nonneg h.1 h.2.2.1
    have h2 : n * r ≤ n * 1000000 := Int.mul_le_mul_of_nonneg_left h.2.2.2 h.1
    rw [Int.tdiv_eq_ediv_of_nonneg h1]
    omega
  · exact hn
theorem curVec_bd {l : List STri} (g : GoodV l) (inc most year : Int) : 0 ≤ (curVec l inc most year).sum ∧ (0 < inc → (curVec l inc most year).sum ≤ inc) ∧ (¬ 0 < inc → (curVec l inc most year).sum = 0) := by
  have g' := g.exp year
  unfold curVec
  split
  · rename_i h
    have hr : roomV inc most ≤ inc := by
      unfold roomV; split
      · omega
      · exact floorV_le (by omega)
    have hb := vecGo_bd year (vExp l year) (max 0 (roomV inc most)) (fun x hx => by have := g'.lo x hx; omega) (by omega)
    exact ⟨hb.1, fun _ => by omega, fun h' => absurd h h'⟩
  · rename_i h
    exact ⟨by simp, fun h' => absurd h' h, fun _ => by simp⟩
end Go.Sl
end
section
/- The reference's losses, plain: what its loops make. No program is named here. -/
namespace Go.Sl
open Go Go.RowKit
/-- The loop of Add. -/
def addGo (o e n : Int) : Bool → List STri → List STri
  | d, [] => if d = true then [] else [⟨o, e, n⟩]
  | d, y :: l =>
    if y.a = o ∧ y.b = e then ⟨y.a, y.b, y.c + n⟩ :: addGo o e n true l
    else if d = false ∧ (e < y.b ∨ y.b = e ∧ o < y.a) then ⟨o, e, n⟩ :: y :: addGo o e n true l
    else y :: addGo o e n d l
theorem addGo_true {o e n : Int} : ∀ {l : List STri}, (∀ y ∈ l, ¬(y.a = o ∧ y.b = e)) → addGo o e n true l = l
  | [], _ => rfl
  | y :: l, h => by
    unfold addGo
    rw [if_neg (h y (by simp)), if_neg (by simp), addGo_true fun z hz => h z (by simp [hz])]
theorem addGo_put {o e n : Int} : ∀ {l : List STri}, RisingV l → addGo o e n false l = putV l o e (getV l o e + n)
  | [], _ => by simp [addGo, putV, put, getV, find]
  | y :: l, h => by
    have ht := addGo_put (o := o) (e := e) (n := n) h.tail
    have hh := h.head
    unfold addGo
    rcases ordPair.tri (vkey y) (e, o) with h1 | h1 | h1
    · have hn := ordPair.ne h1
      have h2 := ordPair.asymm h1
      rw [if_neg fun hc => hn (by simp [vkey, hc.1, hc.2]), if_neg (by simp [ordPair, vkey] at h2 ⊢; omega), ht]
      have hg : getV (y :: l) o e = getV l o e := by simp [getV, find, hn]
      rw [hg]
      unfold putV put
      simp only [List.filter_cons, show vkey (⟨o, e, getV l o e + n⟩ : STri) = (e, o) from rfl, h1, h2, if_true, Bool.false_eq_true, if_false, List.cons_append]
    · have h3 : y.a = o ∧ y.b = e := by simp [vkey] at h1; exact ⟨h1.2, h1.1⟩
      have h2 : ∀ z ∈ l, ordPair.lt (e, o) (vkey z) = true := fun z hz => by rw [← h1]; exact hh z hz
      rw [if_pos h3, addGo_true fun z hz hc => ordPair.ne (h2 z hz) (by simp [vkey, hc.1, hc.2])]
      have hg : getV (y :: l) o e = y.c := by simp [getV, find, h1]
      rw [hg]
      unfold putV put
      have e1 : l.filter (fun z => ordPair.lt (vkey z) (e, o)) = [] := List.filter_eq_nil_iff.2 fun z hz => by rw [ordPair.asymm (h2 z hz)]; decide
      have e2 : l.filter (fun z => ordPair.lt (e, o) (vkey z)) = l := List.filter_eq_self.2 h2
      simp only [List.filter_cons, show vkey (⟨o, e, y.c + n⟩ : STri) = (e, o) from rfl, h1, ordPair.irrefl, Bool.false_eq_true, if_false, e1, e2, List.nil_append, h3.1, h3.2]
    · have h2 : ∀ z ∈ l, ordPair.lt (e, o) (vkey z) = true := fun z hz => ordPair.trans _ _ _ h1 (hh z hz)
      have hn := ordPair.ne h1
      have h3 := ordPair.asymm h1
      rw [if_neg fun hc => hn (by simp [vkey, hc.1, hc.2]), if_pos ⟨rfl, by simp [ordPair, vkey] at h1; omega⟩, addGo_true fun z hz hc => ordPair.ne (h2 z hz) (by simp [vkey, hc.1, hc.2])]
      have hg : getV (y :: l) o e = 0 := by
        unfold getV
        rw [find_miss fun z hz => ?_]
        rcases List.mem_cons.1 hz with rfl | hz
        · exact fun hc => hn hc.symm
        · exact fun hc => ordPair.ne (h2 z hz) hc.symm
      rw [hg, Int.zero_add]
      unfold putV put
      have e1 : l.filter (fun z => ordPair.lt (vkey z) (e, o)) = [] := List.filter_eq_nil_iff.2 fun z hz => by rw [ordPair.asymm (h2 z hz)]; decide
      have e2 : l.filter (fun z => ordPair.lt (e, o) (vkey z)) = l := List.filter_eq_self.2 h2
      simp only [List.filter_cons, show vkey (⟨o, e, n⟩ : STri) = (e, o) from rfl, h1, h3, if_true, Bool.false_eq_true, if_false, e1, e2, List.nil_append]
theorem addGo_len (o e n : Int) : ∀ (d : Bool) (l : List STri), (addGo o e n d l).length ≤ l.length + 1 ∧ (d = true → (addGo o e n d l).length = l.length)
  | d, [] => by cases d <;> simp [addGo]
  | d, y :: l => by
    have h1 := addGo_len o e n true l
    have h2 := addGo_len o e n d l
    have h3 := h1.2 rfl
    unfold addGo
    split
    · simp; omega
    · split
      · rename_i h; simp [h.1]; omega
      · simp; exact ⟨by omega, fun hd => h2.2 hd⟩
/-- What the reference's Add answers. -/
theorem refAddE {l : List STri} (g : GoodV l) (o e n : Int) : vAddE l o e n =
    if (vOk o e && (decide (1 ≤ n) && decide (n ≤ 100000000000))) = false then 1
    else if 100000000000 < sumC l + n then 6
    else if 12 < (putV l o e (getV l o e + n)).length then 5 else 0 := by
  have hs := sumC_pos g.lo
  have hm := g.mon
  have hl := g.len
  unfold vAddE
  have e1 : (decide (1 ≤ n) && money n) = (decide (1 ≤ n) && decide (n ≤ 100000000000)) := by
    rw [Bool.eq_iff_iff]; simp [money]; omega
  rw [e1]
  split
  · rfl
  · rename_i h
    simp at h
    have e2 : (money (sumC l + n) = false) ↔ 100000000000 < sumC l + n := by simp [money]; omega
    by_cases h2 : 100000000000 < sumC l + n
    · rw [if_pos (e2.2 h2), if_pos h2]
    · rw [if_neg fun h' => h2 (e2.1 h'), if_neg h2, len_putV g.rise]
      cases ha : l.any (isV o e) with
      | true => simp; omega
      | false => simp; split <;> rename_i h3 <;> split <;> omega
/-- The loop of Expire. -/
theorem exp_take {l : List STri} (y : Int) (j : Nat) (x : STri) (hx : Hid (l[j]? = some x)) : vGone (l.take (j + 1)) y = vGone (l.take j) y + (if x.b < y then x.c else 0) ∧ vExp (l.take (j + 1)) y = vExp (l.take j) y ++ (if x.b < y then [] else [x]) := by
  unfold vGone vExp
  rw [take_next hx, List.filter_append, List.filter_append]
  by_cases h : x.b < y
  · have : overV y x = true := by simpa [overV] using h
    simp [h, this, sumC]
  · have : overV y x = false := by simpa [overV] using h
    simp [h, this, sumC]
/-- The loop of Take. -/
def takeGo : List STri → List Int → List STri
  | [], _ => []
  | _ :: _, [] => []
  | x :: l, u :: us => if 0 < x.c - u then ⟨x.a, x.b, x.c - u⟩ :: takeGo l us else takeGo l us
theorem take_eq : ∀ {l : List STri} {us : List Int}, us.length = l.length → (List.zipWith badU l us).any id = false → (List.zipWith lessV l us).filter (fun z => !zeroB z) = takeGo l us
  | [], us, _, _ => by cases us <;> rfl
  | x :: l, [], h, _ => by simp at h
  | x :: l, u :: us, h, hb => by
    simp at hb
    have ih := take_eq (l := l) (us := us) (by simpa using h) (by simpa using hb.2)
    have hb1 : ¬ x.c < u ∧ ¬ u < 0 := by have := hb.1; simp [badU] at this; omega
    simp only [List.zipWith_cons_cons, List.filter_cons, takeGo, ih]
    by_cases h0 : 0 < x.c - u
    · have hz : zeroB (lessV x u) = false := decide_eq_false (show ¬ x.c - u = 0 by omega)
      rw [if_pos h0, hz]; rfl
    · have hz : zeroB (lessV x u) = true := decide_eq_true (show x.c - u = 0 by omega)
      rw [if_neg h0, hz]; rfl
theorem takeGo_snoc : ∀ {l : List STri} {us : List Int} {x : STri} {u : Int}, us.length = l.length → takeGo (l ++ [x]) (us ++ [u]) = takeGo l us ++ (if 0 < x.c - u then [⟨x.a, x.b, x.c - u⟩] else [])
  | [], [], x, u, _ => by simp [takeGo]
  | [], _ :: _, _, _, h => by simp at h
  | _ :: _, [], _, _, h => by simp at h
  | y :: l, v :: us, x, u, h => by
    have ih := takeGo_snoc (l := l) (us := us) (x := x) (u := u) (by simpa using h)
    simp only [List.cons_append, takeGo, ih]
    split <;> simp
end Go.Sl
end
section
/- The walks of the reference's losses: Left, Copy, Expire, Year. -/
namespace Go.Proofs.Ytpigoegjoagbnaa
open Go.RowKit Go.Sl
set_option maxHeartbeats 1000000
set_option maxRecDepth 100000
abbrev PtL (h : Hp) (b : Nat) (l : List STri) : Prop := Pt kReg 46 h b l
theorem refYear_calls (y : Int) (w : World) : Calls Try.prog 49 #[.int .i64 y] w fun e w' => e = .returned (.bool (decide (0 ≤ y ∧ y ≤ 99))) ∧ w = w' := by
  go_enter Try.func49, Try.ntmps49
  go_wp2
  all_goals
    go_ret
    exact ⟨by simp; omega, rfl⟩
theorem refLossLeft_calls (p : Nat) (l : List STri) (h : Hp) (w : World) (hs : h.sub w) (hp : PtL h p l) (hl : l.length ≤ 1000) (hm : ∀ b ∈ l, -100000000000 ≤ b.c ∧ b.c ≤ 100000000000) :
    Calls Try.prog 29 #[.pointer (some ⟨p, 0, none⟩)] w fun e w' => e = .returned (.int .i64 (sumC l)) ∧ Below w.heap.size w w' := by
  obtain ⟨A, ca, hc, sx⟩ := hp.reg hs
  have m1 := sx.small
  have HM := Lib.hid hm
  clear hm
  go_enter Try.func29, Try.ntmps29
  go_wp2
  go_loopw [3, 11] (fun s i wr => ∃ (j : Nat), j ≤ l.length ∧ i = .int .i64 j ∧ s = .int .i64 (sumC (l.take j)) ∧ Below w.heap.size w wr) (fun _ i _ => l.length - (intOf i).toNat)
  case atStart => exact ⟨0, by omega, rfl, rfl, Below.refl _ _⟩
  case round =>
    obtain ⟨j, hj, rfl, rfl, hb⟩ := hrel
    by_cases hlt : j < l.length
    · obtain ⟨x, hx⟩ := some_of_lt hlt
      obtain ⟨b1, o1, rfl, c1, c2, c3⟩ := sx.tri (hs.of_below hb) hx
      have i1 : (0 : Int) ≤ (j : Int) := by omega
      have i2 : (j : Int) < (l.length : Int) := by omega
      have q1 := HM.out x (List.mem_of_getElem? hx.out)
      have q2 := sumC_bd (m := 100000000000) (by omega) (l.take j) fun b hb => HM.out b (List.mem_of_mem_take hb)
      rw [List.length_take] at q2
      obtain ⟨q3, q4⟩ : -1000000000000000 ≤ sumC (l.take j) ∧ sumC (l.take j) ≤ 1000000000000000 := by omega
      clear q2
      have HT : Hid (sumC (l.take (j + 1)) = sumC (l.take j) + x.c) := by unfold Hid; rw [take_next hx, sumC_snoc]
      go_wp2
      go_roundw
      case rel => exact ⟨j + 1, by omega, by go_num, by rw [HT.out], hb.alloc hb.size _⟩
      case measure => simp [intOf]; omega
    · obtain rfl : j = l.length := by omega
      rw [List.take_length]
      go_wp2
      go_ret
      exact ⟨rfl, hb⟩
theorem refLossCopy_calls (b : Nat) (l : List STri) (h : Hp) (w : World) (hs : h.sub w) (hp : PtL h b l) (hl : l.length ≤ 1000) :
    Calls Try.prog 59 #[.pointer (some ⟨b, 0, none⟩)] w fun e w' => ∃ h' b', e = .returned (.pointer (some ⟨b', 0, none⟩)) ∧ PtL h' b' l ∧ Upd Hp.none h' w w' := by
  obtain ⟨A, ca, hc, sx⟩ := hp.reg hs
  go_enter Try.func59, Try.ntmps59
  go_wp2_with (at_builtin; refine wpList_clone (B := none) Try.underlying31 info_vint (by rfl) (by rfl) rfl l.length ca (by rfl) (by rfl) rfl kTri_flat sx hs (by omega) (by omega) ?_; intro C' cap' w1 h1 ho1 hu1)
  go_ret
  exact ⟨_, _, rfl, ⟨_, Hp.put_self, C', cap', rfl, by rw [Hp.put_del (hu1.sub.free (Nat.le_refl _))]; exact ho1⟩, hu1.put⟩
theorem refLossExp_calls (b : Nat) (l : List STri) (y : Int) (h : Hp) (w : World) (hs : h.sub w) (hp : PtL h b l) (g : GoodV l) :
    Calls Try.prog 24 #[.pointer (some ⟨b, 0, none⟩), .int .i64 y] w fun e w' => ∃ h', e = .returned (.int .i64 (vGone l y)) ∧ PtL h' b (vExp l y) ∧ Upd h h' w w' := by
  obtain ⟨cs, hb, A, ca, rfl, ow⟩ := hp
  have hbw := hs b _ hb
  have hlt := hs.lt (b := b) (by simp [hb])
  have hc : w.cell? ⟨b, 0, none⟩ = some (.slice A l.length ca) := by rw [cell_of_row w b 0 _ _ _ hbw]; rfl
  have hf : w.frozen? ⟨b, 0, none⟩ = false := frozen_of_row w b 0 _ _ hbw
  have sx := ow.sl
  have hd := hs.del b
  have m1 := sx.small
  have hlen := g.len
  have hbd : ∀ j, 0 ≤ vGone (l.take j) y ∧ vGone (l.take j) y ≤ 100000000000 := fun j => by
    have h1 := sumC_pos (l := (l.take j).filter (overV y)) fun x hx => g.lo x (List.mem_of_mem_take (List.mem_filter.1 hx).1)
    have h2 := sumC_pos (l := (l.take j).filter fun x => !overV y x) fun x hx => g.lo x (List.mem_of_mem_take (List.mem_filter.1 hx).1)
    have h3 := sumC_filter (l := l.take j) (overV y)
    have h4 := sumC_take_le g.lo j
    have h5 := g.mon
    unfold vGone; omega
  have HB := Lib.hid hbd
  clear hbd
  have E0 := (Env.start w).new (Upd.of_below (Below.refl w.heap.size w))
  simp at E0
  go_enter Try.func24, Try.ntmps24
  go_wp2
  go_loopw [5, 6, 14] (fun gn v i wr => ∃ (j cap m : Nat) (C : Option Addr) (h' : Hp) (os : List STri), j ≤ l.length ∧ i = .int .i64 j ∧ gn = .int .i64 (vGone (l.take j) y) ∧ v = .slice C m cap ∧ Hid (os.length = m) ∧ Hid (os = vExp (l.take j) y) ∧ m ≤ j ∧ Ow kTri h' C cap os ∧ Env w wr [h']) (fun _ _ i _ => l.length - (intOf i).toNat)
  case atStart => exact ⟨0, 0, 0, none, Hp.none, [], by omega, rfl, rfl, rfl, rfl, rfl, by omega, Ow.none _ _, E0⟩
  case round =>
    clear E0
    obtain ⟨j, cap, m, C, h', os, hj, rfl, rfl, rfl, hm, ho, hmj, o, E⟩ := hrel
    by_cases hlt2 : j < l.length
    · obtain ⟨x, hx⟩ := some_of_lt hlt2
      obtain ⟨b1, o1, rfl, c1, c2, c3⟩ := sx.tri (hd.of_below E.low) hx
      have i1 : (0 : Int) ≤ (j : Int) := by omega
      have i2 : (j : Int) < (l.length : Int) := by omega
      obtain ⟨t1, t2⟩ := exp_take y j x hx
      have g0 := HB.out j
      have g1 := HB.out (j + 1)
      rw [t1] at g1
      by_cases hy : x.b < y
      · rw [if_pos hy] at t1 t2 g1
        have HG := Lib.hid t1
        have HN : Hid (os = vExp (l.take (j + 1)) y) := by unfold Hid; rw [t2, ho.out, List.append_nil]
        have td : decide (x.b < y) = true := by simpa using hy
        clear t1 t2 hy ho
        generalize vGone (l.take j) y = G at *
        go_wp2
        go_roundw
        case rel => exact ⟨j + 1, cap, m, C, h', os, by omega, by go_num, by rw [HG.out], rfl, hm, HN, by omega, o, E.alloc' _⟩
        case measure => simp [intOf]; omega
      · rw [if_neg hy] at t1 t2 g1
        have HG : Hid (vGone (l.take (j + 1)) y = vGone (l.take j) y) := by unfold Hid; rw [t1]; omega
        have HN : Hid (os ++ [x] = vExp (l.take (j + 1)) y) := by unfold Hid; rw [t2, ho.out]
        have td : decide (x.b < y) = false := by simpa using hy
        clear t1 t2 hy ho
        generalize vGone (l.take j) y = G at *
        go_wp2_with (at_builtin; refine wpList_eapp 0 x Try.underlying31 info_vint (by repeat (first | (with_reducible exact E) | (with_reducible apply Env.drew) | (with_reducible apply Env.drewN) | (with_reducible apply Env.alloc'))) (by rfl) o m hm.out (by rfl) (by rfl) rfl 1 (by rfl) (by rfl) (heap_new_at (by simp)) (by rfl) (by omega) (by omega) ?_; intro C5 n5 w5 h5 o5 E5)
        simp only [List.set_cons_zero] at E5
        go_roundw
        case rel => exact ⟨j + 1, n5, m + 1, C5, h5, os ++ [x], by omega, by go_num, by rw [HG.out], rfl, by unfold Hid; rw [List.length_append, hm.out]; rfl, HN, by omega, o5, E5⟩
        case measure => simp [intOf]; omega
    · obtain rfl : j = l.length := by omega
      rw [List.take_length] at ho
      rw [List.take_length]
      have hcr := (E.low.cell (p := ⟨b, 0, none⟩) hlt).trans hc
      have hfr := (E.low.frozen (p := ⟨b, 0, none⟩) hlt).trans hf
      have hu := E.made (h := h') (by simp)
      go_wp2
      obtain ⟨UF, hn3⟩ := Upd.field (v := .slice C m cap) 0 hb hs (Hp.none_le _) hu
      go_ret
      exact ⟨_, rfl, ⟨_, Hp.put_self, C, cap, by rw [← ho.out, hm.out]; rfl, by rw [Hp.put_del hn3, ← ho.out]; exact o⟩, UF⟩
end Go.Proofs.Ytpigoegjoagbnaa
end
section
/- The walks of the reference's losses: Take, Add. -/
namespace Go.Proofs.Ytpigoegjoagbnaa
open Go.RowKit Go.Sl
set_option maxHeartbeats 1000000
set_option maxRecDepth 100000
theorem _root_.Go.Sl.takeE_len {l : List STri} {us : List Int} (h : us.length ≠ l.length) : vTakeE l us = 1 := by unfold vTakeE; rw [if_neg fun e => h e.1]
theorem _root_.Go.Sl.takeE_bad2 {l : List STri} {us : List Int} {j : Nat} {x : STri} {u : Int} (hx : l[j]? = some x) (hu : us[j]? = some u) (h : u < 0 ∨ x.c < u) : vTakeE l us = 1 := by
  have hb : (List.zipWith badU l us).any id = true := List.any_eq_true.2 ⟨badU x u, List.mem_of_getElem? (i := j) (by rw [List.getElem?_zipWith, hx, hu]), by simpa [badU] using h⟩
  unfold vTakeE; rw [if_neg fun e => by rw [e.2] at hb; cases hb]
theorem _root_.Go.Sl.takeE_fin {l : List STri} {us : List Int} (hl : us.length = l.length) (h : ∀ (i : Nat) (x : STri) (u : Int), i < l.length → l[i]? = some x → us[i]? = some u → 0 ≤ u ∧ u ≤ x.c) : vTakeE l us = 0 ∧ vTake l us = takeGo l us := by
  have hb : (List.zipWith badU l us).any id = false := by
    rw [List.any_eq_false]
    intro z hz
    obtain ⟨i, hi⟩ := List.mem_iff_getElem?.1 hz
    rw [List.getElem?_zipWith] at hi
    cases hx : l[i]? with
    | none => simp [hx] at hi
    | some x =>
      cases hu : us[i]? with
      | none => simp [hx, hu] at hi
      | some u =>
        simp [hx, hu] at hi
        have := h i x u (List.getElem?_eq_some_iff.1 hx).1 hx hu
        rw [← hi]; simp [badU]; omega
  have hE : vTakeE l us = 0 := by unfold vTakeE; rw [if_pos ⟨hl, hb⟩]
  exact ⟨hE, by unfold vTake; rw [if_pos hE, take_eq hl hb]⟩
/-- What Add and Take of the reference answer. -/
def LAns (b : Nat) (q : Int) (L : List STri) (h : Hp) (w : World) (e : Ending) (w' : World) : Prop := ∃ h', e = .returned (.int .i64 q) ∧ PtL h' b L ∧ Upd h h' w w'
theorem LAns.no {b : Nat} {l L : List STri} {h : Hp} {w w' : World} {q q' : Int} (hq : q' = q) (hL : L = l) (hp : PtL h b l) (hs : h.sub w) (hb : Below w.heap.size w w') :
    LAns b q' L h w (.returned (.int .i64 q)) w' := ⟨h, by rw [hq], by rw [hL]; exact hp, Upd.stay hs hb⟩
theorem refLossTake_calls (b : Nat) (l : List STri) (h : Hp) (w : World) (hs : h.sub w) (hp : PtL h b l) (g : GoodV l) (U : Option Addr) (cu : Nat) (us : List Int) (k : Hp) (ks : k.sub w) (su : Sl kInt k U cu us) (hz : ∀ u ∈ us, I64 u) :
    Calls Try.prog 27 #[.pointer (some ⟨b, 0, none⟩), .slice U us.length cu] w (LAns b (vTakeE l us) (vTake l us) h w) := by
  have HNo : ∀ {W : World}, vTakeE l us = 1 → Below w.heap.size w W → LAns b (vTakeE l us) (vTake l us) h w (.returned (.int .i64 1)) W := fun h1 h3 => .no h1 (by unfold vTake; rw [if_neg (by rw [h1]; decide)]) hp hs h3
  obtain ⟨cs, hb, A, ca, rfl, ow⟩ := hp
  have hbw := hs b _ hb
  have hlt := hs.lt (b := b) (by simp [hb])
  have hc : w.cell? ⟨b, 0, none⟩ = some (.slice A l.length ca) := by rw [cell_of_row w b 0 _ _ _ hbw]; rfl
  have hf : w.frozen? ⟨b, 0, none⟩ = false := frozen_of_row w b 0 _ _ hbw
  have sx := ow.sl
  have hd := hs.del b
  have m1 := sx.small
  have m2 := su.small
  have hlen := g.len
  by_cases hl : us.length = l.length
  case neg =>
    have HE := Lib.hid (takeE_len hl)
    have t1 : ((us.length : Int) != (l.length : Int)) = true := by simp; omega
    have t2 : ((us.length : Int) == (l.length : Int)) = false := by simp; omega
    clear hl
    go_enter Try.func27, Try.ntmps27
    go_wp2
    go_ret
    exact HNo HE.out (Below.refl _ _)
  have t1 : ((us.length : Int) != (l.length : Int)) = false := by simp [hl]
  have t2 : ((us.length : Int) == (l.length : Int)) = true := by simp [hl]
  have HLn := Lib.hid hl
  clear hl
  have E0 := (Env.start w).new (Upd.of_below (Below.refl w.heap.size w))
  simp at E0
  go_enter Try.func27, Try.ntmps27
  go_wp2
  clear t1 t2
  go_loopw [5, 21] (fun v i wr => ∃ (j cap m : Nat) (C : Option Addr) (h' : Hp) (os : List STri), j ≤ l.length ∧ i = .int .i64 j ∧ v = .slice C m cap ∧ Hid (os.length = m) ∧ Hid (os = takeGo (l.take j) (us.take j)) ∧ Hid (∀ (i : Nat) (x : STri) (u : Int), i < j → l[i]? = some x → us[i]? = some u → 0 ≤ u ∧ u ≤ x.c) ∧ m ≤ j ∧ Ow kTri h' C cap os ∧ Env w wr [h']) (fun _ i _ => l.length - (intOf i).toNat)
  case atStart => exact ⟨0, 0, 0, none, Hp.none, [], by omega, rfl, rfl, rfl, rfl, fun i x u h => absurd h (by omega), by omega, Ow.none _ _, E0⟩
  case round =>
    clear E0
    obtain ⟨j, cap, m, C, h', os, hj, rfl, rfl, hm, ho, hub, hmj, o, E⟩ := hrel
    by_cases hlt2 : j < l.length
    · obtain ⟨x, hx⟩ := some_of_lt hlt2
      obtain ⟨u, hu⟩ := some_of_lt (show j < us.length by rw [HLn.out]; exact hlt2)
      obtain ⟨b1, o1, rfl, c1, c2, c3⟩ := sx.tri (hd.of_below E.low) hx
      obtain ⟨b2, o2, rfl, d1⟩ := su.int (ks.of_below E.low) hu
      have i1 : (0 : Int) ≤ (j : Int) := by omega
      have i2 : (j : Int) < (l.length : Int) := by omega
      have i3 : (j : Int) < (us.length : Int) := by have := HLn.out; omega
      have hxm := List.mem_of_getElem? hx.out
      have hxc := g.lo x hxm
      have hxs := le_sumC g.lo hxm
      have hmon := g.mon
      have huz := hz u (List.mem_of_getElem? hu.out)
      go_upto_region 7 with fail
      replace E := E.alloc (.cells #[.int .i64 x.a, .int .i64 x.b, .int .i64 x.c] 34)
      simp at E
      obtain ⟨W, hW⟩ : ∃ W : World, W = wr.alloc (.cells #[.int .i64 x.a, .int .i64 x.b, .int .i64 x.c] 34) := ⟨_, rfl⟩
      rw [← hW] at E
      rw [← hW]
      clear hW
      have q0 := E.cell 1 rfl 0 rfl
      have q1 := E.cell 1 rfl 1 rfl
      have q2 := E.cell 1 rfl 2 rfl
      have d1W : W.cell? ⟨b2, o2 + j, none⟩ = some (.int .i64 u) := by
        obtain ⟨b', o', e, h1⟩ := su.int (ks.of_below E.low) hu
        cases e; exact h1
      generalize wr.heap.size = bw at *
      clear c1 c2 c3 d1
      by_cases h1 : u < 0
      · have HE := Lib.hid (takeE_bad2 hx.out hu.out (.inl h1))
        have t1 : decide (u < 0) = true := by simpa using h1
        clear h1
        go_quiet (fail)
        have E6 := E.drewN nq
        go_wp2
        go_ret
        exact HNo HE.out E6.low
      · by_cases h2 : x.c < u
        · have HE := Lib.hid (takeE_bad2 hx.out hu.out (.inr h2))
          have t1 : decide (u < 0) = false := by simpa using h1
          have t2 : decide (x.c < u) = true := by simpa using h2
          clear h1 h2
          go_quiet (fail)
          have E6 := E.drewN nq
          go_wp2
          go_ret
          exact HNo HE.out E6.low
        · have t1 : decide (u < 0) = false := by simpa using h1
          have t2 : decide (x.c < u) = false := by simpa using h2
          have HUB : Hid (∀ (i : Nat) (x : STri) (u : Int), i < j + 1 → l[i]? = some x → us[i]? = some u → 0 ≤ u ∧ u ≤ x.c) := fun i x' u' hi e1 e2 => by
            by_cases h3 : i = j
            · subst h3; rw [hx.out] at e1; rw [hu.out] at e2; cases e1; cases e2; omega
            · exact hub.out i x' u' (by omega) e1 e2
          have HT : takeGo (l.take (j + 1)) (us.take (j + 1)) = takeGo (l.take j) (us.take j) ++ (if 0 < x.c - u then [⟨x.a, x.b, x.c - u⟩] else []) := by
            rw [take_next hx, take_next hu]
            exact takeGo_snoc (by rw [List.length_take, List.length_take, HLn.out])
          have hr : 0 ≤ x.c - u ∧ x.c - u ≤ 100000000000 := by omega
          have hwr : IntKind.i64.wrap (x.c - u) = x.c - u := by rw [IntKind.wrap_i64]; omega
          clear h1 h2 hub
          go_quiet (fail)
          replace E := E.drewN nq
          obtain ⟨V, hV⟩ : ∃ V, V = W.drewN nq := ⟨_, rfl⟩
          rw [← hV] at E
          rw [← hV]
          clear hV q0 q1 q2 d1W
          have d1V : V.cell? ⟨b2, o2 + j, none⟩ = some (.int .i64 u) := by
            obtain ⟨b', o', e, h1⟩ := su.int (ks.of_below E.low) hu
            cases e; exact h1
          have q0 := E.cell 1 rfl 0 rfl
          have q1 := E.cell 1 rfl 1 rfl
          have q2 := E.cell 1 rfl 2 rfl
          have qf := fun k => E.free 1 rfl k
          have RS : ∀ X, Env w X [h', Hp.box bw [.int .i64 x.a, .int .i64 x.b, .int .i64 x.c] 34] → Env w (X.setCell ⟨bw, 2, none⟩ (.int .i64 (x.c - u))) [h', Hp.box bw [.int .i64 x.a, .int .i64 x.b, .int .i64 (x.c - u)] 34] := fun X EX => EX.cellset 1 rfl 2 _
          go_upto_region 9 with fail
          refine wp_region_still_tail 8 (by kernel_rfl) (by kernel_rfl) ?_
          simp only [List.take_succ_cons, List.take_zero, List.drop_succ_cons, List.drop_zero]
          repeat still_step
          refine wpStill_nil ?_
          change wpList _ _ _ _ _ V.drew
          go_upto_region 10 with fail
          have E4 := (RS _ E).drew
          obtain ⟨X, hX⟩ : ∃ X, X = (V.setCell ⟨bw, 2, none⟩ (.int .i64 (x.c - u))).drew := ⟨_, rfl⟩
          rw [← hX] at E4
          rw [← hX]
          clear hX q0 q1 q2 qf d1V E RS
          have q0 := E4.cell 1 rfl 0 rfl
          have q1 := E4.cell 1 rfl 1 rfl
          have q2 := E4.cell 1 rfl 2 rfl
          by_cases h3 : 0 < x.c - u
          · have t3 : decide (0 < x.c - u) = true := by simpa using h3
            have HN : Hid (os ++ [⟨x.a, x.b, x.c - u⟩] = takeGo (l.take (j + 1)) (us.take (j + 1))) := by unfold Hid; rw [HT, if_pos h3, ho.out]
            clear h3 HT ho
            generalize x.c - u = rc at *
            go_wp2_with (at_builtin; refine wpList_eapp 0 ⟨x.a, x.b, rc⟩ Try.underlying31 info_vint (by repeat (first | (with_reducible exact E4) | (with_reducible apply Env.drew) | (with_reducible apply Env.drewN) | (with_reducible apply Env.alloc'))) (by rfl) o m hm.out (by rfl) (by rfl) rfl 1 (by rfl) (by rfl) (heap_new_at (by simp)) (by rfl) (by omega) (by omega) ?_; intro C5 n5 w5 h5 o5 E5)
            have E6 := E5.drop 1
            simp at E6
            go_roundw
            case rel => exact ⟨j + 1, n5, m + 1, C5, h5, os ++ [⟨x.a, x.b, rc⟩], by omega, by go_num, rfl, by unfold Hid; rw [List.length_append, hm.out]; rfl, HN, HUB, by omega, o5, E6⟩
            case measure => simp [intOf]; omega
          · have t3 : decide (0 < x.c - u) = false := by simpa using h3
            have HN : Hid (os = takeGo (l.take (j + 1)) (us.take (j + 1))) := by unfold Hid; rw [HT, if_neg h3, ho.out, List.append_nil]
            have E6 := E4.drop 1
            simp at E6
            clear h3 HT ho
            generalize x.c - u = rc at *
            go_wp2
            go_roundw
            case rel => exact ⟨j + 1, cap, m, C, h', os, by omega, by go_num, rfl, hm, HN, HUB, by omega, o, E6⟩
            case measure => simp [intOf]; omega
    · obtain rfl : j = l.length := by omega
      rw [List.take_length, List.take_of_length_le (Nat.le_of_eq HLn.out)] at ho
      obtain ⟨hE, hT⟩ := takeE_fin HLn.out hub.out
      have HE := Lib.hid hE
      have HT : Hid (vTake l us = os) := by unfold Hid; rw [hT, ho.out]
      clear hE hT hub ho
      have hcr := (E.low.cell (p := ⟨b, 0, none⟩) hlt).trans hc
      have hfr := (E.low.frozen (p := ⟨b, 0, none⟩) hlt).trans hf
      have hu := E.made (h := h') (by simp)
      go_wp2
      obtain ⟨UF, hn3⟩ := Upd.field (v := .slice C m cap) 0 hb hs (Hp.none_le _) hu
      go_ret
      exact ⟨_, by rw [HE.out]; rfl, ⟨_, Hp.put_self, C, cap, by rw [HT.out, hm.out]; rfl, by rw [Hp.put_del hn3, HT.out]; exact o⟩, UF⟩
end Go.Proofs.Ytpigoegjoagbnaa
end
