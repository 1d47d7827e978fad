/- Walks and plain facts that the laws of this seat share, part 9: contracts of functions, each said at its theorem. -/
import Derived.Test.YtbaklmlnfdlmmaaPk8
import Derived.Deep.RegionHeld3
import Derived.BigRegion
import Derived.OwnWalk
import Derived.Deep.DeepCutAuto
import Derived.Deep.CutBlock
import Derived.BigQuiet
set_option linter.all false
section
/- The walk of law06.Some: some lines, whichever. -/
namespace Go.Proofs.Ytbaklmlnfdlmmaa
open Go.RowKit Go.Sl
set_option maxHeartbeats 1000000
set_option maxRecDepth 100000
/-- Lines of numbers, whichever. -/
def anyLines (ks ams : List Int) (n : Nat) : List SItem := ((ks.zip ams).take n).map fun p => ⟨within p.1 10 - 1, amount p.2⟩
/-- Some lines were made, whichever. -/
def SomeLines (w : World) (e : Ending) (w' : World) : Prop := ∃ L C cap h', List.length L ≤ 44 ∧ e = .returned (.slice C L.length cap) ∧ Ow kItem h' C cap L ∧ Upd Hp.none h' w w'
theorem SomeLines.mk {w w' : World} {e : Ending} (L : List SItem) (C : Option Addr) (cap : Nat) (h' : Hp) (h1 : L.length ≤ 44) (h2 : e = .returned (.slice C L.length cap)) (h3 : Ow kItem h' C cap L) (h4 : Upd Hp.none h' w w') : SomeLines w e w' := ⟨L, C, cap, h', h1, h2, h3, h4⟩
theorem someRaw_calls (A B : Option Addr) (ca cb : Nat) (ks ams : List Int) (at_ what : Int) (h k : Hp) (w : World) (hs : h.sub w) (qs : k.sub w) (sx : Sl kInt h A ca ks) (sy : Sl kInt k B cb ams)
    (hw : ∀ n ∈ ams, I64 n) :
    Calls Try.prog 6 #[.slice A ks.length ca, .slice B ams.length cb, .int .i64 at_, .int .i64 what, .bool true] w fun e w' => SomeLines w e w' := by
  obtain ⟨i0, hi, hz0, hz1, hz2⟩ := info_parts Try.infoLine
  have m1 := sx.small
  have m2 := sy.small
  go_enter Try.func6, Try.ntmps6
  go_wp2
  go_loopw [11, 12] (fun v i wr => ∃ (j cap : Nat) (C : Option Addr) (h' : Hp), j ≤ ks.length ∧ j ≤ ams.length ∧ j ≤ 44 ∧ i = .int .i64 j ∧ v = .slice C j cap ∧ Hid (Ow kItem h' C cap (anyLines ks ams j)) ∧ Upd Hp.none h' w wr) (fun _ i _ => ks.length - (intOf i).toNat)
  case atStart => exact ⟨0, 0, none, Hp.none, by omega, by omega, by omega, rfl, rfl, Ow.none _ _, Upd.of_below (Below.refl _ _)⟩
  case round =>
    obtain ⟨j, cap, C, h', l1, l2, l3, rfl, rfl, ho, hu⟩ := hrel
    have HL : Hid ((anyLines ks ams j).length = j) := by unfold Hid; simp [anyLines]; omega
    by_cases hlt : j < ks.length ∧ j < ams.length ∧ j < 44
    · obtain ⟨t1, t2, t3⟩ := hlt
      obtain ⟨x, hx⟩ := some_of_lt t1
      obtain ⟨y, hy⟩ := some_of_lt t2
      obtain ⟨b1, o1, rfl, c0⟩ := sx.int hs hx
      obtain ⟨b2, o2, rfl, d0⟩ := sy.int qs hy
      have g1 := World.block_lt_of_cell? w _ c0
      have g2 := World.block_lt_of_cell? w _ d0
      have c1 := (hu.below.cell g1).trans c0
      have d1 := (hu.below.cell g2).trans d0
      have n1 := Lib.hid (hu.new_none g1)
      have n2 := Lib.hid (hu.new_none g2)
      clear c0 d0
      have hyw := hw y (List.mem_of_getElem? hy.out)
      have i1 : (0 : Int) ≤ (j : Int) := by omega
      have i2 : (j : Int) < (ks.length : Int) := by omega
      have i3 : (j : Int) < (ams.length : Int) := by omega
      have i4 : (j : Int) < 44 := by omega
      have r1 := within_lo x (n := 10) (by omega)
      have r2 := within_hi x (n := 10) (by omega)
      have CW := fun W : World => within_calls x 10 W (by omega) (by omega)
      have HS : Hid (anyLines ks ams (j + 1) = anyLines ks ams j ++ [⟨within x 10 - 1, amount y⟩]) := by
        unfold Hid anyLines
        rw [take_next (x := (x, y)) (List.getElem?_zip_eq_some.2 ⟨hx.out, hy.out⟩), List.map_append]
        rfl
      have hwp : IntKind.i64.wrap (within x 10 - 1) = within x 10 - 1 := by rw [IntKind.wrap_i64]; omega
      clear r1 r2
      go_wp2
      go_region_held3 (fun w' => w'.cell? ⟨b1, o1 + j, none⟩ = some (.int .i64 x) ∧ w'.cell? ⟨b2, o2 + j, none⟩ = some (.int .i64 y))
        (first | go_keep | (go_split_ands; exact ⟨hu1.flat.cell (by assumption) n1.out, hu1.flat.cell (by assumption) n2.out⟩))
        (first | (go_at_call 5; refine (CW _).mono ?_; rintro e w' ⟨rfl, rfl⟩) | (go_at_call 19; refine (amount_calls _ hyw _).mono ?_; rintro e w' ⟨rfl, rfl⟩) | (refine step_append (k := kItem) (h := h') (hx := Hp.none) (A := C) (cap := cap) (B := some ⟨wr.heap.size, 0, none⟩) (xs := anyLines ks ams j) (ys := [⟨within x 10 - 1, amount y⟩]) (by rfl) (.tmp 32) (.tmp 45) 34 (by rfl) 43 i0 (.agg #[.int .i64 0, .int .i64 0]) Try.underlying34 hi hz0 hz1 (by rfl) 16 hz2 j 1 1 HL.out rfl (by rfl) (by rfl) ho.out (hu.sub.of_below (by repeat (first | exact Below.refl _ _ | apply Below.drew | refine Below.alloc ?_ (by simp) _))) (Src.new (heap_new_at (by simp)) rfl) (Hp.none_sub _) (Hp.apart_none _) (by unfold maxLen; omega) (by omega) ?_; intro C' cap' w1 h1 ho1 hu1))
      go_wp2
      go_roundw
      case rel => exact ⟨j + 1, cap', C', h1, by omega, by omega, by omega, by go_num, rfl, by rw [HS.out]; exact ho1, hu.trans (hu1.flat.before (by repeat (first | exact Below.refl _ _ | apply Below.drew | refine Below.alloc ?_ (by simp) _)))⟩
      case measure => simp [intOf]; omega
    · have hex : ¬ j < ks.length ∨ (j < ks.length ∧ ¬ j < ams.length) ∨ (j < ks.length ∧ j < ams.length ∧ ¬ (j : Int) < 44) := by omega
      clear hlt
      rcases hex with t1 | ⟨t1, t2⟩ | ⟨t1, t2, t3⟩
      all_goals
        go_wp2
        go_ret
        exact .mk (anyLines ks ams j) C cap h' (by rw [HL.out]; omega) (by rw [HL.out]; rfl) ho.out hu
end Go.Proofs.Ytbaklmlnfdlmmaa
end
section
/- The walk of law06.Some: some lines, whichever. -/
namespace Go.Proofs.Ytbaklmlnfdlmmaa
open Go.RowKit Go.Sl
set_option maxHeartbeats 1000000
set_option maxRecDepth 100000
/-- An owned slice, cut short. -/
theorem Ow.cut {α : Type} {k : Kd α} {h : Hp} {A : Option Addr} {cap : Nat} {xs : List α} (o : Ow k h A cap xs) {n : Nat} (hn : n ≤ xs.length) : Ow k h A n (xs.take n) := by
  have hle := o.le
  have hmx := o.max
  refine ⟨by rw [List.length_take]; omega, by omega, fun e => by have := o.nil e; omega, fun ad e hc => ?_⟩
  obtain ⟨b, off, cur, E, e1, e2, e3, e4⟩ := o.row ad e (by omega)
  refine ⟨b, off, cur, E, e1, e2, ?_, fun i x hx => e4 i x ?_⟩
  · have : n * k.size ≤ cap * k.size := Nat.mul_le_mul_right _ (by omega)
    omega
  · rw [List.getElem?_take] at hx
    split at hx
    · exact hx
    · cases hx
set_option maxHeartbeats 4000000 in
theorem someRight_calls (A B : Option Addr) (ca cb : Nat) (ks ams : List Int) (at_ what : Int) (h k : Hp) (w : World) (hs : h.sub w) (qs : k.sub w) (sx : Sl kInt h A ca ks) (sy : Sl kInt k B cb ams)
    (hw : ∀ n ∈ ams, I64 n) :
    Calls Try.prog 6 #[.slice A ks.length ca, .slice B ams.length cb, .int .i64 at_, .int .i64 what, .bool false] w fun e w' => SomeLines w e w' := by
  obtain ⟨i0, hi, hz0, hz1, hz2⟩ := info_parts Try.infoLine
  by_cases hwh : 6 ≤ within what 12
  · refine (someKeep_calls A B ca cb ks ams at_ what h k w hs qs sx sy hw hwh).mono fun e w' => ?_
    rintro ⟨C, cap, h', h1, h2, h3⟩
    exact .mk _ C cap h' (by have := (right_fine ks ams).len; omega) h1 h2 h3
  have v1 := within_lo what (n := 12) (by omega)
  have CW := fun W : World => within_calls what 12 W (by omega) (by omega)
  generalize hv : within what 12 = v at CW
  have hv6 : v = 0 ∨ v = 1 ∨ v = 2 ∨ v = 3 ∨ v = 4 ∨ v = 5 := by omega
  have C10 := fun W : World => within_calls (wrap64 (what.tdiv 12)) 10 W (by omega) (by omega)
  have r1 := within_lo (wrap64 (what.tdiv 12)) (n := 10) (by omega)
  have r2 := within_hi (wrap64 (what.tdiv 12)) (n := 10) (by omega)
  generalize within (wrap64 (what.tdiv 12)) 10 = a at *
  clear hv hwh v1
  have R := playRight_calls A B ca cb ks ams h k w hs qs sx sy hw
  have hf := right_fine ks ams
  generalize rightL ks ams = L at *
  have hl := hf.len
  have hsm := Lib.hid hf.small
  clear hf hs qs sx sy hw
  go_enter Try.func6, Try.ntmps6
  go_wp2_with fail
  refine R.mono ?_
  rintro e w1 ⟨C, cap, h1, rfl, o1, u1⟩
  by_cases h0 : L.length = 0
  · have hz : ((L.length : Int) == 0) = true := by rw [h0]; rfl
    have hl44 : L.length ≤ 44 := by omega
    clear h0
    go_wp2
    go_ret
    exact .mk L C cap h1 hl44 rfl o1 u1
  · have hz : ((L.length : Int) == 0) = false := beq_eq_false_iff_ne.2 (by omega)
    have q1 := within_lo at_ (n := L.length) (by omega)
    have q2 := within_hi at_ (n := L.length) (by omega)
    have CK := fun W : World => within_calls at_ L.length W (by omega) (by omega)
    obtain ⟨m, hm⟩ := Int.eq_ofNat_of_zero_le q1
    rw [hm] at q1 q2 CK
    clear hm
    have hmt : m < L.length := by omega
    obtain ⟨x, hx⟩ := some_of_lt hmt
    obtain ⟨y, hy⟩ := some_of_lt (xs := L) (i := 0) (by omega)
    obtain ⟨b1, off1, hC, c1, c2⟩ := o1.sl.item u1.sub hx
    subst hC
    obtain ⟨b1', off1', hC, d1, d2⟩ := o1.sl.item u1.sub hy
    obtain ⟨rfl, rfl⟩ : b1 = b1' ∧ off1 = off1' := by cases hC; exact ⟨rfl, rfl⟩
    clear hC
    obtain ⟨x1, x2⟩ := hsm.out x (List.mem_of_getElem? hx.out)
    have hfz := o1.cell_free u1.sub (by omega)
    have hle := o1.le
    have i2 : (0 : Int) < (L.length : Int) := by omega
    rcases hv6 with rfl | rfl | rfl | rfl | rfl | rfl
    · obtain ⟨h3, o3, u3⟩ := Ow.set (x' := ⟨x.kind, x.amt + 1⟩) (v := .int .i64 (x.amt + 1)) (j := 1) o1 u1.sub hx.out (by decide) rfl
      go_wp2_with fail
      refine (CK _).mono ?_
      rintro e w' ⟨rfl, rfl⟩
      go_wp2_with fail
      refine (CW _).mono ?_
      rintro e w' ⟨rfl, rfl⟩
      go_wp2
      go_ret
      exact .mk (L.set m ⟨x.kind, x.amt + 1⟩) _ _ h3 (by rw [List.length_set]; omega) (by rw [List.length_set]; rfl) o3 (u1.trans u3)
    · obtain ⟨h3, o3, u3⟩ := Ow.set (x' := ⟨a - 1, x.amt⟩) (v := .int .i64 (a - 1)) (j := 0) o1 u1.sub hx.out (by decide) rfl
      go_wp2_with fail
      refine (CK _).mono ?_
      rintro e w' ⟨rfl, rfl⟩
      go_wp2_with fail
      refine (CW _).mono ?_
      rintro e w' ⟨rfl, rfl⟩
      go_wp2_with fail
      refine (C10 _).mono ?_
      rintro e w' ⟨rfl, rfl⟩
      go_wp2
      go_ret
      exact .mk (L.set m ⟨a - 1, x.amt⟩) _ _ h3 (by rw [List.length_set]; omega) (by rw [List.length_set]; rfl) o3 (u1.trans u3)
    · go_wp2_with fail
      refine (CK _).mono ?_
      rintro e w' ⟨rfl, rfl⟩
      go_wp2_with fail
      refine (CW _).mono ?_
      rintro e w' ⟨rfl, rfl⟩
      go_wp2_with (at_builtin; refine wpList_append (k := kItem) (h := h1) (hx := Hp.none) (A := some ⟨b1, off1, none⟩) (cap := cap) (B := some ⟨w1.heap.size, 0, none⟩) (xs := L) (ys := [x]) (by rfl) (.tmp 83) (.tmp 88) 34 (by rfl) 43 i0 (.agg #[.int .i64 0, .int .i64 0]) Try.underlying34 hi hz0 hz1 (by rfl) 16 hz2 L.length 1 1 rfl rfl (by rfl) (by rfl) o1 (u1.sub.of_below (by repeat (first | exact Below.refl _ _ | apply Below.drew | refine Below.alloc ?_ (by simp) _))) (Src.new (heap_new_at (by simp)) rfl) (Hp.none_sub _) (Hp.apart_none _) (by unfold maxLen; omega) (by omega) ?_; intro C' cap' w3 h3 o3 u3)
      go_ret
      exact .mk (L ++ [x]) _ _ h3 (by simp; omega) (by rw [List.length_append]; rfl) o3 (u1.trans (u3.flat.before (by repeat (first | exact Below.refl _ _ | apply Below.drew | refine Below.alloc ?_ (by simp) _))))
    · have hcm := o1.max
      unfold maxLen at hcm
      have j1 : (0 : Int) ≤ (m : Int) := by omega
      have j2 : (m : Int) ≤ (cap : Int) := by omega
      have j3 : (m : Int) + 1 ≤ (L.length : Int) := by omega
      have j4 : (0 : Int) ≤ (m : Int) + 1 := by omega
      have j5 : (L.length : Int) ≤ (cap : Int) := by omega
      have hwp : IntKind.i64.wrap ((m : Int) + 1) = (m : Int) + 1 := by rw [IntKind.wrap_i64]; omega
      have HK : Hid ((L.take m).length = m) := by unfold Hid; rw [List.length_take]; omega
      have HD : Hid ((L.drop (m + 1)).length = L.length - (m + 1)) := by unfold Hid; rw [List.length_drop]
      have oc := Ow.cut o1 (show m ≤ L.length by omega)
      have sd := o1.sl.behind (m + 1)
      have hlen : m + (L.length - (m + 1)) ≤ 44 := by omega
      go_wp2_with fail
      refine (CK _).mono ?_
      rintro e w' ⟨rfl, rfl⟩
      go_wp2_with fail
      refine (CW _).mono ?_
      rintro e w' ⟨rfl, rfl⟩
      go_wp2
      go_region_held3 (fun w' => True) (first | go_keep | (go_split_ands; trivial)) (first | (refine step_append (k := kItem) (h := h1) (hx := Hp.none) (A := some ⟨b1, off1, none⟩) (cap := m) (B := if cap = m + 1 then some ⟨b1, off1, none⟩ else some ⟨b1, off1 + (m + 1) * 2, none⟩) (xs := L.take m) (ys := L.drop (m + 1)) (by rfl) (.tmp 95) (.tmp 99) 34 (by rfl) 43 i0 (.agg #[.int .i64 0, .int .i64 0]) Try.underlying34 hi hz0 hz1 (by rfl) 16 hz2 m (L.length - (m + 1)) (cap - (m + 1)) HK.out HD.out (by rfl) (by rfl) oc (u1.sub.of_below (by repeat (first | exact Below.refl _ _ | apply Below.drew | refine Below.alloc ?_ (by simp) _))) ((sd.src (u1.sub.of_below (by repeat (first | exact Below.refl _ _ | apply Below.drew | refine Below.alloc ?_ (by simp) _)))).flat kItem_flat _) (Hp.none_sub _) (Hp.apart_none _) (by unfold maxLen; omega) (by omega) ?_; intro C' cap' w3 h3 o3 u3))
      generalize (if cap = m + 1 then some (⟨b1, off1, none⟩ : Addr) else some ⟨b1, off1 + (m + 1) * 2, none⟩) = BB
      go_wp2
      go_ret
      exact .mk (L.take m ++ L.drop (m + 1)) _ _ h3 (by rw [List.length_append, HK.out, HD.out]; exact hlen) (by rw [List.length_append, HK.out, HD.out]; rfl) o3 (u1.trans (u3.flat.before (by repeat (first | exact Below.refl _ _ | apply Below.drew | refine Below.alloc ?_ (by simp) _))))
    · have j1 : (0 : Int) ≤ (m : Int) := by omega
      have p0 : 0 < L.length := by omega
      rw [Nat.zero_mul, Nat.add_zero] at d1 d2
      obtain ⟨g1, p1, t1⟩ := Ow.set (x' := ⟨x.kind, y.amt⟩) (v := .int .i64 x.kind) (j := 0) o1 u1.sub hy.out (by decide) rfl
      have hy1 : (L.set 0 ⟨x.kind, y.amt⟩)[0]? = some (⟨x.kind, y.amt⟩ : SItem) := List.getElem?_set_self p0
      obtain ⟨g2, p2, t2⟩ := Ow.set (x' := x) (v := .int .i64 x.amt) (j := 1) p1 t1.sub hy1 (by decide) rfl
      have hL2 : ((L.set 0 ⟨x.kind, y.amt⟩).set 0 x)[m]? = some x := by
        rw [List.set_set]
        by_cases hm : m = 0
        · subst hm; exact List.getElem?_set_self p0
        · rw [List.getElem?_set_ne (by omega)]; exact hx.out
      obtain ⟨bb, oo, hC, e1, e2⟩ := p2.sl.item t2.sub (Lib.hid hL2)
      obtain ⟨rfl, rfl⟩ : b1 = bb ∧ off1 = oo := by cases hC; exact ⟨rfl, rfl⟩
      clear hC
      have f2 := p2.cell_free t2.sub (by simpa using p0)
      obtain ⟨g3, p3, t3⟩ := Ow.set (x' := ⟨y.kind, x.amt⟩) (v := .int .i64 y.kind) (j := 0) p2 t2.sub hL2 (by decide) rfl
      have hL3 : (((L.set 0 ⟨x.kind, y.amt⟩).set 0 x).set m ⟨y.kind, x.amt⟩)[m]? = some (⟨y.kind, x.amt⟩ : SItem) := List.getElem?_set_self (by simp; omega)
      obtain ⟨g4, p4, t4⟩ := Ow.set (x' := y) (v := .int .i64 y.amt) (j := 1) p3 t3.sub hL3 (by decide) rfl
      have T4 := ((t1.trans t2).trans t3).trans t4
      simp only [Nat.zero_mul, Nat.add_zero] at e1 e2 f2 T4
      clear t1 t2 t3 t4 p1 p2 p3
      go_wp2_with fail
      refine (CK _).mono ?_
      rintro e w' ⟨rfl, rfl⟩
      go_wp2_with fail
      refine (CW _).mono ?_
      rintro e w' ⟨rfl, rfl⟩
      go_wp2
      go_region
      go_wp2
      go_ret
      exact .mk _ _ _ g4 (by simp; omega) (by simp) p4 ((u1.trans T4).after ((Below.refl _ _).drew))
    · obtain ⟨h3, o3, u3⟩ := Ow.set (x' := ⟨x.kind, 0⟩) (v := .int .i64 0) (j := 1) o1 u1.sub hx.out (by decide) rfl
      go_wp2_with fail
      refine (CK _).mono ?_
      rintro e w' ⟨rfl, rfl⟩
      go_wp2_with fail
      refine (CW _).mono ?_
      rintro e w' ⟨rfl, rfl⟩
      go_wp2
      go_ret
      exact .mk (L.set m ⟨x.kind, 0⟩) _ _ h3 (by rw [List.length_set]; omega) (by rw [List.length_set]; rfl) o3 (u1.trans u3)
end Go.Proofs.Ytbaklmlnfdlmmaa
end
section
/- The functions over lines, in a body's own memory. -/
namespace Go.Proofs.Ytbaklmlnfdlmmaa
open Go.RowKit Go.Sl
set_option maxHeartbeats 1000000
set_option maxRecDepth 100000
section
variable {w0 w : World} {l : List Hp} {k k2 : Hp} {A B : Option Addr} {ca cb : Nat} {xs ys : List SItem}
theorem Lin.right (E : Env w0 w l) {ks ams : List Int} {h1 h2 : Hp} (s1 : h1.sub w0) (s2 : h2.sub w0) (sx : Sl kInt h1 A ca ks) (sy : Sl kInt h2 B cb ams) (hw : ∀ n ∈ ams, I64 n) :
    Calls Try.prog 20 #[.slice A ks.length ca, .slice B ams.length cb] w fun e w' => ∃ C cap h', e = .returned (.slice C (rightL ks ams).length cap) ∧ Ow kItem h' C cap (rightL ks ams) ∧ Env w0 w' (l ++ [h']) :=
  (playRight_calls A B ca cb ks ams h1 h2 w (E.arg s1) (E.arg s2) sx sy hw).mono fun _ _ ⟨C, cap, h', he, ho, u⟩ => ⟨C, cap, h', he, ho, E.new u⟩
theorem Lin.reverse (E : Env w0 w l) (ks : k.sub w) (sx : Sl kItem k A ca xs) (n : Nat) (hn : xs.length = n) (hl : n ≤ 1000000) :
    Calls Try.prog 34 #[.slice A n ca] w fun e w' => ∃ C cap h', e = .returned (.slice C n cap) ∧ Ow kItem h' C cap (reverseL xs) ∧ Env w0 w' (l ++ [h']) := by
  subst hn
  exact (reverse_calls A ca xs k w ks sx hl).mono fun _ _ ⟨C, cap, h', he, ho, u⟩ => ⟨C, cap, h', he, ho, E.new u⟩
theorem Lin.same (E : Env w0 w l) (ks : k.sub w) (ks2 : k2.sub w) (sx : Sl kItem k A ca xs) (sy : Sl kItem k2 B cb ys) (n m : Nat) (hn : xs.length = n) (hm : ys.length = m) (he : xs = ys) :
    Calls Try.prog 13 #[.slice A n ca, .slice B m cb] w fun e w' => e = .returned (.bool true) ∧ Env w0 w' l := by
  subst hn
  subst hm
  exact (same_line A B ca cb xs ys k k2 w ks ks2 sx sy).mono fun _ _ ⟨h1, b⟩ => ⟨by rw [h1, eqB_t he], E.below b⟩
end
end Go.Proofs.Ytbaklmlnfdlmmaa
end
section
/- The walk of law07.StorePlays. -/
namespace Go.Proofs.Ytbaklmlnfdlmmaa
open Go.RowKit Go.Sl
set_option maxHeartbeats 4000000
set_option maxRecDepth 100000
theorem some_calls (A B : Option Addr) (ca cb : Nat) (ks ams : List Int) (at_ what : Int) (fl : Bool) (h k : Hp) (w : World) (hs : h.sub w) (qs : k.sub w) (sx : Sl kInt h A ca ks) (sy : Sl kInt k B cb ams)
    (hw : ∀ n ∈ ams, I64 n) :
    Calls Try.prog 6 #[.slice A ks.length ca, .slice B ams.length cb, .int .i64 at_, .int .i64 what, .bool fl] w fun e w' => SomeLines w e w' := by
  cases fl with
  | true => exact someRaw_calls A B ca cb ks ams at_ what h k w hs qs sx sy hw
  | false => exact someRight_calls A B ca cb ks ams at_ what h k w hs qs sx sy hw
theorem storePlays_calls (A : Option Addr) (ca : Nat) (xs : List SPA) (k1 : Hp) (w : World) (hs1 : k1.sub w) (s1 : Sl kPA k1 A ca xs) (hz : ∀ z ∈ xs, (∀ j, I64 (z.f j)) ∧ (∀ u ∈ z.us, I64 u) ∧ ∀ u ∈ z.vs, I64 u) :
    Calls Try.prog 3 #[.slice A xs.length ca] w fun e w' => e = .returned (.bool true) ∧ Below w.heap.size w w' := by
  have E0 := Env.start w
  have m1 := s1.small
  have HZ := Lib.hid hz
  clear hz
  go_enter Try.func3, Try.ntmps3
  go_wp2_with fail
  refine (Sto.new E0).mono ?_
  rintro e w1 ⟨h1, c, rfl, S1, E1⟩
  try simp at E1
  go_upto_region 2 with fail
  have E2 := E1.alloc (.cells #[.slice none 0 0] 28)
  simp at E2
  have P1 := RSto.box w1.heap.size
  obtain ⟨W2, hW2⟩ : ∃ W, W = w1.alloc (.cells #[.slice none 0 0] 28) := ⟨_, rfl⟩
  rw [← hW2] at E2
  rw [← hW2]
  clear hW2
  generalize hb2 : w1.heap.size = bx at *
  go_wp2_with fail
  go_loopw [5] (fun i wr => ∃ (j : Nat) (h hr : Hp) (js : List SJ), j ≤ xs.length ∧ j ≤ 16 ∧ i = .int .i64 j ∧ Sto h c js ∧ RSto hr bx js ∧ Env w wr [h, hr]) (fun i _ => 16 - (intOf i).toNat)
  case atStart => exact ⟨0, h1, _, [], by omega, by omega, rfl, S1, P1, E2⟩
  case round =>
    clear S1 P1 E1 E2 hb2
    obtain ⟨j, h, hr, js, hj, hj2, rfl, S, P, E⟩ := hrel
    by_cases hlt : j < xs.length ∧ j < 16
    · obtain ⟨hlt, hlt2⟩ := hlt
      obtain ⟨x, hx⟩ := some_of_lt hlt
      obtain ⟨ba, oa, U, cu, V, cv, rfl, su, sv', d0, d1, d2, d3, d4, d5, d6, d7⟩ := s1.pa (hs1.of_below E.low) hx
      obtain ⟨z0, z1, z2⟩ := HZ.out x (List.mem_of_getElem? hx.out)
      have i1 : (0 : Int) ≤ (j : Int) := by omega
      have i2 : (j : Int) < (xs.length : Int) := by omega
      have i3 : (j : Int) < 16 := by omega
      have y3 := z0 3
      generalize x.f 0 = v0 at *
      generalize x.f 1 = v1 at *
      generalize x.f 2 = v2 at *
      generalize x.f 3 = v3 at *
      generalize x.f 6 = v6 at *
      generalize x.f 7 = v7 at *
      clear z0
      have Z2 := Lib.hid z2
      clear z1 z2
      have p1 := within_lo v0 (n := 13) (by omega)
      have C0 := fun W => within_calls v0 13 W (by omega) (by omega)
      have C1 := fun W => within_calls v1 5 W (by omega) (by omega)
      have C2 := fun W => within_calls v2 6 W (by omega) (by omega)
      generalize within v0 13 = q0 at *
      generalize within v1 5 = q1 at *
      generalize within v2 6 = q2 at *
      obtain ⟨ka, hka, hka3⟩ : ∃ k : Nat, q0.tmod 3 = (k : Int) ∧ k < 3 := ⟨(q0.tmod 3).toNat, by have := Int.tmod_nonneg 3 p1; omega, by have := Int.tmod_lt_of_pos q0 (b := 3) (by omega); omega⟩
      have ik1 : (0 : Int) ≤ (ka : Int) := by omega
      have ik2 : (ka : Int) < 3 := by omega
      obtain ⟨sv, hsv⟩ : ∃ sv : ByteArray, [Value.string ⟨#[97]⟩, Value.string ⟨#[98]⟩, Value.string ⟨#[]⟩][ka] = .string sv := by
        rcases (show ka = 0 ∨ ka = 1 ∨ ka = 2 by omega) with rfl | rfl | rfl
        · exact ⟨_, rfl⟩
        · exact ⟨_, rfl⟩
        · exact ⟨_, rfl⟩
      go_wp2_with fail
      refine (C0 _).mono ?_
      rintro e w' ⟨rfl, rfl⟩
      go_upto_region 9 with fail
      clear hsv ik1 ik2 hka hka3 C0 p1 d0 d1 d2 d3 d4 d5 d6 d7
      have E4 := (E.alloc (.cells #[.int .i64 v0, .int .i64 v1, .int .i64 v2, .int .i64 v3, .slice U x.us.length cu, .slice V x.vs.length cv, .int .i64 v6, .int .i64 v7] 31)).alloc' (.cells #[.string ⟨#[97]⟩, .string ⟨#[98]⟩, .string ⟨#[]⟩] 9)
      simp at E4
      obtain ⟨W, hW⟩ : ∃ W : World, W = (wr.alloc (.cells #[.int .i64 v0, .int .i64 v1, .int .i64 v2, .int .i64 v3, .slice U x.us.length cu, .slice V x.vs.length cv, .int .i64 v6, .int .i64 v7] 31)).alloc (.cells #[.string ⟨#[97]⟩, .string ⟨#[98]⟩, .string ⟨#[]⟩] 9) := ⟨_, rfl⟩
      rw [← hW] at E4
      rw [← hW]
      clear hW E
      generalize wr.heap.size = b6 at *
      have g0 := E4.cell 2 rfl 0 rfl
      have g1 := E4.cell 2 rfl 1 rfl
      have g2 := E4.cell 2 rfl 2 rfl
      have g3 := E4.cell 2 rfl 3 rfl
      have g4 := E4.cell 2 rfl 4 rfl
      have g5 := E4.cell 2 rfl 5 rfl
      have g6 := E4.cell 2 rfl 6 rfl
      have g7 := E4.cell 2 rfl 7 rfl
      have gf := fun k => E4.free 2 rfl k
      go_wp2_with fail
      refine (C1 _).mono ?_
      rintro e w' ⟨rfl, rfl⟩
      go_upto_if 53 with fail
      go_cut [8] (fun a wx => ∃ v : Int, a = .int .i64 v ∧ Env w wx [h, hr, Hp.box b6 [.int .i64 v0, .int .i64 v1, .int .i64 v2, .int .i64 v3, .slice U x.us.length cu, .slice V x.vs.length cv, .int .i64 v6, .int .i64 v7] 31])
      case first =>
        by_cases h3 : v1.tmod 41 = 40
        · have t3 : (v1.tmod 41 == 40) = true := by simpa using h3
          clear h3
          go_wp2_with fail
          go_meet
          exact ⟨_, rfl, E4⟩
        · have t3 : (v1.tmod 41 == 40) = false := by simpa using h3
          clear h3
          go_wp2_with fail
          go_meet
          exact ⟨_, rfl, E4⟩
      case rest =>
      obtain ⟨per, rfl, E5⟩ := hcut
      clear g0 g1 g2 g3 g4 g5 g6 g7 gf E4 C1
      have g0 := E5.cell 2 rfl 0 rfl
      have g1 := E5.cell 2 rfl 1 rfl
      have g2 := E5.cell 2 rfl 2 rfl
      have g3 := E5.cell 2 rfl 3 rfl
      have g4 := E5.cell 2 rfl 4 rfl
      have g5 := E5.cell 2 rfl 5 rfl
      have g6 := E5.cell 2 rfl 6 rfl
      have g7 := E5.cell 2 rfl 7 rfl
      have gf := fun k => E5.free 2 rfl k
      have SC := fun (W : World) (hW : Below w.heap.size w W) => some_calls U V cu cv x.us x.vs v6 v7 (v7.tmod 19 == 18) k1 k1 W (hs1.of_below hW) (hs1.of_below hW) su sv' Z2.out
      go_wp2_with fail
      refine (SC _ E5.low).mono ?_
      rintro e w6 ⟨L, C6, n6, h6, hL, rfl, o6, u6⟩
      clear SC
      have E6 := E5.new u6
      simp at E6
      clear g0 g1 g2 g3 g4 g5 g6 g7 gf E5
      have g0 := E6.cell 2 rfl 0 rfl
      have g1 := E6.cell 2 rfl 1 rfl
      have g2 := E6.cell 2 rfl 2 rfl
      have g3 := E6.cell 2 rfl 3 rfl
      have g4 := E6.cell 2 rfl 4 rfl
      have g5 := E6.cell 2 rfl 5 rfl
      have g6 := E6.cell 2 rfl 6 rfl
      have g7 := E6.cell 2 rfl 7 rfl
      have gf := fun k => E6.free 2 rfl k
      go_wp2_with fail
      refine (C2 _).mono ?_
      rintro e w' ⟨rfl, rfl⟩
      go_upto_block 2 with fail
      go_cut [7, 8, 9, 10, 11] (fun a b c d f wx => ∃ (ent : ByteArray) (per : Int) (L : List SItem) (C : Option Addr) (n : Nat) (hL : Hp) (kind o : Int), a = .string ent ∧ b = .int .i64 per ∧ c = .slice C L.length n ∧ d = .int .i64 kind ∧ f = .int .i64 o ∧ Sl kItem hL C n L ∧ Env w wx [h, hr, hL])
      case first =>
        by_cases k0 : q2 = 0
        · have t0 : (q2 == 0) = true := by simpa using k0
          clear k0
          as_aux_lemma =>
            obtain ⟨cs, hbx, AJ, cj, rfl, ow⟩ := P.pt
            have cx : w6.cell? ⟨bx, 0, none⟩ = some (.slice AJ js.length cj) := by rw [cell_of_row w6 bx 0 _ _ _ (E6.sub 1 rfl bx _ hbx)]; rfl
            have jl := S.good.len
            have jl1 : (0 : Int) ≤ (js.length : Int) := by omega
            have jl2 : (js.length : Int) ≤ 200 := by omega
            have wl := within_lo v3 (n := (js.length : Int) + 2) (by omega)
            have wh := within_hi v3 (n := (js.length : Int) + 2) (by omega)
            have W3 := fun W => within_calls v3 ((js.length : Int) + 2) W (by omega) (by omega)
            generalize within v3 ((js.length : Int) + 2) = q3 at *
            go_upto_region 16 with fail
            go_quiet (first | (go_at_call 5; (first | exact quiet_one (W3 _) | exact quiet_more (W3 _))) | fail)
            have E6n := E6.drewN nq
            obtain ⟨V7, hV7⟩ : ∃ V, V = w6.drewN nq := ⟨_, rfl⟩
            rw [← hV7] at E6n
            rw [← hV7]
            clear hV7 g0 g1 g2 g3 g4 g5 g6 g7 gf cx E6 W3
            have cx : V7.cell? ⟨bx, 0, none⟩ = some (.slice AJ js.length cj) := by rw [cell_of_row V7 bx 0 _ _ _ (E6n.sub 1 rfl bx _ hbx)]; rfl
            have g0 := E6n.cell 2 rfl 0 rfl
            have g1 := E6n.cell 2 rfl 1 rfl
            have g2 := E6n.cell 2 rfl 2 rfl
            have g3 := E6n.cell 2 rfl 3 rfl
            have g4 := E6n.cell 2 rfl 4 rfl
            have g5 := E6n.cell 2 rfl 5 rfl
            have g6 := E6n.cell 2 rfl 6 rfl
            have g7 := E6n.cell 2 rfl 7 rfl
            have gf := fun k => E6n.free 2 rfl k
            by_cases n1 : 0 < q3
            · have m1' : decide (0 < q3) = true := by simpa using n1
              by_cases n2 : q3 ≤ (js.length : Int)
              · have m2' : decide (q3 ≤ (js.length : Int)) = true := by simpa using n2
                by_cases n3 : v3.tmod 5 = 0
                · have m3' : (v3.tmod 5 != 0) = false := by simpa using n3
                  clear n3
                  go_wp2_with fail
                  go_meet
                  exact ⟨_, _, L, C6, n6, h6, _, _, rfl, rfl, rfl, rfl, rfl, o6.sl, by have E9 := E6n.drop 2; simp at E9; exact E9⟩
                · have m3' : (v3.tmod 5 != 0) = true := by simpa using n3
                  clear n3
                  obtain ⟨m, hm⟩ : ∃ m : Nat, (q3 - 1).toNat = m := ⟨_, rfl⟩
                  obtain ⟨y, hy⟩ := some_of_lt (show m < js.length by omega)
                  have hyl := S.good.lines y (List.mem_of_getElem? hy.out)
                  obtain ⟨bj, oj, B, cb, rfl, slj, c1, c2, c3, c4, c5, c6⟩ := ow.sl.jou ((E6n.sub 1 rfl).del bx) hy
                  have j1 : 1 ≤ q3 := by omega
                  have hw1 : IntKind.i64.wrap (q3 - 1) = q3 - 1 := by rw [IntKind.wrap_i64]; omega
                  have hi0 : 0 ≤ q3 - 1 := by omega
                  have hi1 : q3 - 1 < (js.length : Int) := by omega
                  have RC := fun (W : World) (hW : Below V7.heap.size V7 W) => refReverse_calls B cb y.lines (hr.del bx) W (((E6n.sub 1 rfl).del bx).of_below hW) slj (by omega)
                  clear c1 c4 c5 n1
                  go_upto_region 18 with fail
                  try simp only [List.append_eq, List.cons_append, List.nil_append]
                  go_region_held3 (fun V => V.cell? ⟨bx, 0, none⟩ = some (.slice (some ⟨bj, oj, none⟩) js.length cj) ∧ V.cell? ⟨bj, oj + m * 6 + 1, none⟩ = some (.string y.ent) ∧ V.cell? ⟨bj, oj + m * 6 + 2, none⟩ = some (.int .i64 y.period) ∧ V.cell? ⟨bj, oj + m * 6 + 5, none⟩ = some (.slice B y.lines.length cb))
                    (first | go_keep | (go_split_ands; exact ⟨(B1.cell (World.block_lt_of_cell? _ _ cx)).trans cx, (B1.cell (World.block_lt_of_cell? _ _ c2)).trans c2, (B1.cell (World.block_lt_of_cell? _ _ c3)).trans c3, (B1.cell (World.block_lt_of_cell? _ _ c6)).trans c6⟩))
                    (first | (go_at_call 7; refine (RC _ (Below.refl _ _).drew).mono ?_; rintro e w8 ⟨C8, n8, h8, rfl, o8, u8⟩; have B1 := (Below.refl V7.heap.size V7).drew.trans u8.below; have E8 := E6n.drew.new u8) | fail)
                  simp at E8
                  clear cx c2 c3 c6 g0 g1 g2 g3 g4 g5 g6 g7 gf
                  go_wp2_with fail
                  go_meet
                  exact ⟨y.ent, y.period, reverseL y.lines, C8, n8, h8, 2, q3, rfl, rfl, by simp [reverseL], rfl, rfl, o8.sl, by have E9 := (E8.drop 3).drop 2; simp at E9; exact E9⟩
              · have m2' : decide (q3 ≤ (js.length : Int)) = false := by simpa using n2
                clear n2
                go_wp2_with fail
                go_meet
                exact ⟨_, _, L, C6, n6, h6, _, _, rfl, rfl, rfl, rfl, rfl, o6.sl, by have E9 := E6n.drop 2; simp at E9; exact E9⟩
            · have m1' : decide (0 < q3) = false := by simpa using n1
              clear n1
              go_wp2_with fail
              go_meet
              exact ⟨_, _, L, C6, n6, h6, _, _, rfl, rfl, rfl, rfl, rfl, o6.sl, by have E9 := E6n.drop 2; simp at E9; exact E9⟩
        · have t0 : (q2 == 0) = false := by simpa using k0
          by_cases k1' : q2 = 1
          · have t1 : (q2 == 1) = true := by simpa using k1'
            clear k0 k1'
            go_upto_region 20 with fail
            go_quiet (fail)
            go_wp2_with fail
            go_meet
            exact ⟨_, _, L, C6, n6, h6, _, _, rfl, rfl, rfl, rfl, rfl, o6.sl, by have E9 := (E6.drop 2).drewN nq; simp at E9; exact E9⟩
          · have t1 : (q2 == 1) = false := by simpa using k1'
            clear k0 k1'
            go_wp2_with fail
            go_meet
            exact ⟨_, _, L, C6, n6, h6, _, _, rfl, rfl, rfl, rfl, rfl, o6.sl, E6.drop 2⟩
      case rest =>
      clear E6 g0 g1 g2 g3 g4 g5 g6 g7 gf o6 u6
      obtain ⟨ent, per, L, C, n, hL, kind, o, rfl, rfl, rfl, rfl, rfl, sl, E7⟩ := hcut
      by_cases h7 : j = 7
      · have t7 : ((j : Int) == 7) = true := by simp [h7]
        clear h7
        go_wp2_with fail
        refine (S.clone E7 0 rfl).mono ?_
        rintro e w8 ⟨h8, b8, rfl, S8, E8⟩
        simp at E8
        go_wp2_with fail
        have E9 := E8.alloc (.cells #[.int .i64 1, .int .i64 5, .int .i64 2, .int .i64 (-5)] 43)
        simp at E9
        refine (S8.post_any E9 3 rfl ⟨#[97]⟩ 0 1 0 (xs := [⟨1, 5⟩, ⟨2, -5⟩]) (Sl.lit (Hp.one_self _ _) (by unfold maxLen; decide)) (E9.sub 4 rfl)).mono ?_
        rintro e w9 ⟨h9, rfl, S9, E10⟩
        simp at E10
        have EQ := (E10.drop 4).drop 3
        simp at EQ
        clear E8 E9 E10 S8 S9
        have sk := EQ.sub 2 rfl
        as_aux_lemma =>
          go_wp2_with fail
          refine (S.post_any EQ 0 rfl ent per kind o sl sk).mono ?_
          rintro e w10 ⟨h10, rfl, S10, E10⟩
          simp at E10
          have sk2 := E10.sub 2 rfl
          go_wp2_with fail
          refine (P.post E10 1 rfl ent per kind o sl sk2).mono ?_
          rintro e w11 ⟨h11, rfl, P11, E11⟩
          simp at E11
          have E12 := E11.drop 2
          simp at E12
          clear E10 E11 sk2
          generalize post js ent per kind o L = js2 at *
          generalize postSeq js ent per kind o L = sq at *
          generalize postE js ent per kind o L = er at *
          go_wp2
          go_roundw
          case rel => exact ⟨j + 1, h10, h11, js2, by omega, by omega, by go_num, S10, P11, E12⟩
          case measure => simp [intOf]; omega
      · have t7 : ((j : Int) == 7) = false := by simp; omega
        clear h7
        have EQ := E7
        have sk := EQ.sub 2 rfl
        as_aux_lemma =>
          go_wp2_with fail
          refine (S.post_any EQ 0 rfl ent per kind o sl sk).mono ?_
          rintro e w10 ⟨h10, rfl, S10, E10⟩
          simp at E10
          have sk2 := E10.sub 2 rfl
          go_wp2_with fail
          refine (P.post E10 1 rfl ent per kind o sl sk2).mono ?_
          rintro e w11 ⟨h11, rfl, P11, E11⟩
          simp at E11
          have E12 := E11.drop 2
          simp at E12
          clear E10 E11 sk2
          generalize post js ent per kind o L = js2 at *
          generalize postSeq js ent per kind o L = sq at *
          generalize postE js ent per kind o L = er at *
          go_wp2
          go_roundw
          case rel => exact ⟨j + 1, h10, h11, js2, by omega, by omega, by go_num, S10, P11, E12⟩
          case measure => simp [intOf]; omega
    · by_cases t1 : j < xs.length
      · have t2 : ¬ j < 16 := fun e => hlt ⟨t1, e⟩
        obtain rfl : j = 16 := by omega
        rw [show ((16 : Nat) : Int) = 16 from rfl]
        have i2 : (16 : Int) < (xs.length : Int) := by omega
        clear hlt t2
        as_aux_lemma =>
          obtain ⟨cs, hbx, AJ, cj, rfl, ow⟩ := P.pt
          have cx : wr.cell? ⟨bx, 0, none⟩ = some (.slice AJ js.length cj) := by rw [cell_of_row wr bx 0 _ _ _ (E.sub 1 rfl bx _ hbx)]; rfl
          go_wp2
          go_region_held3 (fun V => V.cell? ⟨bx, 0, none⟩ = some (.slice AJ js.length cj))
            (first | go_keep | exact hk2)
            (first
              | (go_at_call 12; refine (S.journals (by repeat (first | (with_reducible exact E) | (with_reducible apply Env.drew) | (with_reducible apply Env.drewN) | (with_reducible apply Env.alloc'))) 0 rfl).mono ?_; rintro e w2 ⟨C2, n2, h2, rfl, o2, E2⟩; have hk2 : w2.cell? ⟨bx, 0, none⟩ = some (.slice AJ js.length cj) := by rw [cell_of_row w2 bx 0 _ _ _ (E2.sub 1 rfl bx _ hbx)]; rfl)
              | (go_at_call 11; refine (sameJou_calls C2 AJ n2 cj js h2 (hr.del bx) _ (E2.sub 2 rfl) ((E2.sub 1 rfl).del bx) o2.sl ow.sl).mono ?_; rintro e w3 ⟨rfl, B3⟩; have E3 := (E2.below B3).drop 2; have hk2 : w3.cell? ⟨bx, 0, none⟩ = some (.slice AJ js.length cj) := by rw [cell_of_row w3 bx 0 _ _ _ (E3.sub 1 rfl bx _ hbx)]; rfl)
              | fail)
          simp at E3
          clear cx E2 o2 hk2 ow
          go_wp2_with fail
          go_loopw [17] (fun i wr => ∃ z : Int, -1 ≤ z ∧ z ≤ 6 ∧ i = .int .i64 z ∧ Env w wr [h, hr]) (fun i _ => (6 - intOf i).toNat)
          case atStart => exact ⟨-1, by omega, by omega, rfl, E3⟩
          case round =>
            clear E3 E
            obtain ⟨z, hz1, hz2, rfl, E⟩ := hrel
            by_cases hz : z < 6
            · have E4 := E.alloc (.cells #[.string ⟨#[97]⟩, .string ⟨#[98]⟩, .string ⟨#[120]⟩] 9)
              simp at E4
              go_upto_region 36 with fail
              generalize wr.heap.size = bi at *
              go_loopw [189] (fun i wr => ∃ m : Nat, m ≤ 3 ∧ i = .int .i64 m ∧ Env w wr [h, hr, Hp.box bi [.string ⟨#[97]⟩, .string ⟨#[98]⟩, .string ⟨#[120]⟩] 9]) (fun i _ => 3 - (intOf i).toNat)
              case atStart => exact ⟨0, by omega, rfl, E4⟩
              case round =>
                clear E4 E
                obtain ⟨m, hm, rfl, E⟩ := hrel
                by_cases hm3 : m < 3
                · obtain ⟨sv, hsv⟩ : ∃ sv : ByteArray, wr.cell? ⟨bi, m, none⟩ = some (.string sv) := by
                    rcases (show m = 0 ∨ m = 1 ∨ m = 2 by omega) with rfl | rfl | rfl
                    · exact ⟨_, E.cell 2 rfl 0 rfl⟩
                    · exact ⟨_, E.cell 2 rfl 1 rfl⟩
                    · exact ⟨_, E.cell 2 rfl 2 rfl⟩
                  have i1 : (0 : Int) ≤ (m : Int) := by omega
                  have i2 : (m : Int) < 3 := by omega
                  obtain ⟨TL, hTL⟩ : ∃ TL, trial js sv z = TL := ⟨_, rfl⟩
                  go_wp2_with fail
                  refine (S.trial E 0 rfl hTL).mono ?_
                  rintro e w4 ⟨C4, n4, h4, rfl, o4, E5⟩
                  simp at E5
                  go_wp2_with fail
                  refine (P.trial E5 1 rfl hTL).mono ?_
                  rintro e w5 ⟨C5, n5, h5, rfl, o5, E6⟩
                  simp at E6
                  clear hTL hsv
                  go_wp2_with fail
                  refine (Lin.same E6 (E6.sub 3 rfl) (E6.sub 4 rfl) o4.sl o5.sl _ _ rfl rfl rfl).mono ?_
                  rintro e w6 ⟨rfl, E7⟩
                  have E8 := (E7.drop 4).drop 3
                  simp at E8
                  clear E5 E6 E7 o4 o5 E
                  go_wp2_with fail
                  go_loopw [20] (fun i wr => ∃ q : Nat, q ≤ 9 ∧ i = .int .i64 q ∧ Env w wr [h, hr, Hp.box bi [.string ⟨#[97]⟩, .string ⟨#[98]⟩, .string ⟨#[120]⟩] 9]) (fun i _ => 9 - (intOf i).toNat)
                  case atStart => exact ⟨0, by omega, rfl, E8⟩
                  case round =>
                    clear E8
                    obtain ⟨q, hq, rfl, E⟩ := hrel
                    by_cases hq9 : q < 9
                    · have i3 : (q : Int) < 9 := by omega
                      obtain ⟨bv, hbv⟩ : ∃ bv, balance js sv (q : Int) z = bv := ⟨_, rfl⟩
                      go_wp2_with fail
                      refine (S.balance E 0 rfl hbv).mono ?_
                      rintro e w7 ⟨rfl, E9⟩
                      go_wp2_with fail
                      refine (P.balance E9 1 rfl hbv).mono ?_
                      rintro e w8 ⟨rfl, E10⟩
                      go_wp2
                      go_roundw
                      case rel => exact ⟨q + 1, by omega, by go_num, E10⟩
                      case measure => simp [intOf]; omega
                    · obtain rfl : q = 9 := by omega
                      go_wp2
                      go_roundw
                      case rel => exact ⟨m + 1, by omega, by go_num, E⟩
                      case measure => simp [intOf]; omega
                · obtain rfl : m = 3 := by omega
                  have E5 := E.drop 2
                  simp at E5
                  go_wp2
                  go_roundw
                  case rel => exact ⟨z + 1, by omega, by omega, by go_num, E5⟩
                  case measure => simp [intOf]; omega
            · obtain rfl : z = 6 := by omega
              go_wp2_with fail
              refine (wakes07 _).mono ?_
              rintro e w9 ⟨rfl, B9⟩
              go_wp2
              go_ret
              exact ⟨rfl, (E.below B9).low⟩
      · obtain rfl : j = xs.length := by omega
        clear hlt t1
        as_aux_lemma =>
          obtain ⟨cs, hbx, AJ, cj, rfl, ow⟩ := P.pt
          have cx : wr.cell? ⟨bx, 0, none⟩ = some (.slice AJ js.length cj) := by rw [cell_of_row wr bx 0 _ _ _ (E.sub 1 rfl bx _ hbx)]; rfl
          go_wp2
          go_region_held3 (fun V => V.cell? ⟨bx, 0, none⟩ = some (.slice AJ js.length cj))
            (first | go_keep | exact hk2)
            (first
              | (go_at_call 12; refine (S.journals (by repeat (first | (with_reducible exact E) | (with_reducible apply Env.drew) | (with_reducible apply Env.drewN) | (with_reducible apply Env.alloc'))) 0 rfl).mono ?_; rintro e w2 ⟨C2, n2, h2, rfl, o2, E2⟩; have hk2 : w2.cell? ⟨bx, 0, none⟩ = some (.slice AJ js.length cj) := by rw [cell_of_row w2 bx 0 _ _ _ (E2.sub 1 rfl bx _ hbx)]; rfl)
              | (go_at_call 11; refine (sameJou_calls C2 AJ n2 cj js h2 (hr.del bx) _ (E2.sub 2 rfl) ((E2.sub 1 rfl).del bx) o2.sl ow.sl).mono ?_; rintro e w3 ⟨rfl, B3⟩; have E3 := (E2.below B3).drop 2; have hk2 : w3.cell? ⟨bx, 0, none⟩ = some (.slice AJ js.length cj) := by rw [cell_of_row w3 bx 0 _ _ _ (E3.sub 1 rfl bx _ hbx)]; rfl)
              | fail)
          simp at E3
          clear cx E2 o2 hk2 ow
          go_wp2_with fail
          go_loopw [17] (fun i wr => ∃ z : Int, -1 ≤ z ∧ z ≤ 6 ∧ i = .int .i64 z ∧ Env w wr [h, hr]) (fun i _ => (6 - intOf i).toNat)
          case atStart => exact ⟨-1, by omega, by omega, rfl, E3⟩
          case round =>
            clear E3 E
            obtain ⟨z, hz1, hz2, rfl, E⟩ := hrel
            by_cases hz : z < 6
            · have E4 := E.alloc (.cells #[.string ⟨#[97]⟩, .string ⟨#[98]⟩, .string ⟨#[120]⟩] 9)
              simp at E4
              go_upto_region 36 with fail
              generalize wr.heap.size = bi at *
              go_loopw [189] (fun i wr => ∃ m : Nat, m ≤ 3 ∧ i = .int .i64 m ∧ Env w wr [h, hr, Hp.box bi [.string ⟨#[97]⟩, .string ⟨#[98]⟩, .string ⟨#[120]⟩] 9]) (fun i _ => 3 - (intOf i).toNat)
              case atStart => exact ⟨0, by omega, rfl, E4⟩
              case round =>
                clear E4 E
                obtain ⟨m, hm, rfl, E⟩ := hrel
                by_cases hm3 : m < 3
                · obtain ⟨sv, hsv⟩ : ∃ sv : ByteArray, wr.cell? ⟨bi, m, none⟩ = some (.string sv) := by
                    rcases (show m = 0 ∨ m = 1 ∨ m = 2 by omega) with rfl | rfl | rfl
                    · exact ⟨_, E.cell 2 rfl 0 rfl⟩
                    · exact ⟨_, E.cell 2 rfl 1 rfl⟩
                    · exact ⟨_, E.cell 2 rfl 2 rfl⟩
                  have i1 : (0 : Int) ≤ (m : Int) := by omega
                  have i2 : (m : Int) < 3 := by omega
                  obtain ⟨TL, hTL⟩ : ∃ TL, trial js sv z = TL := ⟨_, rfl⟩
                  go_wp2_with fail
                  refine (S.trial E 0 rfl hTL).mono ?_
                  rintro e w4 ⟨C4, n4, h4, rfl, o4, E5⟩
                  simp at E5
                  go_wp2_with fail
                  refine (P.trial E5 1 rfl hTL).mono ?_
                  rintro e w5 ⟨C5, n5, h5, rfl, o5, E6⟩
                  simp at E6
                  clear hTL hsv
                  go_wp2_with fail
                  refine (Lin.same E6 (E6.sub 3 rfl) (E6.sub 4 rfl) o4.sl o5.sl _ _ rfl rfl rfl).mono ?_
                  rintro e w6 ⟨rfl, E7⟩
                  have E8 := (E7.drop 4).drop 3
                  simp at E8
                  clear E5 E6 E7 o4 o5 E
                  go_wp2_with fail
                  go_loopw [20] (fun i wr => ∃ q : Nat, q ≤ 9 ∧ i = .int .i64 q ∧ Env w wr [h, hr, Hp.box bi [.string ⟨#[97]⟩, .string ⟨#[98]⟩, .string ⟨#[120]⟩] 9]) (fun i _ => 9 - (intOf i).toNat)
                  case atStart => exact ⟨0, by omega, rfl, E8⟩
                  case round =>
                    clear E8
                    obtain ⟨q, hq, rfl, E⟩ := hrel
                    by_cases hq9 : q < 9
                    · have i3 : (q : Int) < 9 := by omega
                      obtain ⟨bv, hbv⟩ : ∃ bv, balance js sv (q : Int) z = bv := ⟨_, rfl⟩
                      go_wp2_with fail
                      refine (S.balance E 0 rfl hbv).mono ?_
                      rintro e w7 ⟨rfl, E9⟩
                      go_wp2_with fail
                      refine (P.balance E9 1 rfl hbv).mono ?_
                      rintro e w8 ⟨rfl, E10⟩
                      go_wp2
                      go_roundw
                      case rel => exact ⟨q + 1, by omega, by go_num, E10⟩
                      case measure => simp [intOf]; omega
                    · obtain rfl : q = 9 := by omega
                      go_wp2
                      go_roundw
                      case rel => exact ⟨m + 1, by omega, by go_num, E⟩
                      case measure => simp [intOf]; omega
                · obtain rfl : m = 3 := by omega
                  have E5 := E.drop 2
                  simp at E5
                  go_wp2
                  go_roundw
                  case rel => exact ⟨z + 1, by omega, by omega, by go_num, E5⟩
                  case measure => simp [intOf]; omega
            · obtain rfl : z = 6 := by omega
              go_wp2_with fail
              refine (wakes07 _).mono ?_
              rintro e w9 ⟨rfl, B9⟩
              go_wp2
              go_ret
              exact ⟨rfl, (E.below B9).low⟩
end Go.Proofs.Ytbaklmlnfdlmmaa
end
