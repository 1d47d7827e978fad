/- The walk of law06.Some: some lines, whichever. -/
import Derived.Test.YtnpnndifhlihhaaSomeRaw
import Derived.Test.YtnpnndifhlihhaaFull
import Derived.Deep.RegionHeld3
import Derived.BigRegion
namespace Go.Proofs.Ytnpnndifhlihhaa
open Go.RowKit Go.Sl
set_option maxHeartbeats 1000000
set_option maxRecDepth 100000
/-- An owned slice, cut short. -/
theorem Ow.cut {α : Type} {k : Kd α} {h : Hp} {A : Option Addr} {cap : Nat} {xs : List α} (o : Ow k h A cap xs) {n : Nat} (hn : n ≤ xs.length) : Ow k h A n (xs.take n) := by
  have hle := o.le
  have hmx := o.max
  refine ⟨by rw [List.length_take]; omega, by omega, fun e => by have := o.nil e; omega, fun ad e => ?_⟩
  obtain ⟨b, off, cur, E, e1, e2, e3, e4⟩ := o.row ad e
  refine ⟨b, off, cur, E, e1, e2, ?_, fun i x hx => e4 i x ?_⟩
  · have : n * k.size ≤ cap * k.size := Nat.mul_le_mul_right _ (by omega)
    omega
  · rw [List.getElem?_take] at hx
    split at hx
    · exact hx
    · cases hx
set_option maxHeartbeats 4000000 in
theorem someRight_calls (A B : Option Addr) (ca cb : Nat) (ks ams : List Int) (at_ what : Int) (h k : Hp) (w : World) (hs : h.sub w) (qs : k.sub w) (sx : Sl kInt h A ca ks) (sy : Sl kInt k B cb ams)
    (hw : ∀ n ∈ ams, I64 n) :
    Calls Try.prog 23 #[.slice A ks.length ca, .slice B ams.length cb, .int .i64 at_, .int .i64 what, .bool false] w fun e w' => SomeLines w e w' := by
  obtain ⟨i0, hi, hz0, hz1, hz2⟩ := info_parts Try.infoLine
  by_cases hwh : 6 ≤ within what 12
  · refine (someKeep_calls A B ca cb ks ams at_ what h k w hs qs sx sy hw hwh).mono fun e w' => ?_
    rintro ⟨C, cap, h', h1, h2, h3⟩
    exact .mk _ C cap h' (by have := (right_fine ks ams).len; omega) h1 h2 h3
  have v1 := within_lo what (n := 12) (by omega)
  have CW := fun W : World => within_calls what 12 W (by omega) (by omega)
  generalize hv : within what 12 = v at CW
  have hv6 : v = 0 ∨ v = 1 ∨ v = 2 ∨ v = 3 ∨ v = 4 ∨ v = 5 := by omega
  have C10 := fun W : World => within_calls (wrap64 (what.tdiv 12)) 10 W (by omega) (by omega)
  have r1 := within_lo (wrap64 (what.tdiv 12)) (n := 10) (by omega)
  have r2 := within_hi (wrap64 (what.tdiv 12)) (n := 10) (by omega)
  generalize within (wrap64 (what.tdiv 12)) 10 = a at *
  clear hv hwh v1
  have R := playRight_calls A B ca cb ks ams h k w hs qs sx sy hw
  have hf := right_fine ks ams
  generalize rightL ks ams = L at *
  have hl := hf.len
  have hsm := Lib.hid hf.small
  clear hf hs qs sx sy hw
  go_enter Try.func23, Try.ntmps23
  go_wp2_with fail
  refine R.mono ?_
  rintro e w1 ⟨C, cap, h1, rfl, o1, u1⟩
  by_cases h0 : L.length = 0
  · have hz : ((L.length : Int) == 0) = true := by rw [h0]; rfl
    have hl44 : L.length ≤ 44 := by omega
    clear h0
    go_wp2
    go_ret
    exact .mk L C cap h1 hl44 rfl o1 u1
  · have hz : ((L.length : Int) == 0) = false := beq_eq_false_iff_ne.2 (by omega)
    have q1 := within_lo at_ (n := L.length) (by omega)
    have q2 := within_hi at_ (n := L.length) (by omega)
    have CK := fun W : World => within_calls at_ L.length W (by omega) (by omega)
    obtain ⟨m, hm⟩ := Int.eq_ofNat_of_zero_le q1
    rw [hm] at q1 q2 CK
    clear hm
    have hmt : m < L.length := by omega
    obtain ⟨x, hx⟩ := some_of_lt hmt
    obtain ⟨y, hy⟩ := some_of_lt (xs := L) (i := 0) (by omega)
    obtain ⟨b1, off1, hC, c1, c2⟩ := o1.sl.item u1.sub hx
    subst hC
    obtain ⟨b1', off1', hC, d1, d2⟩ := o1.sl.item u1.sub hy
    obtain ⟨rfl, rfl⟩ : b1 = b1' ∧ off1 = off1' := by cases hC; exact ⟨rfl, rfl⟩
    clear hC
    obtain ⟨x1, x2⟩ := hsm.out x (List.mem_of_getElem? hx.out)
    have hfz := o1.cell_free u1.sub
    have hle := o1.le
    have i2 : (0 : Int) < (L.length : Int) := by omega
    rcases hv6 with rfl | rfl | rfl | rfl | rfl | rfl
    · obtain ⟨h3, o3, u3⟩ := Ow.set (x' := ⟨x.kind, x.amt + 1⟩) (v := .int .i64 (x.amt + 1)) (j := 1) o1 u1.sub hx.out (by decide) rfl
      go_wp2_with fail
      refine (CK _).mono ?_
      rintro e w' ⟨rfl, rfl⟩
      go_wp2_with fail
      refine (CW _).mono ?_
      rintro e w' ⟨rfl, rfl⟩
      go_wp2
      go_ret
      exact .mk (L.set m ⟨x.kind, x.amt + 1⟩) _ _ h3 (by rw [List.length_set]; omega) (by rw [List.length_set]; rfl) o3 (u1.trans u3)
    · obtain ⟨h3, o3, u3⟩ := Ow.set (x' := ⟨a - 1, x.amt⟩) (v := .int .i64 (a - 1)) (j := 0) o1 u1.sub hx.out (by decide) rfl
      go_wp2_with fail
      refine (CK _).mono ?_
      rintro e w' ⟨rfl, rfl⟩
      go_wp2_with fail
      refine (CW _).mono ?_
      rintro e w' ⟨rfl, rfl⟩
      go_wp2_with fail
      refine (C10 _).mono ?_
      rintro e w' ⟨rfl, rfl⟩
      go_wp2
      go_ret
      exact .mk (L.set m ⟨a - 1, x.amt⟩) _ _ h3 (by rw [List.length_set]; omega) (by rw [List.length_set]; rfl) o3 (u1.trans u3)
    · go_wp2_with fail
      refine (CK _).mono ?_
      rintro e w' ⟨rfl, rfl⟩
      go_wp2_with fail
      refine (CW _).mono ?_
      rintro e w' ⟨rfl, rfl⟩
      go_wp2_with (at_builtin; refine wpList_append (k := kItem) (h := h1) (hx := Hp.none) (A := some ⟨b1, off1, none⟩) (cap := cap) (B := some ⟨w1.heap.size, 0, none⟩) (xs := L) (ys := [x]) (by rfl) (.tmp 83) (.tmp 88) 36 (by rfl) 39 i0 (.agg #[.int .i64 0, .int .i64 0]) Try.underlying36 hi hz0 hz1 (by rfl) 16 hz2 L.length 1 1 rfl rfl (by rfl) (by rfl) o1 (u1.sub.of_below (by repeat (first | exact Below.refl _ _ | apply Below.drew | refine Below.alloc ?_ (by simp) _))) (Src.new (heap_new_at (by simp)) rfl) (Hp.none_sub _) (Hp.apart_none _) (by unfold maxLen; omega) (by omega) ?_; intro C' cap' w3 h3 o3 u3)
      go_ret
      exact .mk (L ++ [x]) _ _ h3 (by simp; omega) (by rw [List.length_append]; rfl) o3 (u1.trans (u3.flat.before (by repeat (first | exact Below.refl _ _ | apply Below.drew | refine Below.alloc ?_ (by simp) _))))
    · have hcm := o1.max
      unfold maxLen at hcm
      have j1 : (0 : Int) ≤ (m : Int) := by omega
      have j2 : (m : Int) ≤ (cap : Int) := by omega
      have j3 : (m : Int) + 1 ≤ (L.length : Int) := by omega
      have j4 : (0 : Int) ≤ (m : Int) + 1 := by omega
      have j5 : (L.length : Int) ≤ (cap : Int) := by omega
      have hwp : IntKind.i64.wrap ((m : Int) + 1) = (m : Int) + 1 := by rw [IntKind.wrap_i64]; omega
      have HK : Hid ((L.take m).length = m) := by unfold Hid; rw [List.length_take]; omega
      have HD : Hid ((L.drop (m + 1)).length = L.length - (m + 1)) := by unfold Hid; rw [List.length_drop]
      have oc := Ow.cut o1 (show m ≤ L.length by omega)
      have sd := o1.sl.behind (m + 1)
      have hlen : m + (L.length - (m + 1)) ≤ 44 := by omega
      go_wp2_with fail
      refine (CK _).mono ?_
      rintro e w' ⟨rfl, rfl⟩
      go_wp2_with fail
      refine (CW _).mono ?_
      rintro e w' ⟨rfl, rfl⟩
      go_wp2
      go_region_held3 (fun w' => True) (first | go_keep | (go_split_ands; trivial)) (first | (refine step_append (k := kItem) (h := h1) (hx := Hp.none) (A := some ⟨b1, off1, none⟩) (cap := m) (B := if cap = m + 1 then some ⟨b1, off1, none⟩ else some ⟨b1, off1 + (m + 1) * 2, none⟩) (xs := L.take m) (ys := L.drop (m + 1)) (by rfl) (.tmp 95) (.tmp 99) 36 (by rfl) 39 i0 (.agg #[.int .i64 0, .int .i64 0]) Try.underlying36 hi hz0 hz1 (by rfl) 16 hz2 m (L.length - (m + 1)) (cap - (m + 1)) HK.out HD.out (by rfl) (by rfl) oc (u1.sub.of_below (by repeat (first | exact Below.refl _ _ | apply Below.drew | refine Below.alloc ?_ (by simp) _))) ((sd.src (u1.sub.of_below (by repeat (first | exact Below.refl _ _ | apply Below.drew | refine Below.alloc ?_ (by simp) _)))).flat kItem_flat _) (Hp.none_sub _) (Hp.apart_none _) (by unfold maxLen; omega) (by omega) ?_; intro C' cap' w3 h3 o3 u3))
      generalize (if cap = m + 1 then some (⟨b1, off1, none⟩ : Addr) else some ⟨b1, off1 + (m + 1) * 2, none⟩) = BB
      go_wp2
      go_ret
      exact .mk (L.take m ++ L.drop (m + 1)) _ _ h3 (by rw [List.length_append, HK.out, HD.out]; exact hlen) (by rw [List.length_append, HK.out, HD.out]; rfl) o3 (u1.trans (u3.flat.before (by repeat (first | exact Below.refl _ _ | apply Below.drew | refine Below.alloc ?_ (by simp) _))))
    · have j1 : (0 : Int) ≤ (m : Int) := by omega
      have p0 : 0 < L.length := by omega
      rw [Nat.zero_mul, Nat.add_zero] at d1 d2
      obtain ⟨g1, p1, t1⟩ := Ow.set (x' := ⟨x.kind, y.amt⟩) (v := .int .i64 x.kind) (j := 0) o1 u1.sub hy.out (by decide) rfl
      have hy1 : (L.set 0 ⟨x.kind, y.amt⟩)[0]? = some (⟨x.kind, y.amt⟩ : SItem) := List.getElem?_set_self p0
      obtain ⟨g2, p2, t2⟩ := Ow.set (x' := x) (v := .int .i64 x.amt) (j := 1) p1 t1.sub hy1 (by decide) rfl
      have hL2 : ((L.set 0 ⟨x.kind, y.amt⟩).set 0 x)[m]? = some x := by
        rw [List.set_set]
        by_cases hm : m = 0
        · subst hm; exact List.getElem?_set_self p0
        · rw [List.getElem?_set_ne (by omega)]; exact hx.out
      obtain ⟨bb, oo, hC, e1, e2⟩ := p2.sl.item t2.sub (Lib.hid hL2)
      obtain ⟨rfl, rfl⟩ : b1 = bb ∧ off1 = oo := by cases hC; exact ⟨rfl, rfl⟩
      clear hC
      have f2 := p2.cell_free t2.sub
      obtain ⟨g3, p3, t3⟩ := Ow.set (x' := ⟨y.kind, x.amt⟩) (v := .int .i64 y.kind) (j := 0) p2 t2.sub hL2 (by decide) rfl
      have hL3 : (((L.set 0 ⟨x.kind, y.amt⟩).set 0 x).set m ⟨y.kind, x.amt⟩)[m]? = some (⟨y.kind, x.amt⟩ : SItem) := List.getElem?_set_self (by simp; omega)
      obtain ⟨g4, p4, t4⟩ := Ow.set (x' := y) (v := .int .i64 y.amt) (j := 1) p3 t3.sub hL3 (by decide) rfl
      have T4 := ((t1.trans t2).trans t3).trans t4
      simp only [Nat.zero_mul, Nat.add_zero] at e1 e2 f2 T4
      clear t1 t2 t3 t4 p1 p2 p3
      go_wp2_with fail
      refine (CK _).mono ?_
      rintro e w' ⟨rfl, rfl⟩
      go_wp2_with fail
      refine (CW _).mono ?_
      rintro e w' ⟨rfl, rfl⟩
      go_wp2
      go_region
      go_wp2
      go_ret
      exact .mk _ _ _ g4 (by simp; omega) (by simp) p4 ((u1.trans T4).after ((Below.refl _ _).drew))
    · obtain ⟨h3, o3, u3⟩ := Ow.set (x' := ⟨x.kind, 0⟩) (v := .int .i64 0) (j := 1) o1 u1.sub hx.out (by decide) rfl
      go_wp2_with fail
      refine (CK _).mono ?_
      rintro e w' ⟨rfl, rfl⟩
      go_wp2_with fail
      refine (CW _).mono ?_
      rintro e w' ⟨rfl, rfl⟩
      go_wp2
      go_ret
      exact .mk (L.set m ⟨x.kind, 0⟩) _ _ h3 (by rw [List.length_set]; omega) (by rw [List.length_set]; rfl) o3 (u1.trans u3)
end Go.Proofs.Ytnpnndifhlihhaa
