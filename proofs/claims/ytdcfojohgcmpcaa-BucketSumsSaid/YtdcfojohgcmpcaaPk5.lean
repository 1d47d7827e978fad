/- Walks and plain facts that the laws of this seat share, part 5: contracts of functions, each said at its theorem. -/
import Derived.Test.YtdcfojohgcmpcaaPk4
import Derived.Deep.RegionHeld3
import Derived.WalkKit
import Derived.Laws.StructEq
set_option linter.all false
section
/- The walk of the reference's register: Reclass. -/
namespace Go.Proofs.Ytdcfojohgcmpcaa
open Go.RowKit Go.Sl
set_option maxHeartbeats 4000000
set_option maxRecDepth 100000
theorem reclE_arg' {l : List STri} {c y c2 y2 n : Int} (h : (bucketOk c y && (bucketOk c2 y2 && (money n && !decide (c = c2 ∧ y = y2)))) = false) : reclE l c y c2 y2 n = 1 := by unfold reclE; rw [if_pos h]
abbrev PtR (h : Hp) (b : Nat) (l : List STri) : Prop := Pt kReg 87 h b l
/-- What Reclass returns. -/
def ReclAns (b : Nat) (l : List STri) (c y c2 y2 n : Int) (h : Hp) (w : World) (e : Ending) (w' : World) : Prop :=
  ∃ h', e = .returned (.int .i64 (reclE l c y c2 y2 n)) ∧ PtR h' b (reclR l c y c2 y2 n) ∧ Upd h h' w w'
theorem ReclAns.no {b : Nat} {l : List STri} {c y c2 y2 n : Int} {h : Hp} {w w' : World} {E : Int} (hE : reclE l c y c2 y2 n = E) (h0 : E ≠ 0) (hp : PtR h b l) (hs : h.sub w) (hb : Below w.heap.size w w') :
    ReclAns b l c y c2 y2 n h w (.returned (.int .i64 E)) w' := ⟨h, by rw [hE], by unfold reclR; rw [hE, if_neg h0]; exact hp, Upd.stay hs hb⟩
theorem refRecl_calls (b : Nat) (l : List STri) (c y c2 y2 n : Int) (h : Hp) (w : World) (hs : h.sub w) (hp : PtR h b l) (g : GoodR l) :
    Calls Try.prog 45 #[.pointer (some ⟨b, 0, none⟩), .int .i64 c, .int .i64 y, .int .i64 c2, .int .i64 y2, .int .i64 n] w (ReclAns b l c y c2 y2 n h w) := by
  obtain ⟨A, ca, hc, sx⟩ := hp.reg hs
  have hlt := World.block_lt_of_cell? w _ hc
  have hlen := g.len
  have BC := fun W : World => refBucket_calls c y W
  have BC2 := fun W : World => refBucket_calls c2 y2 W
  have MC := fun W : World => refMoney_calls n W
  have NO : ∀ {q : Int} {W : World}, reclE l c y c2 y2 n = q → q ≠ 0 → Below w.heap.size w W → ReclAns b l c y c2 y2 n h w (.returned (.int .i64 q)) W := fun h1 h2 h3 => .no h1 h2 hp hs h3
  cases hb : bucketOk c y with
  | false =>
    have HE : Hid (reclE l c y c2 y2 n = 1) := reclE_arg' (by simp [hb])
    rw [hb] at BC
    clear hb MC BC2
    go_enter Try.func45, Try.ntmps45
    go_wp2_with (go_at_call 93; refine (BC _).mono ?_; rintro e w' ⟨rfl, rfl⟩)
    go_ret
    exact NO HE.out (by decide) (Below.refl _ _)
  | true =>
  rw [hb] at BC
  cases hb2 : bucketOk c2 y2 with
  | false =>
    have HE : Hid (reclE l c y c2 y2 n = 1) := reclE_arg' (by simp [hb2])
    rw [hb2] at BC2
    clear hb hb2 MC
    go_enter Try.func45, Try.ntmps45
    go_wp2_with fail
    refine (BC _).mono ?_
    rintro e w' ⟨rfl, rfl⟩
    go_wp2_with fail
    refine (BC2 _).mono ?_
    rintro e w' ⟨rfl, rfl⟩
    go_wp2
    go_ret
    exact NO HE.out (by decide) (Below.refl _ _)
  | true =>
  rw [hb2] at BC2
  cases hm : money n with
  | false =>
    have HE : Hid (reclE l c y c2 y2 n = 1) := reclE_arg' (by simp [hm])
    rw [hm] at MC
    clear hb hb2 hm
    go_enter Try.func45, Try.ntmps45
    go_wp2_with fail
    refine (BC _).mono ?_
    rintro e w' ⟨rfl, rfl⟩
    go_wp2_with fail
    refine (BC2 _).mono ?_
    rintro e w' ⟨rfl, rfl⟩
    go_wp2_with fail
    refine (MC _).mono ?_
    rintro e w' ⟨rfl, rfl⟩
    go_wp2
    go_ret
    exact NO HE.out (by decide) (Below.refl _ _)
  | true =>
  rw [hm] at MC
  by_cases he : c = c2 ∧ y = y2
  · have HE : Hid (reclE l c y c2 y2 n = 1) := reclE_arg' (by simp [he])
    have t1 : (c == c2) = true := by simpa using he.1
    have t2 : (y == y2) = true := by simpa using he.2
    clear hb hb2 hm he
    go_enter Try.func45, Try.ntmps45
    go_wp2_with fail
    refine (BC _).mono ?_
    rintro e w' ⟨rfl, rfl⟩
    go_wp2_with fail
    refine (BC2 _).mono ?_
    rintro e w' ⟨rfl, rfl⟩
    go_wp2_with fail
    refine (MC _).mono ?_
    rintro e w' ⟨rfl, rfl⟩
    go_wp2
    go_ret
    exact NO HE.out (by decide) (Below.refl _ _)
  have hm' : -100000000000 ≤ n ∧ n ≤ 100000000000 := by simpa [money] using hm
  have hg := g.get c y
  have hg2 := g.get c2 y2
  have GC := fun (W : World) (hW : Below w.heap.size w W) => refGet_calls b A ca l c y h W (hs.of_below hW) ((hW.cell (p := ⟨b, 0, none⟩) hlt).trans hc) sx
  have GC2 := fun (W : World) (hW : Below w.heap.size w W) => refGet_calls b A ca l c2 y2 h W (hs.of_below hW) ((hW.cell (p := ⟨b, 0, none⟩) hlt).trans hc) sx
  have CC := fun (W : World) (hW : Below w.heap.size w W) => refCopyReg_calls b l h W (hs.of_below hW) hp (by omega)
  have HM : Hid (reclE l c y c2 y2 n = if (money (getB l c y - n) && money (getB l c2 y2 + n)) = false then 6 else if 12 < (setB (setB l c y (getB l c y - n)) c2 y2 (getB l c2 y2 + n)).length then 5 else 0) := by
    unfold Hid reclE; rw [if_neg (by simp [hb, hb2, hm]; exact fun a => by simpa [a] using he)]
  have HR : Hid (reclE l c y c2 y2 n = 0 → reclR l c y c2 y2 n = setB (setB l c y (getB l c y - n)) c2 y2 (getB l c2 y2 + n)) := fun h => by unfold reclR; rw [if_pos h]
  have hrp := len_setB g.rise c y (getB l c y - n)
  have SC := fun (b' : Nat) (k : Hp) (W : World) (ks : k.sub W) (kp : PtR k b' l) => refSet_calls b' l c y (getB l c y - n) k W ks kp (by omega) g.rise
  have SC2 := fun (b' : Nat) (k : Hp) (W : World) (ks : k.sub W) (kp : PtR k b' (setB l c y (getB l c y - n))) => refSet_calls b' (setB l c y (getB l c y - n)) c2 y2 (getB l c2 y2 + n) k W ks kp (by omega) (rising_setB g.rise c y (getB l c y - n))
  have HT : Hid ((c == c2 && y == y2) = false) := by unfold Hid; simpa using he
  clear hb hb2 hm he hrp
  generalize getB l c y = v at *
  generalize getB l c2 y2 = v2 at *
  generalize setB (setB l c y (v - n)) c2 y2 (v2 + n) = L at *
  generalize setB l c y (v - n) = RM at *
  have M1 := fun W : World => refMoney_calls (v - n) W
  have M2 := fun W : World => refMoney_calls (v2 + n) W
  rcases (show ((c == c2) = false) ∨ ((c == c2) = true ∧ (y == y2) = false) by have := HT.out; cases h1 : (c == c2) <;> simp_all) with t1 | ⟨t1, t2⟩
  all_goals
    go_enter Try.func45, Try.ntmps45
    go_wp2_with fail
    refine (BC _).mono ?_
    rintro e w' ⟨rfl, rfl⟩
    go_wp2_with fail
    refine (BC2 _).mono ?_
    rintro e w' ⟨rfl, rfl⟩
    go_wp2_with fail
    refine (MC _).mono ?_
    rintro e w' ⟨rfl, rfl⟩
    go_wp2_with fail
    refine (GC _ (Below.refl _ _)).mono ?_
    rintro e w1 ⟨rfl, b1⟩
    cases h1 : money (v - n) with
    | false =>
      have HE : Hid (reclE l c y c2 y2 n = 6) := by unfold Hid; rw [HM.out, h1]; rfl
      rw [h1] at M1
      clear h1
      go_wp2_with fail
      refine (M1 _).mono ?_
      rintro e w' ⟨rfl, rfl⟩
      go_wp2
      go_ret
      exact NO HE.out (by decide) b1
    | true =>
    have HM1 : Hid (reclE l c y c2 y2 n = if money (v2 + n) = false then 6 else if 12 < L.length then 5 else 0) := by unfold Hid; rw [HM.out, h1]; rfl
    rw [h1] at M1
    clear h1
    go_wp2_with fail
    refine (M1 _).mono ?_
    rintro e w' ⟨rfl, rfl⟩
    go_wp2_with fail
    refine (GC2 _ b1).mono ?_
    rintro e w2 ⟨rfl, b2⟩
    have b12 := b1.trans (b2.mono b1.size)
    cases h2 : money (v2 + n) with
    | false =>
      have HE : Hid (reclE l c y c2 y2 n = 6) := by unfold Hid; rw [HM1.out, h2]; rfl
      rw [h2] at M2
      clear h2
      go_wp2_with fail
      refine (M2 _).mono ?_
      rintro e w' ⟨rfl, rfl⟩
      go_wp2
      go_ret
      exact NO HE.out (by decide) b12
    | true =>
    have HM2 : Hid (reclE l c y c2 y2 n = if 12 < L.length then 5 else 0) := by unfold Hid; rw [HM1.out, h2]; rfl
    rw [h2] at M2
    clear h2
    go_wp2_with fail
    refine (M2 _).mono ?_
    rintro e w' ⟨rfl, rfl⟩
    go_wp2_with fail
    refine (CC _ b12).mono ?_
    rintro e w3 ⟨h3, b3, rfl, p3, u3⟩
    have b13 := b12.trans (u3.below.mono b12.size)
    go_wp2_with fail
    refine (GC _ b13).mono ?_
    rintro e w4 ⟨rfl, b4⟩
    have u4 := u3.after b4
    have b14 := b13.trans (b4.mono b13.size)
    go_wp2_with fail
    refine (SC b3 h3 w4 u4.sub p3).mono ?_
    rintro e w5 ⟨h5, rfl, p5, u5⟩
    have u5' := u4.trans u5
    have b15 := b12.trans (u5'.below.mono b12.size)
    go_wp2_with fail
    refine (GC2 _ b15).mono ?_
    rintro e w6 ⟨rfl, b6⟩
    have u6 := u5'.after b6
    go_wp2_with fail
    refine (SC2 b3 h5 w6 u6.sub p5).mono ?_
    rintro e w7 ⟨h7, rfl, ⟨cs7, k7, A7, c7, rfl, o7⟩, u7⟩
    have u37 : Upd Hp.none h7 w w7 := (u6.trans u7).before b12
    have k7w := u37.sub _ _ k7
    have g7 : w7.cell? ⟨b3, 0, none⟩ = some (.slice A7 L.length c7) := by rw [cell_of_row w7 b3 0 _ _ _ k7w]; rfl
    clear k7w
    have m7 := o7.small
    by_cases h12 : 12 < L.length
    · have HE : Hid (reclE l c y c2 y2 n = 5) := by unfold Hid; rw [HM2.out, if_pos h12]
      have h12b : decide ((12 : Int) < (L.length : Int)) = true := by simp; omega
      clear h12 HR HM2
      go_wp2
      go_ret
      exact NO HE.out (by decide) u37.below
    · have HE : Hid (reclE l c y c2 y2 n = 0) := by unfold Hid; rw [HM2.out, if_neg h12]
      have h12b : decide ((12 : Int) < (L.length : Int)) = false := by simp; omega
      have HL := Lib.hid (HR.out HE.out)
      have gb : w7.cell? ⟨b, 0, none⟩ = some (.slice A l.length ca) := (u37.below.cell (p := ⟨b, 0, none⟩) hlt).trans hc
      obtain ⟨cs0, hb0, A0, ca0, rfl, ow0⟩ := hp
      have gf : w7.frozen? ⟨b, 0, none⟩ = false := (u37.below.frozen (p := ⟨b, 0, none⟩) hlt).trans (frozen_of_row w b 0 _ _ (hs b _ hb0))
      clear h12 HR HM2
      go_wp2
      obtain ⟨UF, hn3⟩ := Upd.field (v := .slice A7 L.length c7) 0 hb0 hs (Hp.none_le _) (u37.weaken (Hp.del_le h7 b3))
      go_ret
      exact ⟨_, by rw [HE.out]; rfl, ⟨_, Hp.put_self, A7, c7, by rw [HL.out]; rfl, by rw [Hp.put_del hn3, HL.out]; exact o7⟩, UF⟩
end Go.Proofs.Ytdcfojohgcmpcaa
end
section
/- The reference's register in a body's own memory. -/
namespace Go.Proofs.Ytdcfojohgcmpcaa
open Go.RowKit Go.Sl
set_option maxHeartbeats 1000000
set_option maxRecDepth 100000
structure Rgr (h : Hp) (b : Nat) (l : List STri) : Prop where
  pt : PtR h b l
  good : GoodR l
section
variable {w0 w : World} {L : List Hp} {h : Hp} {b : Nat} {l : List STri}
theorem Rgr.total (S : Rgr h b l) (E : Env w0 w L) (i : Nat) (hi : L[i]? = some h) {q : Int} (hq : sumC l = q) :
    Calls Try.prog 46 #[.pointer (some ⟨b, 0, none⟩)] w fun e w' => e = .returned (.int .i64 q) ∧ Env w0 w' L := by
  subst hq
  obtain ⟨A, ca, hc, sx⟩ := S.pt.reg (E.sub i hi)
  exact (refTotal_calls b A ca l h w (E.sub i hi) hc sx (by have := S.good.len; omega) (mem_len S.good.mon)).mono fun _ _ ⟨he, b⟩ => ⟨he, E.below b⟩
theorem Rgr.get (S : Rgr h b l) (E : Env w0 w L) (i : Nat) (hi : L[i]? = some h) (c y : Int) {q : Int} (hq : getB l c y = q) :
    Calls Try.prog 47 #[.pointer (some ⟨b, 0, none⟩), .int .i64 c, .int .i64 y] w fun e w' => e = .returned (.int .i64 q) ∧ Env w0 w' L := by
  subst hq
  obtain ⟨A, ca, hc, sx⟩ := S.pt.reg (E.sub i hi)
  exact (refGet_calls b A ca l c y h w (E.sub i hi) hc sx).mono fun _ _ ⟨he, b⟩ => ⟨he, E.below b⟩
theorem Rgr.move (S : Rgr h b l) (E : Env w0 w L) (i : Nat) (hi : L[i]? = some h) (c y n : Int) :
    Calls Try.prog 44 #[.pointer (some ⟨b, 0, none⟩), .int .i64 c, .int .i64 y, .int .i64 n] w fun e w' => ∃ h', e = .returned (.int .i64 (moveE l c y n)) ∧ Rgr h' b (moveR l c y n) ∧ Env w0 w' (L.set i h') :=
  (refMove_calls b l c y n h w (E.sub i hi) S.pt S.good).mono fun _ _ ⟨h', he, hp, u⟩ => ⟨h', he, ⟨hp, S.good.move c y n⟩, E.upd i hi u⟩
theorem _root_.Go.Sl.GoodR.recl {l : List STri} (g : GoodR l) (c y c2 y2 n : Int) : GoodR (reclR l c y c2 y2 n) := by
  unfold reclR
  split
  · rename_i h
    obtain ⟨h1, h2, _, _, h5, h6, h7⟩ := reclE_ok h
    refine ⟨rising_setB (rising_setB g.rise _ _ _) _ _ _, fun x hx => ?_, fun x hx => ?_, fun x hx => ?_, h7⟩
    all_goals
      rcases mem_setB.1 hx with ⟨h0, rfl⟩ | ⟨hx, _⟩
      · first | exact h0 | exact h6 | exact h2
      · rcases mem_setB.1 hx with ⟨h0, rfl⟩ | ⟨hx, _⟩
        · first | exact h0 | exact h5 | exact h1
        · first | exact g.nz x hx | exact g.mon x hx | exact g.rng x hx
  · exact g
theorem Rgr.recl (S : Rgr h b l) (E : Env w0 w L) (i : Nat) (hi : L[i]? = some h) (c y c2 y2 n : Int) :
    Calls Try.prog 45 #[.pointer (some ⟨b, 0, none⟩), .int .i64 c, .int .i64 y, .int .i64 c2, .int .i64 y2, .int .i64 n] w fun e w' => ∃ h', e = .returned (.int .i64 (reclE l c y c2 y2 n)) ∧ Rgr h' b (reclR l c y c2 y2 n) ∧ Env w0 w' (L.set i h') :=
  (refRecl_calls b l c y c2 y2 n h w (E.sub i hi) S.pt S.good).mono fun _ _ ⟨h', he, hp, u⟩ => ⟨h', he, ⟨hp, S.good.recl c y c2 y2 n⟩, E.upd i hi u⟩
end
end Go.Proofs.Ytdcfojohgcmpcaa
end
section
/- Registers that are moved in one order and in the other, plain. No program is named here. -/
namespace Go.Sl
open Go Go.RowKit
/-- Two registers that have the same in each bucket are one. -/
theorem GoodR.ext {l m : List STri} (g : GoodR l) (g' : GoodR m) (h : ∀ c y, getB l c y = getB m c y) : l = m := by
  have key : ∀ {l m : List STri}, GoodR l → GoodR m → (∀ c y, getB l c y = getB m c y) → ∀ x, x ∈ l → x ∈ m := by
    intro l m g g' h x hx
    have h1 := find_mem (o := ordPair) (key := rkey) g.rise hx
    have h2 := h x.a x.b
    have e : getB l x.a x.b = x.c := by unfold getB; rw [show ((x.a, x.b) : Int × Int) = rkey x from rfl, h1]
    rw [e] at h2
    have hz := g.nz x hx
    unfold getB at h2
    cases hf : find rkey (x.a, x.b) m with
    | none => rw [hf] at h2; exact absurd h2 hz
    | some y =>
      rw [hf] at h2
      obtain ⟨hm, hk⟩ := find_some hf
      have : y = x := by
        cases x; cases y; simp [rkey] at hk h2; simp [hk, h2]
      rw [← this]; exact hm
  exact Rising.ext ordPair rkey g.rise g'.rise fun x => ⟨key g g' h x, key g' g (fun c y => (h c y).symm) x⟩
namespace BW
def cl (x : Nat → Int) : Int := 1 + within (x 1) 3
def yr (x : Nat → Int) : Int := within (x 2) 4
def am (x : Nat → Int) : Int := within (x 5) 1000 - 500
def step (l : List STri) (x : Nat → Int) : List STri := moveR l (cl x) (yr x) (am x)
def F (zs : List (Nat → Int)) : List STri := zs.foldl step []
structure Inv (l : List STri) (k : Nat) : Prop where
  good : GoodR l
  len : l.length ≤ k
  slo : -(500 * k : Int) ≤ sumC l
  shi : sumC l ≤ 500 * k
  glo : ∀ c y, -(500 * k : Int) ≤ getB l c y
  ghi : ∀ c y, getB l c y ≤ 500 * k
theorem bd (x : Nat → Int) : 1 ≤ cl x ∧ cl x ≤ 3 ∧ 0 ≤ yr x ∧ yr x ≤ 3 ∧ -500 ≤ am x ∧ am x ≤ 499 := by
  have h1 := within_lo (x 1) (n := 3) (by omega)
  have h2 := within_hi (x 1) (n := 3) (by omega)
  have h3 := within_lo (x 2) (n := 4) (by omega)
  have h4 := within_hi (x 2) (n := 4) (by omega)
  have h5 := within_lo (x 5) (n := 1000) (by omega)
  have h6 := within_hi (x 5) (n := 1000) (by omega)
  unfold cl yr am
  omega
theorem Inv.ok {l : List STri} {k : Nat} (v : Inv l k) (hk : k < 10) (x : Nat → Int) : moveE l (cl x) (yr x) (am x) = 0 := by
  obtain ⟨b1, b2, b3, b4, b5, b6⟩ := bd x
  have g1 := v.glo (cl x) (yr x)
  have g2 := v.ghi (cl x) (yr x)
  have s1 := v.slo
  have s2 := v.shi
  have hl := len_setB v.good.rise (cl x) (yr x) (getB l (cl x) (yr x) + am x)
  have hl2 := v.len
  unfold moveE
  rw [if_neg (by simp [bucketOk, money]; omega), if_neg (by simp [money]; omega), if_neg (by omega)]
theorem Inv.get {l : List STri} {k : Nat} (v : Inv l k) (hk : k < 10) (x : Nat → Int) (c y : Int) : getB (step l x) c y = getB l c y + (if cl x = c ∧ yr x = y then am x else 0) := by
  unfold step moveR
  rw [if_pos (v.ok hk x), getB_setB v.good.rise]
  by_cases h : c = cl x ∧ y = yr x
  · rw [if_pos h, if_pos ⟨h.1.symm, h.2.symm⟩, h.1, h.2]
  · rw [if_neg h, if_neg fun e => h ⟨e.1.symm, e.2.symm⟩]; omega
theorem Inv.step {l : List STri} {k : Nat} (v : Inv l k) (hk : k < 10) (x : Nat → Int) : Inv (step l x) (k + 1) := by
  obtain ⟨b1, b2, b3, b4, b5, b6⟩ := bd x
  have hm : BW.step l x = setB l (cl x) (yr x) (getB l (cl x) (yr x) + am x) := by unfold BW.step moveR; rw [if_pos (v.ok hk x)]
  have hs := sumC_setB v.good.rise (cl x) (yr x) (getB l (cl x) (yr x) + am x)
  have hl := len_setB v.good.rise (cl x) (yr x) (getB l (cl x) (yr x) + am x)
  have hg := v.get hk x
  refine ⟨v.good.move _ _ _, ?_, ?_, ?_, fun c y => ?_, fun c y => ?_⟩
  · rw [hm]; have := v.len; omega
  · rw [hm, hs]; have := v.slo; omega
  · rw [hm, hs]; have := v.shi; omega
  · rw [hg]; have := v.glo c y; split <;> omega
  · rw [hg]; have := v.ghi c y; split <;> omega
theorem Inv.fold : ∀ (zs : List (Nat → Int)) {l : List STri} {k : Nat}, Inv l k → k + zs.length ≤ 10 → Inv (zs.foldl BW.step l) (k + zs.length) ∧ ∀ c y, getB (zs.foldl BW.step l) c y = getB l c y + (zs.map fun x => if cl x = c ∧ yr x = y then am x else 0).sum
  | [], l, k, v, _ => ⟨v, fun c y => by simp⟩
  | x :: zs, l, k, v, h => by
    simp only [List.length_cons] at h
    obtain ⟨i1, i2⟩ := Inv.fold zs (v.step (by omega) x) (by omega)
    refine ⟨by simp only [List.foldl_cons, List.length_cons]; rwa [show k + (zs.length + 1) = k + 1 + zs.length by omega], fun c y => ?_⟩
    simp only [List.foldl_cons, List.map_cons, List.sum_cons]
    rw [i2, v.get (by omega)]; omega
theorem Inv.nil : Inv [] 0 := ⟨.nil, by simp, by simp [sumC], by simp [sumC], fun c y => by simp [getB, find], fun c y => by simp [getB, find]⟩
theorem inv (zs : List (Nat → Int)) (h : zs.length ≤ 10) : Inv (F zs) zs.length := by
  have := (Inv.fold zs Inv.nil (by omega)).1
  rwa [Nat.zero_add] at this
/-- The order does not count. -/
theorem F_rev (zs : List (Nat → Int)) (h : zs.length ≤ 10) : F zs.reverse = F zs := by
  have a := Inv.fold zs Inv.nil (by omega)
  have b := Inv.fold zs.reverse Inv.nil (by simp; omega)
  refine GoodR.ext b.1.good a.1.good fun c y => ?_
  unfold F
  rw [a.2, b.2, List.map_reverse, sum_perm (List.reverse_perm _)]
theorem F_take {zs : List (Nat → Int)} {j : Nat} {x : Nat → Int} (hx : Hid (zs[j]? = some x)) : F (zs.take (j + 1)) = step (F (zs.take j)) x := by
  unfold F; rw [take_next hx, List.foldl_append]; rfl
theorem ok {zs : List (Nat → Int)} (h : zs.length ≤ 10) {j : Nat} (hj : j < zs.length) (x : Nat → Int) : moveE (F (zs.take j)) (cl x) (yr x) (am x) = 0 := by
  have hl : (zs.take j).length = j := by rw [List.length_take]; omega
  have := (inv (zs.take j) (by omega)).ok (by omega) x
  exact this
end BW
end Go.Sl
end
section
/- The walk of play.Register. -/
namespace Go.Sl
open Go Go.RowKit
theorem tdiv_bd {z k : Int} (hk : 0 < k) (hz : -9223372036854775808 ≤ z ∧ z ≤ 9223372036854775807) : -9223372036854775808 ≤ z.tdiv k ∧ z.tdiv k ≤ 9223372036854775807 := by
  have key : ∀ m : Int, 0 ≤ m → 0 ≤ m.tdiv k ∧ m.tdiv k ≤ m := fun m hm => by
    rw [Int.tdiv_eq_ediv_of_nonneg hm]
    exact ⟨Int.ediv_nonneg hm (by omega), Int.ediv_le_self _ hm⟩
  rcases Int.le_total 0 z with h | h
  · have := key z h; omega
  · have h2 := key (-z) (by omega)
    rw [Int.neg_tdiv] at h2; omega
theorem regOf_step {zs : List Int} {j : Nat} {z : Int} (hz : Hid (zs[j]? = some z)) : (zs.take (j + 1)).foldl regStep [] = regStep ((zs.take j).foldl regStep []) z := by
  rw [take_next hz, List.foldl_append]; rfl
end Go.Sl
namespace Go.Proofs.Ytdcfojohgcmpcaa
open Go.RowKit Go.Sl
set_option maxHeartbeats 2000000
set_option maxRecDepth 100000
theorem playRegister_calls (A : Option Addr) (ca : Nat) (zs : List Int) (h : Hp) (w : World) (hs : h.sub w) (sx : Sl kInt h A ca zs) (hz : ∀ n ∈ zs, I64 n) :
    Calls Try.prog 49 #[.slice A zs.length ca] w fun e w' => ∃ h' b, e = .returned (.pointer (some ⟨b, 0, none⟩)) ∧ Pt kReg 87 h' b (regOf zs) ∧ Upd Hp.none h' w w' := by
  have m1 := sx.small
  have HZ := Lib.hid hz
  clear hz
  go_enter Try.func49, Try.ntmps49
  go_wp2
  go_loopw [4] (fun i wr => ∃ (j : Nat) (h' : Hp), j ≤ zs.length ∧ j ≤ 10 ∧ i = .int .i64 j ∧ Pt kReg 87 h' w.heap.size ((zs.take j).foldl regStep []) ∧ Upd Hp.none h' w wr) (fun i _ => 10 - (intOf i).toNat)
  case atStart => exact ⟨0, _, by omega, by omega, rfl, ⟨_, Hp.one_self _ _, none, 0, rfl, Ow.none _ _⟩, Upd.newBlock w _⟩
  case round =>
    obtain ⟨j, h', hj, hj2, rfl, hp, hu⟩ := hrel
    by_cases hlt : j < zs.length
    · by_cases hlt2 : j < 10
      · obtain ⟨z, hzz⟩ := some_of_lt hlt
        obtain ⟨b1, o1, rfl, c1⟩ := sx.int (hs.of_below hu.below) hzz
        obtain ⟨b1', o1', e', c0⟩ := sx.int hs hzz
        cases e'
        have hb1 : b1 < w.heap.size := World.block_lt_of_cell? w _ c0
        have hn : Hid (h' b1 = none) := hu.new_none hb1
        clear c0
        obtain ⟨z1, z2⟩ := HZ.out z (List.mem_of_getElem? hzz.out)
        have i1 : (0 : Int) ≤ (j : Int) := by omega
        have i2 : (j : Int) < (zs.length : Int) := by omega
        have a1 : -9223372036854775808 ≤ z.tdiv 3 ∧ z.tdiv 3 ≤ 9223372036854775807 := tdiv_bd (by omega) ⟨z1, z2⟩
        have a2 : -9223372036854775808 ≤ z.tdiv 15 ∧ z.tdiv 15 ≤ 9223372036854775807 := tdiv_bd (by omega) ⟨z1, z2⟩
        have w1 := within_lo z (n := 3) (by omega)
        have w2 := within_hi z (n := 3) (by omega)
        have hw1 : IntKind.i64.wrap (1 + within z 3) = 1 + within z 3 := by rw [IntKind.wrap_i64]; omega
        have hq3 : IntKind.i64.wrap (z.tdiv 3) = z.tdiv 3 := by rw [IntKind.wrap_i64]; omega
        have hq15 : IntKind.i64.wrap (z.tdiv 15) = z.tdiv 15 := by rw [IntKind.wrap_i64]; omega
        have HT := Lib.hid (regOf_step hzz)
        have hgood := GoodR.foldl (zs.take j) [] .nil
        generalize (zs.take j).foldl regStep [] = l at *
        have MV := fun (W : World) (hW : Below wr.heap.size wr W) => refMove_calls w.heap.size l (1 + within z 3) (within (z.tdiv 3) 5) (amount (z.tdiv 15)) h' W (hu.sub.of_below hW) hp hgood
        go_wp2
        go_region_held3 (fun w' => w'.cell? ⟨b1, o1 + j, none⟩ = some (.int .i64 z))
          (first | go_keep | (exact hkeep))
          (first
            | (go_at_call 15; ((with_reducible refine (within_calls _ _ _ (by omega) (by omega)).mono ?_)); rintro e w' ⟨rfl, rfl⟩)
            | (go_at_call 30; ((with_reducible refine (amount_calls _ a2 _).mono ?_)); rintro e w' ⟨rfl, rfl⟩)
            | (go_at_call 44; ((with_reducible refine (MV _ (by repeat (first | exact Below.refl _ _ | apply Below.drew | refine Below.alloc ?_ (by simp) _))).mono ?_)); rintro e w5 ⟨h5, rfl, p5, u5⟩; have hkeep : w5.cell? ⟨b1, o1 + j, none⟩ = some (.int .i64 z) := u5.cell (by simpa using c1) hn.out))
        go_wp2
        go_roundw
        case rel => exact ⟨j + 1, h5, by omega, by omega, by go_num, by rw [HT.out]; exact p5, hu.trans (u5.before (by repeat (first | exact Below.refl _ _ | apply Below.drew | refine Below.alloc ?_ (by simp) _)))⟩
        case measure => simp [intOf]; omega
      · have HF : Hid (regOf zs = (zs.take j).foldl regStep []) := by unfold Hid regOf; rw [show j = 10 by omega]
        go_wp2
        go_ret
        exact ⟨h', _, rfl, by rw [HF.out]; exact hp, hu⟩
    · have HF : Hid (regOf zs = (zs.take j).foldl regStep []) := by unfold Hid regOf; rw [List.take_of_length_le (l := zs) (i := 10) (by omega), List.take_of_length_le (l := zs) (i := j) (by omega)]
      go_wp2
      go_ret
      exact ⟨h', _, rfl, by rw [HF.out]; exact hp, hu⟩
end Go.Proofs.Ytdcfojohgcmpcaa
end
section
/- '==' and '!=' of structs as one Bool. No program is named here. -/
namespace Go.Sl
open Go Go.RowKit
section
variable {P : Program} {d : Nat} {xs ys : Array Value} {f : Field} {fs : List Field} {a b : Value} {r s : Bool} {w : World}

theorem eqFields_nil : (Op.eqFields d xs ys []).run P w = .ok true w := by simp [Op.eqFields]
theorem eqFields_cons (hn : (f.name == "_") = false) (ha : (Go.part f.type xs f.offset).run P w = .ok a w) (hb : (Go.part f.type ys f.offset).run P w = .ok b w)
    (he : (Op.equalIn d f.type a b).run P w = .ok r w) (hr : (Op.eqFields d xs ys fs).run P w = .ok s w) : (Op.eqFields d xs ys (f :: fs)).run P w = .ok (r && s) w := by
  have hn' : f.name ≠ "_" := by simpa using hn
  rw [Op.eqFields]
  simp only [if_pos hn', Sem.run_bind, ha, hb, he, Result.andThen_ok]
  cases r
  · simp
  · simpa using hr
theorem equalIn_struct {t : TypeId} {fs : Array Field} (hu : P.underlying t = some (.struct fs)) (hp : P.stoodInHeld t = false)
    (h : (Op.eqFields d xs ys fs.toList).run P w = .ok r w) : (Op.equalIn (d + 1) t (.agg xs) (.agg ys)).run P w = .ok r w := by
  have hf : P.fieldsOf t = fs := by simp [Program.fieldsOf, hu]
  rw [run_equalIn_struct (P := P) w d t xs ys (by rw [hf]; exact hu) hp, hf]
  exact h
theorem neq_struct {t : TypeId} (h : (Op.equalIn 10000 t (.agg xs) (.agg ys)).run P w = .ok r w) : (binOp .neq t (.agg xs) (.agg ys)).run P w = .ok (.bool (!r)) w := by
  rw [run_neq_struct, h]; rfl
theorem eql_struct {t : TypeId} (h : (Op.equalIn 10000 t (.agg xs) (.agg ys)).run P w = .ok r w) : (binOp .eql t (.agg xs) (.agg ys)).run P w = .ok (.bool r) w := by
  rw [run_eql_struct, h]; rfl
end
end Go.Sl
end
section
/- '==' and '!=' of api.Bucket. -/
namespace Go.Proofs.Ytdcfojohgcmpcaa
open Go.RowKit Go.Sl
set_option maxHeartbeats 1000000
set_option maxRecDepth 100000
theorem equalIn_bucket (d : Nat) (x0 y0 : Int) (x1 y1 : Int) (x2 y2 : Int) (w : World) : (Op.equalIn (d + 2) 81 (.agg #[.int .i64 x0, .int .i64 x1, .int .i64 x2]) (.agg #[.int .i64 y0, .int .i64 y1, .int .i64 y2])).run Try.prog w = .ok (x0 == y0 && (x1 == y1 && (x2 == y2 && (true)))) w := by
  refine equalIn_struct (d := d + 1) Try.underlying81 (by kernel_rfl) ?_
  refine eqFields_cons (by rfl) (by go_simp; rfl) (by go_simp; rfl) (by go_simp) ?_
  refine eqFields_cons (by rfl) (by go_simp; rfl) (by go_simp; rfl) (by go_simp) ?_
  refine eqFields_cons (by rfl) (by go_simp; rfl) (by go_simp; rfl) (by go_simp) ?_
  exact eqFields_nil
theorem eqc_bucket (x y : STri) : (x.a == y.a && (x.b == y.b && (x.c == y.c && (true)))) = decide (x = y) := by
  rw [Bool.eq_iff_iff]; cases x; cases y; simp
theorem ne_bucket (x y : STri) (w : World) : (binOp .neq 81 (.agg #[.int .i64 x.a, .int .i64 x.b, .int .i64 x.c]) (.agg #[.int .i64 y.a, .int .i64 y.b, .int .i64 y.c])).run Try.prog w = .ok (.bool (neB x y)) w := by
  have h := equalIn_bucket 9998 x.a y.a x.b y.b x.c y.c w
  simp only [Nat.reduceAdd] at h
  rw [neq_struct h, eqc_bucket]; rfl
theorem eq_bucket (x y : STri) (w : World) : (binOp .eql 81 (.agg #[.int .i64 x.a, .int .i64 x.b, .int .i64 x.c]) (.agg #[.int .i64 y.a, .int .i64 y.b, .int .i64 y.c])).run Try.prog w = .ok (.bool (eqB x y)) w := by
  have h := equalIn_bucket 9998 x.a y.a x.b y.b x.c y.c w
  simp only [Nat.reduceAdd] at h
  rw [eql_struct h, eqc_bucket]; rfl
end Go.Proofs.Ytdcfojohgcmpcaa
end
section
/- keep.Same over api.Bucket: the same things? -/
namespace Go.Proofs.Ytdcfojohgcmpcaa
open Go.RowKit Go.Sl
set_option maxHeartbeats 1000000
set_option maxRecDepth 100000
theorem same_bucket (A B : Option Addr) (ca cb : Nat) (xs ys : List STri) (h k : Hp) (w : World) (hs : h.sub w) (ks : k.sub w) (sx : Sl kTri h A ca xs) (sy : Sl kTri k B cb ys) :
    Calls Try.prog 38 #[.slice A xs.length ca, .slice B ys.length cb] w fun e w' => e = .returned (.bool (eqB xs ys)) ∧ Below w.heap.size w w' := by
  have m1 := sx.small
  have m2 := sy.small
  by_cases hl : xs.length = ys.length
  · have hl1 : ((xs.length : Int) == (ys.length : Int)) = true := by simp [hl]
    have hl2 : ((xs.length : Int) != (ys.length : Int)) = false := by simp [hl]
    have hL := Lib.hid hl
    clear hl
    go_enter Try.func38, Try.ntmps38
    go_wp2
    clear hl1 hl2
    go_loopw [5] (fun i wr => ∃ j : Nat, j ≤ xs.length ∧ i = .int .i64 j ∧ Hid (xs.take j = ys.take j) ∧ Below w.heap.size w wr) (fun i _ => xs.length - (intOf i).toNat)
    case atStart => exact ⟨0, by omega, rfl, rfl, Below.refl _ _⟩
    case round =>
      obtain ⟨j, hj, rfl, he, hb⟩ := hrel
      by_cases hlt : j < xs.length
      · have hlt2 : j < ys.length := by have := hL.out; omega
        obtain ⟨x, hx⟩ := some_of_lt hlt
        obtain ⟨y, hy⟩ := some_of_lt hlt2
        obtain ⟨b1, o1, rfl, c1, c2, c3⟩ := sx.tri (hs.of_below hb) hx
        obtain ⟨b2, o2, rfl, d1, d2, d3⟩ := sy.tri (ks.of_below hb) hy
        have hn := ne_bucket x y
        have i1 : (0 : Int) ≤ (j : Int) := by omega
        have i2 : (j : Int) < (xs.length : Int) := by omega
        have i3 : (j : Int) < (ys.length : Int) := by omega
        have hE := take_both hx hy
        by_cases hxy : x = y
        · have hd := neB_f hxy
          have hE2 := hE.2 ⟨he, hxy⟩
          clear hxy hE
          go_wp2
          go_region_held3 (fun w' => w'.cell? ⟨b1, o1 + j * 3, none⟩ = some (.int .i64 x.a) ∧ w'.cell? ⟨b1, o1 + j * 3 + 1, none⟩ = some (.int .i64 x.b) ∧ w'.cell? ⟨b1, o1 + j * 3 + 2, none⟩ = some (.int .i64 x.c) ∧ w'.cell? ⟨b2, o2 + j * 3, none⟩ = some (.int .i64 y.a) ∧ w'.cell? ⟨b2, o2 + j * 3 + 1, none⟩ = some (.int .i64 y.b) ∧ w'.cell? ⟨b2, o2 + j * 3 + 2, none⟩ = some (.int .i64 y.c)) (go_keep) (fail)
          go_wp2
          go_roundw
          case rel => exact ⟨j + 1, by omega, by go_num, hE2, hb.drew⟩
          case measure => simp [intOf]; omega
        · have hd := neB_t hxy
          have hne : Hid (xs ≠ ys) := fun e => hxy (by have := hx.out; rw [e, hy.out] at this; exact (Option.some.inj this).symm)
          clear hxy hE
          go_wp2
          go_region_held3 (fun w' => w'.cell? ⟨b1, o1 + j * 3, none⟩ = some (.int .i64 x.a) ∧ w'.cell? ⟨b1, o1 + j * 3 + 1, none⟩ = some (.int .i64 x.b) ∧ w'.cell? ⟨b1, o1 + j * 3 + 2, none⟩ = some (.int .i64 x.c) ∧ w'.cell? ⟨b2, o2 + j * 3, none⟩ = some (.int .i64 y.a) ∧ w'.cell? ⟨b2, o2 + j * 3 + 1, none⟩ = some (.int .i64 y.b) ∧ w'.cell? ⟨b2, o2 + j * 3 + 2, none⟩ = some (.int .i64 y.c)) (go_keep) (fail)
          go_wp2
          go_ret
          exact ⟨by rw [eqB_f hne.out]; rfl, hb.drew⟩
      · have hfin : Hid (xs = ys) := by
          have h1 := he.out
          have hjl : j = xs.length := by omega
          rw [hjl, List.take_length] at h1
          rw [h1, hL.out, List.take_length]; rfl
        go_wp2
        go_ret
        exact ⟨by rw [eqB_t hfin.out]; rfl, hb⟩
  · have hl1 : ((xs.length : Int) == (ys.length : Int)) = false := by simp; omega
    have hl2 : ((xs.length : Int) != (ys.length : Int)) = true := by simp; omega
    have hne : Hid (xs ≠ ys) := fun e => hl (by rw [e])
    clear hl
    go_enter Try.func38, Try.ntmps38
    go_wp2
    go_ret
    exact ⟨by rw [eqB_f hne.out]; rfl, Below.refl _ _⟩
end Go.Proofs.Ytdcfojohgcmpcaa
end
section
/- A region that draws its order, walked operation by operation in the order of the text. No program is named here. -/
namespace Go.Sl
open Go Go.RowKit
section
variable {P : Program} {ops : Array Oper} {Q : Exit → Act → World → Prop} {md : Region.Mode} {S : World → Prop}
/-- An operation that is wanted and yields its value in every world that meets S is taken first. -/
theorem take_on {i : Nat} {oi : Oper} {fuel : Nat} {listed : Array Bool} {a : Act} {w : World} (hi : ops[i]? = some oi)
    (hs : Region.noSelect ops = true) (hf : Region.free md ops listed i = true) (hr : (Region.ready md ops listed).contains i = true)
    (hQ : ∀ c (a : Act) w (v : Value), Q (.panic c) (a.put oi.dst v) w → Q (.panic c) a w) (hw : Region.wanted oi (yielded ops a.tmps) = true) (hS : S w)
    (h : ∃ v, (∀ w, S w → (execOp a.eval oi).run P w = .ok (.value v) w) ∧ wpAnyH P md ops Q S fuel (listed.setIfInBounds i true) (a.put oi.dst v) w) : wpAnyH P md ops Q S (fuel + 1) listed a w := by
  obtain ⟨v, h1, h2⟩ := h
  exact wpAnyH_take hi hs hf hr (fun c a w h => hQ c a w _ h) (.inl ⟨hw, h1⟩) hS h2
/-- An operation that is not wanted is taken first. -/
theorem take_off {i : Nat} {oi : Oper} {fuel : Nat} {listed : Array Bool} {a : Act} {w : World} (hi : ops[i]? = some oi)
    (hs : Region.noSelect ops = true) (hf : Region.free md ops listed i = true) (hr : (Region.ready md ops listed).contains i = true)
    (hQ : ∀ c (a : Act) w (v : Value), Q (.panic c) (a.put oi.dst v) w → Q (.panic c) a w) (hw : Region.wanted oi (yielded ops a.tmps) = false) (hS : S w)
    (h : wpAnyH P md ops Q S fuel (listed.setIfInBounds i true) (a.put oi.dst undef) w) : wpAnyH P md ops Q S (fuel + 1) listed a w :=
  wpAnyH_take hi hs hf hr (fun c a w h => hQ c a w _ h) (.inr ⟨hw, rfl⟩) hS h
end
end Go.Sl
end
