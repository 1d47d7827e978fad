/- The law BucketPlays: for every input it returns true, and its arguments read behind the call as before it. No conditions. -/
import Derived.Test.YtdcfojohgcmpcaaPk6
import Derived.OwnWalk
import Derived.Deep.DeepCutAuto
import Derived.Deep.RegionWith
import Derived.Deep.RegionHeld3
section
/- The walk of the reference's register: Reclass. -/
namespace Go.Proofs.Ytdcfojohgcmpcaa
open Go.RowKit Go.Sl
set_option maxHeartbeats 4000000
set_option maxRecDepth 100000
theorem reclE_arg' {l : List STri} {c y c2 y2 n : Int} (h : (bucketOk c y && (bucketOk c2 y2 && (money n && !decide (c = c2 ∧ y = y2)))) = false) : reclE l c y c2 y2 n = 1 := by unfold reclE; rw [if_pos h]
abbrev PtR (h : Hp) (b : Nat) (l : List STri) : Prop := Pt kReg 87 h b l
/-- What Reclass returns. -/
def ReclAns (b : Nat) (l : List STri) (c y c2 y2 n : Int) (h : Hp) (w : World) (e : Ending) (w' : World) : Prop :=
  ∃ h', e = .returned (.int .i64 (reclE l c y c2 y2 n)) ∧ PtR h' b (reclR l c y c2 y2 n) ∧ Upd h h' w w'
theorem ReclAns.no {b : Nat} {l : List STri} {c y c2 y2 n : Int} {h : Hp} {w w' : World} {E : Int} (hE : reclE l c y c2 y2 n = E) (h0 : E ≠ 0) (hp : PtR h b l) (hs : h.sub w) (hb : Below w.heap.size w w') :
    ReclAns b l c y c2 y2 n h w (.returned (.int .i64 E)) w' := ⟨h, by rw [hE], by unfold reclR; rw [hE, if_neg h0]; exact hp, Upd.stay hs hb⟩
theorem refRecl_calls (b : Nat) (l : List STri) (c y c2 y2 n : Int) (h : Hp) (w : World) (hs : h.sub w) (hp : PtR h b l) (g : GoodR l) :
    Calls Try.prog 45 #[.pointer (some ⟨b, 0, none⟩), .int .i64 c, .int .i64 y, .int .i64 c2, .int .i64 y2, .int .i64 n] w (ReclAns b l c y c2 y2 n h w) := by
  obtain ⟨A, ca, hc, sx⟩ := hp.reg hs
  have hlt := World.block_lt_of_cell? w _ hc
  have hlen := g.len
  have BC := fun W : World => refBucket_calls c y W
  have BC2 := fun W : World => refBucket_calls c2 y2 W
  have MC := fun W : World => refMoney_calls n W
  have NO : ∀ {q : Int} {W : World}, reclE l c y c2 y2 n = q → q ≠ 0 → Below w.heap.size w W → ReclAns b l c y c2 y2 n h w (.returned (.int .i64 q)) W := fun h1 h2 h3 => .no h1 h2 hp hs h3
  cases hb : bucketOk c y with
  | false =>
    have HE : Hid (reclE l c y c2 y2 n = 1) := reclE_arg' (by simp [hb])
    rw [hb] at BC
    clear hb MC BC2
    go_enter Try.func45, Try.ntmps45
    go_wp2_with (go_at_call 93; refine (BC _).mono ?_; rintro e w' ⟨rfl, rfl⟩)
    go_ret
    exact NO HE.out (by decide) (Below.refl _ _)
  | true =>
  rw [hb] at BC
  cases hb2 : bucketOk c2 y2 with
  | false =>
    have HE : Hid (reclE l c y c2 y2 n = 1) := reclE_arg' (by simp [hb2])
    rw [hb2] at BC2
    clear hb hb2 MC
    go_enter Try.func45, Try.ntmps45
    go_wp2_with fail
    refine (BC _).mono ?_
    rintro e w' ⟨rfl, rfl⟩
    go_wp2_with fail
    refine (BC2 _).mono ?_
    rintro e w' ⟨rfl, rfl⟩
    go_wp2
    go_ret
    exact NO HE.out (by decide) (Below.refl _ _)
  | true =>
  rw [hb2] at BC2
  cases hm : money n with
  | false =>
    have HE : Hid (reclE l c y c2 y2 n = 1) := reclE_arg' (by simp [hm])
    rw [hm] at MC
    clear hb hb2 hm
    go_enter Try.func45, Try.ntmps45
    go_wp2_with fail
    refine (BC _).mono ?_
    rintro e w' ⟨rfl, rfl⟩
    go_wp2_with fail
    refine (BC2 _).mono ?_
    rintro e w' ⟨rfl, rfl⟩
    go_wp2_with fail
    refine (MC _).mono ?_
    rintro e w' ⟨rfl, rfl⟩
    go_wp2
    go_ret
    exact NO HE.out (by decide) (Below.refl _ _)
  | true =>
  rw [hm] at MC
  by_cases he : c = c2 ∧ y = y2
  · have HE : Hid (reclE l c y c2 y2 n = 1) := reclE_arg' (by simp [he])
    have t1 : (c == c2) = true := by simpa using he.1
    have t2 : (y == y2) = true := by simpa using he.2
    clear hb hb2 hm he
    go_enter Try.func45, Try.ntmps45
    go_wp2_with fail
    refine (BC _).mono ?_
    rintro e w' ⟨rfl, rfl⟩
    go_wp2_with fail
    refine (BC2 _).mono ?_
    rintro e w' ⟨rfl, rfl⟩
    go_wp2_with fail
    refine (MC _).mono ?_
    rintro e w' ⟨rfl, rfl⟩
    go_wp2
    go_ret
    exact NO HE.out (by decide) (Below.refl _ _)
  have hm' : -100000000000 ≤ n ∧ n ≤ 100000000000 := by simpa [money] using hm
  have hg := g.get c y
  have hg2 := g.get c2 y2
  have GC := fun (W : World) (hW : Below w.heap.size w W) => refGet_calls b A ca l c y h W (hs.of_below hW) ((hW.cell (p := ⟨b, 0, none⟩) hlt).trans hc) sx
  have GC2 := fun (W : World) (hW : Below w.heap.size w W) => refGet_calls b A ca l c2 y2 h W (hs.of_below hW) ((hW.cell (p := ⟨b, 0, none⟩) hlt).trans hc) sx
  have CC := fun (W : World) (hW : Below w.heap.size w W) => refCopyReg_calls b l h W (hs.of_below hW) hp (by omega)
  have HM : Hid (reclE l c y c2 y2 n = if (money (getB l c y - n) && money (getB l c2 y2 + n)) = false then 6 else if 12 < (setB (setB l c y (getB l c y - n)) c2 y2 (getB l c2 y2 + n)).length then 5 else 0) := by
    unfold Hid reclE; rw [if_neg (by simp [hb, hb2, hm]; exact fun a => by simpa [a] using he)]
  have HR : Hid (reclE l c y c2 y2 n = 0 → reclR l c y c2 y2 n = setB (setB l c y (getB l c y - n)) c2 y2 (getB l c2 y2 + n)) := fun h => by unfold reclR; rw [if_pos h]
  have hrp := len_setB g.rise c y (getB l c y - n)
  have SC := fun (b' : Nat) (k : Hp) (W : World) (ks : k.sub W) (kp : PtR k b' l) => refSet_calls b' l c y (getB l c y - n) k W ks kp (by omega) g.rise
  have SC2 := fun (b' : Nat) (k : Hp) (W : World) (ks : k.sub W) (kp : PtR k b' (setB l c y (getB l c y - n))) => refSet_calls b' (setB l c y (getB l c y - n)) c2 y2 (getB l c2 y2 + n) k W ks kp (by omega) (rising_setB g.rise c y (getB l c y - n))
  have HT : Hid ((c == c2 && y == y2) = false) := by unfold Hid; simpa using he
  clear hb hb2 hm he hrp
  generalize getB l c y = v at *
  generalize getB l c2 y2 = v2 at *
  generalize setB (setB l c y (v - n)) c2 y2 (v2 + n) = L at *
  generalize setB l c y (v - n) = RM at *
  have M1 := fun W : World => refMoney_calls (v - n) W
  have M2 := fun W : World => refMoney_calls (v2 + n) W
  rcases (show ((c == c2) = false) ∨ ((c == c2) = true ∧ (y == y2) = false) by have := HT.out; cases h1 : (c == c2) <;> simp_all) with t1 | ⟨t1, t2⟩
  all_goals
    go_enter Try.func45, Try.ntmps45
    go_wp2_with fail
    refine (BC _).mono ?_
    rintro e w' ⟨rfl, rfl⟩
    go_wp2_with fail
    refine (BC2 _).mono ?_
    rintro e w' ⟨rfl, rfl⟩
    go_wp2_with fail
    refine (MC _).mono ?_
    rintro e w' ⟨rfl, rfl⟩
    go_wp2_with fail
    refine (GC _ (Below.refl _ _)).mono ?_
    rintro e w1 ⟨rfl, b1⟩
    cases h1 : money (v - n) with
    | false =>
      have HE : Hid (reclE l c y c2 y2 n = 6) := by unfold Hid; rw [HM.out, h1]; rfl
      rw [h1] at M1
      clear h1
      go_wp2_with fail
      refine (M1 _).mono ?_
      rintro e w' ⟨rfl, rfl⟩
      go_wp2
      go_ret
      exact NO HE.out (by decide) b1
    | true =>
    have HM1 : Hid (reclE l c y c2 y2 n = if money (v2 + n) = false then 6 else if 12 < L.length then 5 else 0) := by unfold Hid; rw [HM.out, h1]; rfl
    rw [h1] at M1
    clear h1
    go_wp2_with fail
    refine (M1 _).mono ?_
    rintro e w' ⟨rfl, rfl⟩
    go_wp2_with fail
    refine (GC2 _ b1).mono ?_
    rintro e w2 ⟨rfl, b2⟩
    have b12 := b1.trans (b2.mono b1.size)
    cases h2 : money (v2 + n) with
    | false =>
      have HE : Hid (reclE l c y c2 y2 n = 6) := by unfold Hid; rw [HM1.out, h2]; rfl
      rw [h2] at M2
      clear h2
      go_wp2_with fail
      refine (M2 _).mono ?_
      rintro e w' ⟨rfl, rfl⟩
      go_wp2
      go_ret
      exact NO HE.out (by decide) b12
    | true =>
    have HM2 : Hid (reclE l c y c2 y2 n = if 12 < L.length then 5 else 0) := by unfold Hid; rw [HM1.out, h2]; rfl
    rw [h2] at M2
    clear h2
    go_wp2_with fail
    refine (M2 _).mono ?_
    rintro e w' ⟨rfl, rfl⟩
    go_wp2_with fail
    refine (CC _ b12).mono ?_
    rintro e w3 ⟨h3, b3, rfl, p3, u3⟩
    have b13 := b12.trans (u3.below.mono b12.size)
    go_wp2_with fail
    refine (GC _ b13).mono ?_
    rintro e w4 ⟨rfl, b4⟩
    have u4 := u3.after b4
    have b14 := b13.trans (b4.mono b13.size)
    go_wp2_with fail
    refine (SC b3 h3 w4 u4.sub p3).mono ?_
    rintro e w5 ⟨h5, rfl, p5, u5⟩
    have u5' := u4.trans u5
    have b15 := b12.trans (u5'.below.mono b12.size)
    go_wp2_with fail
    refine (GC2 _ b15).mono ?_
    rintro e w6 ⟨rfl, b6⟩
    have u6 := u5'.after b6
    go_wp2_with fail
    refine (SC2 b3 h5 w6 u6.sub p5).mono ?_
    rintro e w7 ⟨h7, rfl, ⟨cs7, k7, A7, c7, rfl, o7⟩, u7⟩
    have u37 : Upd Hp.none h7 w w7 := (u6.trans u7).before b12
    have k7w := u37.sub _ _ k7
    have g7 : w7.cell? ⟨b3, 0, none⟩ = some (.slice A7 L.length c7) := by rw [cell_of_row w7 b3 0 _ _ _ k7w]; rfl
    clear k7w
    have m7 := o7.small
    by_cases h12 : 12 < L.length
    · have HE : Hid (reclE l c y c2 y2 n = 5) := by unfold Hid; rw [HM2.out, if_pos h12]
      have h12b : decide ((12 : Int) < (L.length : Int)) = true := by simp; omega
      clear h12 HR HM2
      go_wp2
      go_ret
      exact NO HE.out (by decide) u37.below
    · have HE : Hid (reclE l c y c2 y2 n = 0) := by unfold Hid; rw [HM2.out, if_neg h12]
      have h12b : decide ((12 : Int) < (L.length : Int)) = false := by simp; omega
      have HL := Lib.hid (HR.out HE.out)
      have gb : w7.cell? ⟨b, 0, none⟩ = some (.slice A l.length ca) := (u37.below.cell (p := ⟨b, 0, none⟩) hlt).trans hc
      obtain ⟨cs0, hb0, A0, ca0, rfl, ow0⟩ := hp
      have gf : w7.frozen? ⟨b, 0, none⟩ = false := (u37.below.frozen (p := ⟨b, 0, none⟩) hlt).trans (frozen_of_row w b 0 _ _ (hs b _ hb0))
      clear h12 HR HM2
      go_wp2
      obtain ⟨UF, hn3⟩ := Upd.field (v := .slice A7 L.length c7) 0 hb0 hs (Hp.none_le _) (u37.weaken (Hp.del_le h7 b3))
      go_ret
      exact ⟨_, by rw [HE.out]; rfl, ⟨_, Hp.put_self, A7, c7, by rw [HL.out]; rfl, by rw [Hp.put_del hn3, HL.out]; exact o7⟩, UF⟩
end Go.Proofs.Ytdcfojohgcmpcaa
end
section
/- The reference's register in a body's own memory. -/
namespace Go.Proofs.Ytdcfojohgcmpcaa
open Go.RowKit Go.Sl
set_option maxHeartbeats 1000000
set_option maxRecDepth 100000
structure Rgr (h : Hp) (b : Nat) (l : List STri) : Prop where
  pt : PtR h b l
  good : GoodR l
section
variable {w0 w : World} {L : List Hp} {h : Hp} {b : Nat} {l : List STri}
theorem Rgr.total (S : Rgr h b l) (E : Env w0 w L) (i : Nat) (hi : L[i]? = some h) {q : Int} (hq : sumC l = q) :
    Calls Try.prog 46 #[.pointer (some ⟨b, 0, none⟩)] w fun e w' => e = .returned (.int .i64 q) ∧ Env w0 w' L := by
  subst hq
  obtain ⟨A, ca, hc, sx⟩ := S.pt.reg (E.sub i hi)
  exact (refTotal_calls b A ca l h w (E.sub i hi) hc sx (by have := S.good.len; omega) (mem_len S.good.mon)).mono fun _ _ ⟨he, b⟩ => ⟨he, E.below b⟩
theorem Rgr.get (S : Rgr h b l) (E : Env w0 w L) (i : Nat) (hi : L[i]? = some h) (c y : Int) {q : Int} (hq : getB l c y = q) :
    Calls Try.prog 47 #[.pointer (some ⟨b, 0, none⟩), .int .i64 c, .int .i64 y] w fun e w' => e = .returned (.int .i64 q) ∧ Env w0 w' L := by
  subst hq
  obtain ⟨A, ca, hc, sx⟩ := S.pt.reg (E.sub i hi)
  exact (refGet_calls b A ca l c y h w (E.sub i hi) hc sx).mono fun _ _ ⟨he, b⟩ => ⟨he, E.below b⟩
theorem Rgr.move (S : Rgr h b l) (E : Env w0 w L) (i : Nat) (hi : L[i]? = some h) (c y n : Int) :
    Calls Try.prog 44 #[.pointer (some ⟨b, 0, none⟩), .int .i64 c, .int .i64 y, .int .i64 n] w fun e w' => ∃ h', e = .returned (.int .i64 (moveE l c y n)) ∧ Rgr h' b (moveR l c y n) ∧ Env w0 w' (L.set i h') :=
  (refMove_calls b l c y n h w (E.sub i hi) S.pt S.good).mono fun _ _ ⟨h', he, hp, u⟩ => ⟨h', he, ⟨hp, S.good.move c y n⟩, E.upd i hi u⟩
theorem _root_.Go.Sl.GoodR.recl {l : List STri} (g : GoodR l) (c y c2 y2 n : Int) : GoodR (reclR l c y c2 y2 n) := by
  unfold reclR
  split
  · rename_i h
    obtain ⟨h1, h2, _, _, h5, h6, h7⟩ := reclE_ok h
    refine ⟨rising_setB (rising_setB g.rise _ _ _) _ _ _, fun x hx => ?_, fun x hx => ?_, fun x hx => ?_, h7⟩
    all_goals
      rcases mem_setB.1 hx with ⟨h0, rfl⟩ | ⟨hx, _⟩
      · first | exact h0 | exact h6 | exact h2
      · rcases mem_setB.1 hx with ⟨h0, rfl⟩ | ⟨hx, _⟩
        · first | exact h0 | exact h5 | exact h1
        · first | exact g.nz x hx | exact g.mon x hx | exact g.rng x hx
  · exact g
theorem Rgr.recl (S : Rgr h b l) (E : Env w0 w L) (i : Nat) (hi : L[i]? = some h) (c y c2 y2 n : Int) :
    Calls Try.prog 45 #[.pointer (some ⟨b, 0, none⟩), .int .i64 c, .int .i64 y, .int .i64 c2, .int .i64 y2, .int .i64 n] w fun e w' => ∃ h', e = .returned (.int .i64 (reclE l c y c2 y2 n)) ∧ Rgr h' b (reclR l c y c2 y2 n) ∧ Env w0 w' (L.set i h') :=
  (refRecl_calls b l c y c2 y2 n h w (E.sub i hi) S.pt S.good).mono fun _ _ ⟨h', he, hp, u⟩ => ⟨h', he, ⟨hp, S.good.recl c y c2 y2 n⟩, E.upd i hi u⟩
end
end Go.Proofs.Ytdcfojohgcmpcaa
end
section
/- The walk of law10.BucketPlays. -/
namespace Go.Proofs.Ytdcfojohgcmpcaa
open Go.RowKit Go.Sl
set_option maxHeartbeats 4000000
set_option maxRecDepth 100000
theorem bucketPlays_calls (A : Option Addr) (ca : Nat) (xs : List (Nat → Int)) (k1 : Hp) (w : World) (hs1 : k1.sub w) (s1 : Sl (kFun 6 (by decide)) k1 A ca xs) (hz : ∀ z ∈ xs, ∀ j, j < 6 → I64 (z j)) :
    Calls Try.prog 11 #[.slice A xs.length ca] w fun e w' => e = .returned (.bool true) ∧ Below w.heap.size w w' := by
  have E0 := Env.start w
  have m1 := s1.small
  have HZ := Lib.hid hz
  clear hz
  go_enter Try.func11, Try.ntmps11
  go_wp2_with fail
  refine (Regi.new E0).mono ?_
  rintro e w1 ⟨h1, c, rfl, S1, E1⟩
  try simp at E1
  go_wp2_with fail
  have E2 := E1.alloc (.cells #[.slice none 0 0] 87)
  simp at E2
  have P2 : Rgr (Hp.one w1.heap.size (.cells #[.slice none 0 0] 87)) w1.heap.size [] := ⟨⟨_, Hp.one_self _ _, none, 0, rfl, Ow.none _ _⟩, .nil⟩
  generalize w1.heap.size = bx at *
  go_loopw [5] (fun i wr => ∃ (j : Nat) (h1 h2 : Hp) (l : List STri), j ≤ 24 ∧ j ≤ xs.length ∧ i = .int .i64 j ∧ Regi h1 c l ∧ Rgr h2 bx l ∧ Env w wr [h1, h2]) (fun i _ => 24 - (intOf i).toNat)
  case atStart => exact ⟨0, _, _, _, by omega, by omega, rfl, S1, P2, E2⟩
  case round =>
    clear S1 P2 E1 E2
    obtain ⟨j, h1, h2, l, hj, hzz, rfl, S, P, E⟩ := hrel
    by_cases hlt : j < xs.length ∧ j < 24
    · obtain ⟨hlt, hl2⟩ := hlt
      obtain ⟨x, hx⟩ := some_of_lt hlt
      obtain ⟨ba, oa, rfl, d0, d1, d2, d3, d4, d5⟩ := s1.fn6 (hs1.of_below E.low) hx
      have q5 := HZ.out x (List.mem_of_getElem? hx.out) 5 (by omega)
      have i1 : (0 : Int) ≤ (j : Int) := by omega
      have i2 : (j : Int) < (xs.length : Int) := by omega
      have i3 : (j : Int) < 24 := by omega
      generalize x 0 = v0 at *
      generalize x 1 = v1 at *
      generalize x 2 = v2 at *
      generalize x 3 = v3 at *
      generalize x 4 = v4 at *
      generalize x 5 = v5 at *
      have A5 := fun W => amount_calls v5 q5 W
      generalize amount v5 = n at *
      have t10 : (Int.tmod v0 13 == 12) = true ∨ (Int.tmod v0 13 == 12) = false := by cases (Int.tmod v0 13 == 12) <;> simp
      have t20 : ((j : Int) == 9) = true ∨ ((j : Int) == 9) = false := by cases ((j : Int) == 9) <;> simp
      have W0 := fun W => within_calls v0 3 W (by omega) (by omega)
      have t30 : decide (within v0 3 < 2) = true ∨ decide (within v0 3 < 2) = false := by cases decide (within v0 3 < 2) <;> simp
      generalize within v0 3 = r0 at *
      go_upto_region 8 with fail
      replace E := E.alloc (.cells #[.int .i64 v0, .int .i64 v1, .int .i64 v2, .int .i64 v3, .int .i64 v4, .int .i64 v5] 75)
      simp at E
      obtain ⟨W, hW⟩ : ∃ W : World, W = wr.alloc (.cells #[.int .i64 v0, .int .i64 v1, .int .i64 v2, .int .i64 v3, .int .i64 v4, .int .i64 v5] 75) := ⟨_, rfl⟩
      rw [← hW] at E
      rw [← hW]
      clear hW
      have q0 := E.cell 2 rfl 0 rfl
      have q1 := E.cell 2 rfl 1 rfl
      have q2 := E.cell 2 rfl 2 rfl
      have q3 := E.cell 2 rfl 3 rfl
      have q4 := E.cell 2 rfl 4 rfl
      have q5 := E.cell 2 rfl 5 rfl
      generalize wr.heap.size = bw at *
      clear d0 d1 d2 d3 d4 d5 s1
      go_quiet (first | (go_at_call 15; (first | exact quiet_one (within_calls _ _ _ (by omega) (by omega)) | exact quiet_more (within_calls _ _ _ (by omega) (by omega)))) | (go_at_call 30; (first | exact quiet_one (A5 _) | exact quiet_more (A5 _))))
      trace "Q"
      generalize nq = n1 at *
      have EQ := E.drewN n1
      have gt := S.good.len
      rcases t10 with t1 | t1
      case inl =>
        go_upto_region 10 with fail
        go_quiet (fail)
        replace EQ := E.drewN (n1 + nq)
        rcases t20 with t2 | t2
        case inl =>
          go_wp2_with fail
          refine (Regi.clone S EQ 0 rfl).mono ?_
          rintro e w3 ⟨h3, b3, rfl, S3, E3⟩
          go_wp2_with fail
          refine (Regi.move S3 E3 3 rfl _ _ _ ⟨rfl, rfl⟩).mono ?_
          rintro e w4 ⟨h4, rfl, S4, E4⟩
          have E5 := E4.drop 3
          simp at E5
          have q0' := E5.cell 2 rfl 0 rfl
          rcases t30 with t3 | t3
          case inl =>
            go_wp2_with (go_at_call 15; refine (W0 _).mono ?_; rintro e w' ⟨rfl, rfl⟩)
            refine (Regi.move S E5 0 rfl _ _ _ ⟨rfl, rfl⟩).mono ?_
            rintro e w6 ⟨h6, rfl, S6, E6⟩
            go_wp2_with fail
            refine (Rgr.move P E6 1 rfl _ _ _).mono ?_
            rintro e w7 ⟨h7, rfl, P7, E7⟩
            simp at E7
            obtain ⟨L, P8, S8⟩ : ∃ L, Rgr h7 bx L ∧ Regi h6 c L := ⟨_, P7, S6⟩
            clear P7 S6 P S HZ
            obtain ⟨⟨cs7, hb7, A7, ca7, rfl, o7⟩, g7⟩ := id P8
            have lm := o7.small
            have KC : ∀ (W : World) (k : List Hp), Env w W (h6 :: h7 :: k) → W.cell? ⟨bx, 0, none⟩ = some (.slice A7 L.length ca7) := fun W k E => by rw [cell_of_row W bx 0 _ _ _ (E.sub 1 rfl _ _ hb7)]; rfl
            have k0 := KC _ _ E7
            go_upto_region 21 with fail
            go_region_held3 (fun W => W.cell? ⟨bx, 0, none⟩ = some (.slice A7 L.length ca7)) (first | go_keep | (exact hkeep))
              (first
                | (go_at_call 37; ((with_reducible refine (Regi.rows S8 (by repeat (first | (with_reducible exact E7) | (with_reducible apply Env.drew) | (with_reducible apply Env.drewN) | (with_reducible apply Env.alloc'))) 0 rfl _ rfl).mono ?_)); rintro e w8 ⟨C8, n8, h8, rfl, o8, E8⟩; have hkeep := KC _ _ E8)
                | (go_at_call 38; ((with_reducible refine (same_bucket C8 A7 n8 ca7 L L h8 (h7.del bx) _ (Env.sub (by repeat (first | (with_reducible exact E8) | (with_reducible apply Env.drew) | (with_reducible apply Env.drewN) | (with_reducible apply Env.alloc'))) 3 rfl) ((Env.sub (by repeat (first | (with_reducible exact E8) | (with_reducible apply Env.drew) | (with_reducible apply Env.drewN) | (with_reducible apply Env.alloc'))) 1 rfl).del bx) o8.sl o7.sl).mono ?_)); rw [eqB_t rfl]; rintro e w9 ⟨rfl, b9⟩; have E9 := Env.below (by repeat (first | (with_reducible exact E8) | (with_reducible apply Env.drew) | (with_reducible apply Env.drewN) | (with_reducible apply Env.alloc'))) b9; have hkeep := KC _ _ E9)
                | (go_at_call 39; ((with_reducible refine (Regi.total S8 (by repeat (first | (with_reducible exact E9) | (with_reducible apply Env.drew) | (with_reducible apply Env.drewN) | (with_reducible apply Env.alloc'))) 0 rfl rfl).mono ?_)); rintro e w10 ⟨rfl, E10⟩; have hkeep := KC _ _ E10)
                | (go_at_call 46; ((with_reducible refine (Rgr.total P8 (by repeat (first | (with_reducible exact E10) | (with_reducible apply Env.drew) | (with_reducible apply Env.drewN) | (with_reducible apply Env.alloc'))) 1 rfl rfl).mono ?_)); rintro e w11 ⟨rfl, E11⟩; have hkeep := KC _ _ E11)
                | (go_at_call 42; ((with_reducible refine (Regi.get S8 (by repeat (first | (with_reducible exact E11) | (with_reducible apply Env.drew) | (with_reducible apply Env.drewN) | (with_reducible apply Env.alloc'))) 0 rfl _ _ rfl).mono ?_)); rintro e w12 ⟨rfl, E12⟩; have hkeep := KC _ _ E12)
                | (go_at_call 47; ((with_reducible refine (Rgr.get P8 (by repeat (first | (with_reducible exact E12) | (with_reducible apply Env.drew) | (with_reducible apply Env.drewN) | (with_reducible apply Env.alloc'))) 1 rfl _ _ rfl).mono ?_)); rintro e w13 ⟨rfl, E13⟩; have hkeep := KC _ _ E13)
                | fail)
            all_goals
              have E14 := (E13.drop 3).drop 2
              simp at E14
              clear E7 E8 E9 E10 E11 E12 E13
              go_wp2
              go_roundw
              case rel => exact ⟨j + 1, _, _, L, by omega, by omega, by go_num, S8, P8, (by repeat (first | (with_reducible exact E14) | (with_reducible apply Env.drew) | (with_reducible apply Env.drewN) | (with_reducible apply Env.alloc')))⟩
              case measure => simp [intOf]; omega
          case inr =>
            go_wp2_with (go_at_call 15; refine (W0 _).mono ?_; rintro e w' ⟨rfl, rfl⟩)
            refine (Regi.recl S E5 0 rfl _ _ _ _ _ ⟨rfl, rfl⟩).mono ?_
            rintro e w6 ⟨h6, rfl, S6, E6⟩
            go_wp2_with fail
            refine (Rgr.recl P E6 1 rfl _ _ _ _ _).mono ?_
            rintro e w7 ⟨h7, rfl, P7, E7⟩
            simp at E7
            obtain ⟨L, P8, S8⟩ : ∃ L, Rgr h7 bx L ∧ Regi h6 c L := ⟨_, P7, S6⟩
            clear P7 S6 P S HZ
            obtain ⟨⟨cs7, hb7, A7, ca7, rfl, o7⟩, g7⟩ := id P8
            have lm := o7.small
            have KC : ∀ (W : World) (k : List Hp), Env w W (h6 :: h7 :: k) → W.cell? ⟨bx, 0, none⟩ = some (.slice A7 L.length ca7) := fun W k E => by rw [cell_of_row W bx 0 _ _ _ (E.sub 1 rfl _ _ hb7)]; rfl
            have k0 := KC _ _ E7
            go_upto_region 21 with fail
            go_region_held3 (fun W => W.cell? ⟨bx, 0, none⟩ = some (.slice A7 L.length ca7)) (first | go_keep | (exact hkeep))
              (first
                | (go_at_call 37; ((with_reducible refine (Regi.rows S8 (by repeat (first | (with_reducible exact E7) | (with_reducible apply Env.drew) | (with_reducible apply Env.drewN) | (with_reducible apply Env.alloc'))) 0 rfl _ rfl).mono ?_)); rintro e w8 ⟨C8, n8, h8, rfl, o8, E8⟩; have hkeep := KC _ _ E8)
                | (go_at_call 38; ((with_reducible refine (same_bucket C8 A7 n8 ca7 L L h8 (h7.del bx) _ (Env.sub (by repeat (first | (with_reducible exact E8) | (with_reducible apply Env.drew) | (with_reducible apply Env.drewN) | (with_reducible apply Env.alloc'))) 3 rfl) ((Env.sub (by repeat (first | (with_reducible exact E8) | (with_reducible apply Env.drew) | (with_reducible apply Env.drewN) | (with_reducible apply Env.alloc'))) 1 rfl).del bx) o8.sl o7.sl).mono ?_)); rw [eqB_t rfl]; rintro e w9 ⟨rfl, b9⟩; have E9 := Env.below (by repeat (first | (with_reducible exact E8) | (with_reducible apply Env.drew) | (with_reducible apply Env.drewN) | (with_reducible apply Env.alloc'))) b9; have hkeep := KC _ _ E9)
                | (go_at_call 39; ((with_reducible refine (Regi.total S8 (by repeat (first | (with_reducible exact E9) | (with_reducible apply Env.drew) | (with_reducible apply Env.drewN) | (with_reducible apply Env.alloc'))) 0 rfl rfl).mono ?_)); rintro e w10 ⟨rfl, E10⟩; have hkeep := KC _ _ E10)
                | (go_at_call 46; ((with_reducible refine (Rgr.total P8 (by repeat (first | (with_reducible exact E10) | (with_reducible apply Env.drew) | (with_reducible apply Env.drewN) | (with_reducible apply Env.alloc'))) 1 rfl rfl).mono ?_)); rintro e w11 ⟨rfl, E11⟩; have hkeep := KC _ _ E11)
                | (go_at_call 42; ((with_reducible refine (Regi.get S8 (by repeat (first | (with_reducible exact E11) | (with_reducible apply Env.drew) | (with_reducible apply Env.drewN) | (with_reducible apply Env.alloc'))) 0 rfl _ _ rfl).mono ?_)); rintro e w12 ⟨rfl, E12⟩; have hkeep := KC _ _ E12)
                | (go_at_call 47; ((with_reducible refine (Rgr.get P8 (by repeat (first | (with_reducible exact E12) | (with_reducible apply Env.drew) | (with_reducible apply Env.drewN) | (with_reducible apply Env.alloc'))) 1 rfl _ _ rfl).mono ?_)); rintro e w13 ⟨rfl, E13⟩; have hkeep := KC _ _ E13)
                | fail)
            all_goals
              have E14 := (E13.drop 3).drop 2
              simp at E14
              clear E7 E8 E9 E10 E11 E12 E13
              go_wp2
              go_roundw
              case rel => exact ⟨j + 1, _, _, L, by omega, by omega, by go_num, S8, P8, (by repeat (first | (with_reducible exact E14) | (with_reducible apply Env.drew) | (with_reducible apply Env.drewN) | (with_reducible apply Env.alloc')))⟩
              case measure => simp [intOf]; omega
        case inr =>
          have E5 := EQ
          have q0' := E5.cell 2 rfl 0 rfl
          rcases t30 with t3 | t3
          case inl =>
            go_wp2_with (go_at_call 15; refine (W0 _).mono ?_; rintro e w' ⟨rfl, rfl⟩)
            refine (Regi.move S E5 0 rfl _ _ _ ⟨rfl, rfl⟩).mono ?_
            rintro e w6 ⟨h6, rfl, S6, E6⟩
            go_wp2_with fail
            refine (Rgr.move P E6 1 rfl _ _ _).mono ?_
            rintro e w7 ⟨h7, rfl, P7, E7⟩
            simp at E7
            obtain ⟨L, P8, S8⟩ : ∃ L, Rgr h7 bx L ∧ Regi h6 c L := ⟨_, P7, S6⟩
            clear P7 S6 P S HZ
            obtain ⟨⟨cs7, hb7, A7, ca7, rfl, o7⟩, g7⟩ := id P8
            have lm := o7.small
            have KC : ∀ (W : World) (k : List Hp), Env w W (h6 :: h7 :: k) → W.cell? ⟨bx, 0, none⟩ = some (.slice A7 L.length ca7) := fun W k E => by rw [cell_of_row W bx 0 _ _ _ (E.sub 1 rfl _ _ hb7)]; rfl
            have k0 := KC _ _ E7
            go_upto_region 21 with fail
            go_region_held3 (fun W => W.cell? ⟨bx, 0, none⟩ = some (.slice A7 L.length ca7)) (first | go_keep | (exact hkeep))
              (first
                | (go_at_call 37; ((with_reducible refine (Regi.rows S8 (by repeat (first | (with_reducible exact E7) | (with_reducible apply Env.drew) | (with_reducible apply Env.drewN) | (with_reducible apply Env.alloc'))) 0 rfl _ rfl).mono ?_)); rintro e w8 ⟨C8, n8, h8, rfl, o8, E8⟩; have hkeep := KC _ _ E8)
                | (go_at_call 38; ((with_reducible refine (same_bucket C8 A7 n8 ca7 L L h8 (h7.del bx) _ (Env.sub (by repeat (first | (with_reducible exact E8) | (with_reducible apply Env.drew) | (with_reducible apply Env.drewN) | (with_reducible apply Env.alloc'))) 3 rfl) ((Env.sub (by repeat (first | (with_reducible exact E8) | (with_reducible apply Env.drew) | (with_reducible apply Env.drewN) | (with_reducible apply Env.alloc'))) 1 rfl).del bx) o8.sl o7.sl).mono ?_)); rw [eqB_t rfl]; rintro e w9 ⟨rfl, b9⟩; have E9 := Env.below (by repeat (first | (with_reducible exact E8) | (with_reducible apply Env.drew) | (with_reducible apply Env.drewN) | (with_reducible apply Env.alloc'))) b9; have hkeep := KC _ _ E9)
                | (go_at_call 39; ((with_reducible refine (Regi.total S8 (by repeat (first | (with_reducible exact E9) | (with_reducible apply Env.drew) | (with_reducible apply Env.drewN) | (with_reducible apply Env.alloc'))) 0 rfl rfl).mono ?_)); rintro e w10 ⟨rfl, E10⟩; have hkeep := KC _ _ E10)
                | (go_at_call 46; ((with_reducible refine (Rgr.total P8 (by repeat (first | (with_reducible exact E10) | (with_reducible apply Env.drew) | (with_reducible apply Env.drewN) | (with_reducible apply Env.alloc'))) 1 rfl rfl).mono ?_)); rintro e w11 ⟨rfl, E11⟩; have hkeep := KC _ _ E11)
                | (go_at_call 42; ((with_reducible refine (Regi.get S8 (by repeat (first | (with_reducible exact E11) | (with_reducible apply Env.drew) | (with_reducible apply Env.drewN) | (with_reducible apply Env.alloc'))) 0 rfl _ _ rfl).mono ?_)); rintro e w12 ⟨rfl, E12⟩; have hkeep := KC _ _ E12)
                | (go_at_call 47; ((with_reducible refine (Rgr.get P8 (by repeat (first | (with_reducible exact E12) | (with_reducible apply Env.drew) | (with_reducible apply Env.drewN) | (with_reducible apply Env.alloc'))) 1 rfl _ _ rfl).mono ?_)); rintro e w13 ⟨rfl, E13⟩; have hkeep := KC _ _ E13)
                | fail)
            all_goals
              have E14 := (E13.drop 3).drop 2
              simp at E14
              clear E7 E8 E9 E10 E11 E12 E13
              go_wp2
              go_roundw
              case rel => exact ⟨j + 1, _, _, L, by omega, by omega, by go_num, S8, P8, (by repeat (first | (with_reducible exact E14) | (with_reducible apply Env.drew) | (with_reducible apply Env.drewN) | (with_reducible apply Env.alloc')))⟩
              case measure => simp [intOf]; omega
          case inr =>
            go_wp2_with (go_at_call 15; refine (W0 _).mono ?_; rintro e w' ⟨rfl, rfl⟩)
            refine (Regi.recl S E5 0 rfl _ _ _ _ _ ⟨rfl, rfl⟩).mono ?_
            rintro e w6 ⟨h6, rfl, S6, E6⟩
            go_wp2_with fail
            refine (Rgr.recl P E6 1 rfl _ _ _ _ _).mono ?_
            rintro e w7 ⟨h7, rfl, P7, E7⟩
            simp at E7
            obtain ⟨L, P8, S8⟩ : ∃ L, Rgr h7 bx L ∧ Regi h6 c L := ⟨_, P7, S6⟩
            clear P7 S6 P S HZ
            obtain ⟨⟨cs7, hb7, A7, ca7, rfl, o7⟩, g7⟩ := id P8
            have lm := o7.small
            have KC : ∀ (W : World) (k : List Hp), Env w W (h6 :: h7 :: k) → W.cell? ⟨bx, 0, none⟩ = some (.slice A7 L.length ca7) := fun W k E => by rw [cell_of_row W bx 0 _ _ _ (E.sub 1 rfl _ _ hb7)]; rfl
            have k0 := KC _ _ E7
            go_upto_region 21 with fail
            go_region_held3 (fun W => W.cell? ⟨bx, 0, none⟩ = some (.slice A7 L.length ca7)) (first | go_keep | (exact hkeep))
              (first
                | (go_at_call 37; ((with_reducible refine (Regi.rows S8 (by repeat (first | (with_reducible exact E7) | (with_reducible apply Env.drew) | (with_reducible apply Env.drewN) | (with_reducible apply Env.alloc'))) 0 rfl _ rfl).mono ?_)); rintro e w8 ⟨C8, n8, h8, rfl, o8, E8⟩; have hkeep := KC _ _ E8)
                | (go_at_call 38; ((with_reducible refine (same_bucket C8 A7 n8 ca7 L L h8 (h7.del bx) _ (Env.sub (by repeat (first | (with_reducible exact E8) | (with_reducible apply Env.drew) | (with_reducible apply Env.drewN) | (with_reducible apply Env.alloc'))) 3 rfl) ((Env.sub (by repeat (first | (with_reducible exact E8) | (with_reducible apply Env.drew) | (with_reducible apply Env.drewN) | (with_reducible apply Env.alloc'))) 1 rfl).del bx) o8.sl o7.sl).mono ?_)); rw [eqB_t rfl]; rintro e w9 ⟨rfl, b9⟩; have E9 := Env.below (by repeat (first | (with_reducible exact E8) | (with_reducible apply Env.drew) | (with_reducible apply Env.drewN) | (with_reducible apply Env.alloc'))) b9; have hkeep := KC _ _ E9)
                | (go_at_call 39; ((with_reducible refine (Regi.total S8 (by repeat (first | (with_reducible exact E9) | (with_reducible apply Env.drew) | (with_reducible apply Env.drewN) | (with_reducible apply Env.alloc'))) 0 rfl rfl).mono ?_)); rintro e w10 ⟨rfl, E10⟩; have hkeep := KC _ _ E10)
                | (go_at_call 46; ((with_reducible refine (Rgr.total P8 (by repeat (first | (with_reducible exact E10) | (with_reducible apply Env.drew) | (with_reducible apply Env.drewN) | (with_reducible apply Env.alloc'))) 1 rfl rfl).mono ?_)); rintro e w11 ⟨rfl, E11⟩; have hkeep := KC _ _ E11)
                | (go_at_call 42; ((with_reducible refine (Regi.get S8 (by repeat (first | (with_reducible exact E11) | (with_reducible apply Env.drew) | (with_reducible apply Env.drewN) | (with_reducible apply Env.alloc'))) 0 rfl _ _ rfl).mono ?_)); rintro e w12 ⟨rfl, E12⟩; have hkeep := KC _ _ E12)
                | (go_at_call 47; ((with_reducible refine (Rgr.get P8 (by repeat (first | (with_reducible exact E12) | (with_reducible apply Env.drew) | (with_reducible apply Env.drewN) | (with_reducible apply Env.alloc'))) 1 rfl _ _ rfl).mono ?_)); rintro e w13 ⟨rfl, E13⟩; have hkeep := KC _ _ E13)
                | fail)
            all_goals
              have E14 := (E13.drop 3).drop 2
              simp at E14
              clear E7 E8 E9 E10 E11 E12 E13
              go_wp2
              go_roundw
              case rel => exact ⟨j + 1, _, _, L, by omega, by omega, by go_num, S8, P8, (by repeat (first | (with_reducible exact E14) | (with_reducible apply Env.drew) | (with_reducible apply Env.drewN) | (with_reducible apply Env.alloc')))⟩
              case measure => simp [intOf]; omega
      case inr =>
        rcases t20 with t2 | t2
        case inl =>
          go_wp2_with fail
          refine (Regi.clone S EQ 0 rfl).mono ?_
          rintro e w3 ⟨h3, b3, rfl, S3, E3⟩
          go_wp2_with fail
          refine (Regi.move S3 E3 3 rfl _ _ _ ⟨rfl, rfl⟩).mono ?_
          rintro e w4 ⟨h4, rfl, S4, E4⟩
          have E5 := E4.drop 3
          simp at E5
          have q0' := E5.cell 2 rfl 0 rfl
          rcases t30 with t3 | t3
          case inl =>
            go_wp2_with (go_at_call 15; refine (W0 _).mono ?_; rintro e w' ⟨rfl, rfl⟩)
            refine (Regi.move S E5 0 rfl _ _ _ ⟨rfl, rfl⟩).mono ?_
            rintro e w6 ⟨h6, rfl, S6, E6⟩
            go_wp2_with fail
            refine (Rgr.move P E6 1 rfl _ _ _).mono ?_
            rintro e w7 ⟨h7, rfl, P7, E7⟩
            simp at E7
            obtain ⟨L, P8, S8⟩ : ∃ L, Rgr h7 bx L ∧ Regi h6 c L := ⟨_, P7, S6⟩
            clear P7 S6 P S HZ
            obtain ⟨⟨cs7, hb7, A7, ca7, rfl, o7⟩, g7⟩ := id P8
            have lm := o7.small
            have KC : ∀ (W : World) (k : List Hp), Env w W (h6 :: h7 :: k) → W.cell? ⟨bx, 0, none⟩ = some (.slice A7 L.length ca7) := fun W k E => by rw [cell_of_row W bx 0 _ _ _ (E.sub 1 rfl _ _ hb7)]; rfl
            have k0 := KC _ _ E7
            go_upto_region 21 with fail
            go_region_held3 (fun W => W.cell? ⟨bx, 0, none⟩ = some (.slice A7 L.length ca7)) (first | go_keep | (exact hkeep))
              (first
                | (go_at_call 37; ((with_reducible refine (Regi.rows S8 (by repeat (first | (with_reducible exact E7) | (with_reducible apply Env.drew) | (with_reducible apply Env.drewN) | (with_reducible apply Env.alloc'))) 0 rfl _ rfl).mono ?_)); rintro e w8 ⟨C8, n8, h8, rfl, o8, E8⟩; have hkeep := KC _ _ E8)
                | (go_at_call 38; ((with_reducible refine (same_bucket C8 A7 n8 ca7 L L h8 (h7.del bx) _ (Env.sub (by repeat (first | (with_reducible exact E8) | (with_reducible apply Env.drew) | (with_reducible apply Env.drewN) | (with_reducible apply Env.alloc'))) 3 rfl) ((Env.sub (by repeat (first | (with_reducible exact E8) | (with_reducible apply Env.drew) | (with_reducible apply Env.drewN) | (with_reducible apply Env.alloc'))) 1 rfl).del bx) o8.sl o7.sl).mono ?_)); rw [eqB_t rfl]; rintro e w9 ⟨rfl, b9⟩; have E9 := Env.below (by repeat (first | (with_reducible exact E8) | (with_reducible apply Env.drew) | (with_reducible apply Env.drewN) | (with_reducible apply Env.alloc'))) b9; have hkeep := KC _ _ E9)
                | (go_at_call 39; ((with_reducible refine (Regi.total S8 (by repeat (first | (with_reducible exact E9) | (with_reducible apply Env.drew) | (with_reducible apply Env.drewN) | (with_reducible apply Env.alloc'))) 0 rfl rfl).mono ?_)); rintro e w10 ⟨rfl, E10⟩; have hkeep := KC _ _ E10)
                | (go_at_call 46; ((with_reducible refine (Rgr.total P8 (by repeat (first | (with_reducible exact E10) | (with_reducible apply Env.drew) | (with_reducible apply Env.drewN) | (with_reducible apply Env.alloc'))) 1 rfl rfl).mono ?_)); rintro e w11 ⟨rfl, E11⟩; have hkeep := KC _ _ E11)
                | (go_at_call 42; ((with_reducible refine (Regi.get S8 (by repeat (first | (with_reducible exact E11) | (with_reducible apply Env.drew) | (with_reducible apply Env.drewN) | (with_reducible apply Env.alloc'))) 0 rfl _ _ rfl).mono ?_)); rintro e w12 ⟨rfl, E12⟩; have hkeep := KC _ _ E12)
                | (go_at_call 47; ((with_reducible refine (Rgr.get P8 (by repeat (first | (with_reducible exact E12) | (with_reducible apply Env.drew) | (with_reducible apply Env.drewN) | (with_reducible apply Env.alloc'))) 1 rfl _ _ rfl).mono ?_)); rintro e w13 ⟨rfl, E13⟩; have hkeep := KC _ _ E13)
                | fail)
            all_goals
              have E14 := (E13.drop 3).drop 2
              simp at E14
              clear E7 E8 E9 E10 E11 E12 E13
              go_wp2
              go_roundw
              case rel => exact ⟨j + 1, _, _, L, by omega, by omega, by go_num, S8, P8, (by repeat (first | (with_reducible exact E14) | (with_reducible apply Env.drew) | (with_reducible apply Env.drewN) | (with_reducible apply Env.alloc')))⟩
              case measure => simp [intOf]; omega
          case inr =>
            go_wp2_with (go_at_call 15; refine (W0 _).mono ?_; rintro e w' ⟨rfl, rfl⟩)
            refine (Regi.recl S E5 0 rfl _ _ _ _ _ ⟨rfl, rfl⟩).mono ?_
            rintro e w6 ⟨h6, rfl, S6, E6⟩
            go_wp2_with fail
            refine (Rgr.recl P E6 1 rfl _ _ _ _ _).mono ?_
            rintro e w7 ⟨h7, rfl, P7, E7⟩
            simp at E7
            obtain ⟨L, P8, S8⟩ : ∃ L, Rgr h7 bx L ∧ Regi h6 c L := ⟨_, P7, S6⟩
            clear P7 S6 P S HZ
            obtain ⟨⟨cs7, hb7, A7, ca7, rfl, o7⟩, g7⟩ := id P8
            have lm := o7.small
            have KC : ∀ (W : World) (k : List Hp), Env w W (h6 :: h7 :: k) → W.cell? ⟨bx, 0, none⟩ = some (.slice A7 L.length ca7) := fun W k E => by rw [cell_of_row W bx 0 _ _ _ (E.sub 1 rfl _ _ hb7)]; rfl
            have k0 := KC _ _ E7
            go_upto_region 21 with fail
            go_region_held3 (fun W => W.cell? ⟨bx, 0, none⟩ = some (.slice A7 L.length ca7)) (first | go_keep | (exact hkeep))
              (first
                | (go_at_call 37; ((with_reducible refine (Regi.rows S8 (by repeat (first | (with_reducible exact E7) | (with_reducible apply Env.drew) | (with_reducible apply Env.drewN) | (with_reducible apply Env.alloc'))) 0 rfl _ rfl).mono ?_)); rintro e w8 ⟨C8, n8, h8, rfl, o8, E8⟩; have hkeep := KC _ _ E8)
                | (go_at_call 38; ((with_reducible refine (same_bucket C8 A7 n8 ca7 L L h8 (h7.del bx) _ (Env.sub (by repeat (first | (with_reducible exact E8) | (with_reducible apply Env.drew) | (with_reducible apply Env.drewN) | (with_reducible apply Env.alloc'))) 3 rfl) ((Env.sub (by repeat (first | (with_reducible exact E8) | (with_reducible apply Env.drew) | (with_reducible apply Env.drewN) | (with_reducible apply Env.alloc'))) 1 rfl).del bx) o8.sl o7.sl).mono ?_)); rw [eqB_t rfl]; rintro e w9 ⟨rfl, b9⟩; have E9 := Env.below (by repeat (first | (with_reducible exact E8) | (with_reducible apply Env.drew) | (with_reducible apply Env.drewN) | (with_reducible apply Env.alloc'))) b9; have hkeep := KC _ _ E9)
                | (go_at_call 39; ((with_reducible refine (Regi.total S8 (by repeat (first | (with_reducible exact E9) | (with_reducible apply Env.drew) | (with_reducible apply Env.drewN) | (with_reducible apply Env.alloc'))) 0 rfl rfl).mono ?_)); rintro e w10 ⟨rfl, E10⟩; have hkeep := KC _ _ E10)
                | (go_at_call 46; ((with_reducible refine (Rgr.total P8 (by repeat (first | (with_reducible exact E10) | (with_reducible apply Env.drew) | (with_reducible apply Env.drewN) | (with_reducible apply Env.alloc'))) 1 rfl rfl).mono ?_)); rintro e w11 ⟨rfl, E11⟩; have hkeep := KC _ _ E11)
                | (go_at_call 42; ((with_reducible refine (Regi.get S8 (by repeat (first | (with_reducible exact E11) | (with_reducible apply Env.drew) | (with_reducible apply Env.drewN) | (with_reducible apply Env.alloc'))) 0 rfl _ _ rfl).mono ?_)); rintro e w12 ⟨rfl, E12⟩; have hkeep := KC _ _ E12)
                | (go_at_call 47; ((with_reducible refine (Rgr.get P8 (by repeat (first | (with_reducible exact E12) | (with_reducible apply Env.drew) | (with_reducible apply Env.drewN) | (with_reducible apply Env.alloc'))) 1 rfl _ _ rfl).mono ?_)); rintro e w13 ⟨rfl, E13⟩; have hkeep := KC _ _ E13)
                | fail)
            all_goals
              have E14 := (E13.drop 3).drop 2
              simp at E14
              clear E7 E8 E9 E10 E11 E12 E13
              go_wp2
              go_roundw
              case rel => exact ⟨j + 1, _, _, L, by omega, by omega, by go_num, S8, P8, (by repeat (first | (with_reducible exact E14) | (with_reducible apply Env.drew) | (with_reducible apply Env.drewN) | (with_reducible apply Env.alloc')))⟩
              case measure => simp [intOf]; omega
        case inr =>
          have E5 := EQ
          have q0' := E5.cell 2 rfl 0 rfl
          rcases t30 with t3 | t3
          case inl =>
            go_wp2_with (go_at_call 15; refine (W0 _).mono ?_; rintro e w' ⟨rfl, rfl⟩)
            refine (Regi.move S E5 0 rfl _ _ _ ⟨rfl, rfl⟩).mono ?_
            rintro e w6 ⟨h6, rfl, S6, E6⟩
            go_wp2_with fail
            refine (Rgr.move P E6 1 rfl _ _ _).mono ?_
            rintro e w7 ⟨h7, rfl, P7, E7⟩
            simp at E7
            obtain ⟨L, P8, S8⟩ : ∃ L, Rgr h7 bx L ∧ Regi h6 c L := ⟨_, P7, S6⟩
            clear P7 S6 P S HZ
            obtain ⟨⟨cs7, hb7, A7, ca7, rfl, o7⟩, g7⟩ := id P8
            have lm := o7.small
            have KC : ∀ (W : World) (k : List Hp), Env w W (h6 :: h7 :: k) → W.cell? ⟨bx, 0, none⟩ = some (.slice A7 L.length ca7) := fun W k E => by rw [cell_of_row W bx 0 _ _ _ (E.sub 1 rfl _ _ hb7)]; rfl
            have k0 := KC _ _ E7
            go_upto_region 21 with fail
            go_region_held3 (fun W => W.cell? ⟨bx, 0, none⟩ = some (.slice A7 L.length ca7)) (first | go_keep | (exact hkeep))
              (first
                | (go_at_call 37; ((with_reducible refine (Regi.rows S8 (by repeat (first | (with_reducible exact E7) | (with_reducible apply Env.drew) | (with_reducible apply Env.drewN) | (with_reducible apply Env.alloc'))) 0 rfl _ rfl).mono ?_)); rintro e w8 ⟨C8, n8, h8, rfl, o8, E8⟩; have hkeep := KC _ _ E8)
                | (go_at_call 38; ((with_reducible refine (same_bucket C8 A7 n8 ca7 L L h8 (h7.del bx) _ (Env.sub (by repeat (first | (with_reducible exact E8) | (with_reducible apply Env.drew) | (with_reducible apply Env.drewN) | (with_reducible apply Env.alloc'))) 3 rfl) ((Env.sub (by repeat (first | (with_reducible exact E8) | (with_reducible apply Env.drew) | (with_reducible apply Env.drewN) | (with_reducible apply Env.alloc'))) 1 rfl).del bx) o8.sl o7.sl).mono ?_)); rw [eqB_t rfl]; rintro e w9 ⟨rfl, b9⟩; have E9 := Env.below (by repeat (first | (with_reducible exact E8) | (with_reducible apply Env.drew) | (with_reducible apply Env.drewN) | (with_reducible apply Env.alloc'))) b9; have hkeep := KC _ _ E9)
                | (go_at_call 39; ((with_reducible refine (Regi.total S8 (by repeat (first | (with_reducible exact E9) | (with_reducible apply Env.drew) | (with_reducible apply Env.drewN) | (with_reducible apply Env.alloc'))) 0 rfl rfl).mono ?_)); rintro e w10 ⟨rfl, E10⟩; have hkeep := KC _ _ E10)
                | (go_at_call 46; ((with_reducible refine (Rgr.total P8 (by repeat (first | (with_reducible exact E10) | (with_reducible apply Env.drew) | (with_reducible apply Env.drewN) | (with_reducible apply Env.alloc'))) 1 rfl rfl).mono ?_)); rintro e w11 ⟨rfl, E11⟩; have hkeep := KC _ _ E11)
                | (go_at_call 42; ((with_reducible refine (Regi.get S8 (by repeat (first | (with_reducible exact E11) | (with_reducible apply Env.drew) | (with_reducible apply Env.drewN) | (with_reducible apply Env.alloc'))) 0 rfl _ _ rfl).mono ?_)); rintro e w12 ⟨rfl, E12⟩; have hkeep := KC _ _ E12)
                | (go_at_call 47; ((with_reducible refine (Rgr.get P8 (by repeat (first | (with_reducible exact E12) | (with_reducible apply Env.drew) | (with_reducible apply Env.drewN) | (with_reducible apply Env.alloc'))) 1 rfl _ _ rfl).mono ?_)); rintro e w13 ⟨rfl, E13⟩; have hkeep := KC _ _ E13)
                | fail)
            all_goals
              have E14 := (E13.drop 3).drop 2
              simp at E14
              clear E7 E8 E9 E10 E11 E12 E13
              go_wp2
              go_roundw
              case rel => exact ⟨j + 1, _, _, L, by omega, by omega, by go_num, S8, P8, (by repeat (first | (with_reducible exact E14) | (with_reducible apply Env.drew) | (with_reducible apply Env.drewN) | (with_reducible apply Env.alloc')))⟩
              case measure => simp [intOf]; omega
          case inr =>
            go_wp2_with (go_at_call 15; refine (W0 _).mono ?_; rintro e w' ⟨rfl, rfl⟩)
            refine (Regi.recl S E5 0 rfl _ _ _ _ _ ⟨rfl, rfl⟩).mono ?_
            rintro e w6 ⟨h6, rfl, S6, E6⟩
            go_wp2_with fail
            refine (Rgr.recl P E6 1 rfl _ _ _ _ _).mono ?_
            rintro e w7 ⟨h7, rfl, P7, E7⟩
            simp at E7
            obtain ⟨L, P8, S8⟩ : ∃ L, Rgr h7 bx L ∧ Regi h6 c L := ⟨_, P7, S6⟩
            clear P7 S6 P S HZ
            obtain ⟨⟨cs7, hb7, A7, ca7, rfl, o7⟩, g7⟩ := id P8
            have lm := o7.small
            have KC : ∀ (W : World) (k : List Hp), Env w W (h6 :: h7 :: k) → W.cell? ⟨bx, 0, none⟩ = some (.slice A7 L.length ca7) := fun W k E => by rw [cell_of_row W bx 0 _ _ _ (E.sub 1 rfl _ _ hb7)]; rfl
            have k0 := KC _ _ E7
            go_upto_region 21 with fail
            go_region_held3 (fun W => W.cell? ⟨bx, 0, none⟩ = some (.slice A7 L.length ca7)) (first | go_keep | (exact hkeep))
              (first
                | (go_at_call 37; ((with_reducible refine (Regi.rows S8 (by repeat (first | (with_reducible exact E7) | (with_reducible apply Env.drew) | (with_reducible apply Env.drewN) | (with_reducible apply Env.alloc'))) 0 rfl _ rfl).mono ?_)); rintro e w8 ⟨C8, n8, h8, rfl, o8, E8⟩; have hkeep := KC _ _ E8)
                | (go_at_call 38; ((with_reducible refine (same_bucket C8 A7 n8 ca7 L L h8 (h7.del bx) _ (Env.sub (by repeat (first | (with_reducible exact E8) | (with_reducible apply Env.drew) | (with_reducible apply Env.drewN) | (with_reducible apply Env.alloc'))) 3 rfl) ((Env.sub (by repeat (first | (with_reducible exact E8) | (with_reducible apply Env.drew) | (with_reducible apply Env.drewN) | (with_reducible apply Env.alloc'))) 1 rfl).del bx) o8.sl o7.sl).mono ?_)); rw [eqB_t rfl]; rintro e w9 ⟨rfl, b9⟩; have E9 := Env.below (by repeat (first | (with_reducible exact E8) | (with_reducible apply Env.drew) | (with_reducible apply Env.drewN) | (with_reducible apply Env.alloc'))) b9; have hkeep := KC _ _ E9)
                | (go_at_call 39; ((with_reducible refine (Regi.total S8 (by repeat (first | (with_reducible exact E9) | (with_reducible apply Env.drew) | (with_reducible apply Env.drewN) | (with_reducible apply Env.alloc'))) 0 rfl rfl).mono ?_)); rintro e w10 ⟨rfl, E10⟩; have hkeep := KC _ _ E10)
                | (go_at_call 46; ((with_reducible refine (Rgr.total P8 (by repeat (first | (with_reducible exact E10) | (with_reducible apply Env.drew) | (with_reducible apply Env.drewN) | (with_reducible apply Env.alloc'))) 1 rfl rfl).mono ?_)); rintro e w11 ⟨rfl, E11⟩; have hkeep := KC _ _ E11)
                | (go_at_call 42; ((with_reducible refine (Regi.get S8 (by repeat (first | (with_reducible exact E11) | (with_reducible apply Env.drew) | (with_reducible apply Env.drewN) | (with_reducible apply Env.alloc'))) 0 rfl _ _ rfl).mono ?_)); rintro e w12 ⟨rfl, E12⟩; have hkeep := KC _ _ E12)
                | (go_at_call 47; ((with_reducible refine (Rgr.get P8 (by repeat (first | (with_reducible exact E12) | (with_reducible apply Env.drew) | (with_reducible apply Env.drewN) | (with_reducible apply Env.alloc'))) 1 rfl _ _ rfl).mono ?_)); rintro e w13 ⟨rfl, E13⟩; have hkeep := KC _ _ E13)
                | fail)
            all_goals
              have E14 := (E13.drop 3).drop 2
              simp at E14
              clear E7 E8 E9 E10 E11 E12 E13
              go_wp2
              go_roundw
              case rel => exact ⟨j + 1, _, _, L, by omega, by omega, by go_num, S8, P8, (by repeat (first | (with_reducible exact E14) | (with_reducible apply Env.drew) | (with_reducible apply Env.drewN) | (with_reducible apply Env.alloc')))⟩
              case measure => simp [intOf]; omega
    · rcases (show xs.length ≤ j ∨ (j < xs.length ∧ j = 24) by omega) with g | ⟨g, rfl⟩
      all_goals
        go_wp2_with fail
        refine (wakes10 _).mono ?_
        rintro e w2 ⟨rfl, B2⟩
        go_wp2
        go_ret
        exact ⟨rfl, (E.below B2).low⟩
end Go.Proofs.Ytdcfojohgcmpcaa
end
namespace Go.Proofs.Ytdcfojohgcmpcaa.bucketPlays
open Go.ChangeShapes Go.WideShapes Go.ChangeAt Go.RowKit Go.Sl
set_option linter.unusedVariables false
set_option maxRecDepth 100000
set_option maxHeartbeats 2000000
theorem lifted (os : Os) (started : os.Started) (H : Type) (enc : TypeId × Value → H) :
    ReturnsInHanded {} Try.checked os 11 .any (Rows.bucketPlaysSpec.pre6 enc Try.prog Try.f11 Rows.bucketPlaysRow.domain false) (Rows.bucketPlaysSpec.post enc Try.prog Try.f11 false true false false) := by
  refine returnsInHanded_of_change_sized (C := Try.checked) Lift.own started (by kernel_rfl) Try.func11
    (ChangeSpec.witness6 (enc := enc) (C := Try.checked) false ⟨#[], #[.slice none 0 0], []⟩ 8 (by kernel_rfl) (by kernel_rfl) (by kernel_rfl) (by kernel_rfl)) ?_
  intro W base args ds gs before hval0 hW hcnd hsz0 _
  have hval : ∀ (j : Nat) t v, Try.f11.params[j]? = some t → args[j]? = some v → Value.okWide Try.prog W .any base t v := hval0
  have hW' := hW
  obtain ⟨p, q, hA0, hV, rfl, hfz, hnd⟩ := hW
  have hA : DataW.TrodAll enc Try.prog W 0 (fun _ => true) true Try.f11.params.toList args.toList ds p := hA0
  rw [Try.params11] at hA hval
  obtain ⟨v0, vs0, d0, ds0, p0, q0, hargs, rfl, rfl, h0, r0⟩ := trodAll_cons hA
  obtain ⟨rfl, rfl, rfl⟩ := trodAll_nil r0
  obtain rfl : args = #[v0] := by cases args; simp_all
  obtain ⟨rfl, rfl⟩ := trodVars_none hV
  have k0 := h0
  have lt0 : ∀ x ∈ p0, x.block < W.heap.size := by obtain ⟨m, hm⟩ := k0; exact DataW.trod_lt m _ _ _ hm
  obtain ⟨a0_0, len0_0, cap0_0, rfl⟩ := okWide_slice Try.underlying71 (hval 0 71 v0 rfl rfl)
  obtain ⟨fuel0, hf0⟩ := h0
  obtain ⟨A0, c0, z0, hcs0, s0, w0⟩ := open_acts 6 (by decide) Try.underlying71 Try.underlying75 (by kernel_rfl) (fun i hi => match i, hi with | 0, _ => ⟨_, rfl, rfl, Try.underlying3, by kernel_rfl⟩ | 1, _ => ⟨_, rfl, rfl, Try.underlying3, by kernel_rfl⟩ | 2, _ => ⟨_, rfl, rfl, Try.underlying3, by kernel_rfl⟩ | 3, _ => ⟨_, rfl, rfl, Try.underlying3, by kernel_rfl⟩ | 4, _ => ⟨_, rfl, rfl, Try.underlying3, by kernel_rfl⟩ | 5, _ => ⟨_, rfl, rfl, Try.underlying3, by kernel_rfl⟩ | k + 6, h => absurd h (by omega)) hf0
  simp [Value.cells] at hcs0
  obtain ⟨rfl, rfl, rfl⟩ := hcs0
  clear hA0 hval0 hsz0
  refine (bucketPlays_calls a0_0 cap0_0 z0 (Hp.all W) W (Hp.all_sub W) s0 w0).mono fun e W' ⟨he, bel⟩ => ?_
  subst he
  exact ⟨_, rfl, _, _, _, [], _, [], hW', trodAll_mk1 (shut_bool Try.underlying4 _), (trodAll_cons_mk (Below.trod Lift.laidOut (by kernel_rfl) (of_decide_eq_true (by kernel_rfl)) k0 bel lt0) trodAll_mk0), rfl, bel.frame _, fun h => by cases h⟩
theorem over : Rows.bucketPlaysRow.holds Try.pinned (OpenSpec.ofChange Rows.bucketPlaysSpec) :=
  OpenClaim.holds_of_wide 11 Try.f11 rfl rfl rfl rfl rfl rfl rfl ⟨rfl, rfl, rfl, rfl, rfl⟩ rfl rfl rfl rfl rfl (by kernel_rfl) Try.func11 (by kernel_rfl)
    (of_decide_eq_true (by kernel_rfl)) (by unfold Func.isWrapper; first | (rw [if_pos (by decide +kernel)]; kernel_rfl) | (rw [if_neg (by decide +kernel)]; exact ⟨rfl, rfl⟩))
    (fun os started H enc _ => lifted os started H enc)
end Go.Proofs.Ytdcfojohgcmpcaa.bucketPlays
namespace Go.Proofs.Ytdcfojohgcmpcaa
theorem bucketPlays_holds : Rows.BucketPlaysSaid := bucketPlays.over
#print axioms bucketPlays_holds
end Go.Proofs.Ytdcfojohgcmpcaa
