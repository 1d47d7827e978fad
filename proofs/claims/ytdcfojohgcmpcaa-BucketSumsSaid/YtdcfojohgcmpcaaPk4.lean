/- Walks and plain facts that the laws of this seat share, part 4: contracts of functions, each said at its theorem. -/
import Derived.Test.YtdcfojohgcmpcaaPk3
import Derived.Deep.DeepCutAuto
import Derived.Deep.RegionLaw
set_option linter.all false
section
/- The walks of bucket.set, Move, Reclass. -/
namespace Go.Proofs.Ytdcfojohgcmpcaa
open Go.RowKit Go.Sl Go.Sort
set_option maxHeartbeats 4000000
set_option maxRecDepth 100000
theorem buckSet_calls (b : Nat) (r : List STri) (c y n : Int) (h : Hp) (w : World) (hs : h.sub w) (p : PtB h b r) (hd : DistR r) (hl : r.length ≤ 1000) :
    Calls Try.prog 87 #[.pointer (some ⟨b, 0, none⟩), .int .i64 c, .int .i64 y, .int .i64 n] w fun e w' => ∃ h', e = .returned (.tuple #[]) ∧ PtB h' b (rawSet r c y n) ∧ Upd h h' w w' := by
  obtain ⟨A, ca, hb, hc, ow, hf⟩ := p.one hs
  have hlt : b < w.heap.size := World.block_lt_of_cell? _ _ hc
  have AC := buckAt_calls b r c y h w hs p
  have lm := ow.small
  have HR : Hid (rawSet r c y n = (rawPut r c y n).filter fun z => !zeroB z) := rfl
  rcases getB_idx r c y with ⟨hi, _, ha⟩ | ⟨i, x, hx, hi, _, ha, hk⟩
  · rw [hi] at AC
    by_cases hn : n = 0
    · have t : (n == 0) = true := by simpa using hn
      have t2 : (n != 0) = false := by simpa using hn
      have HP : rawPut r c y n = r := by unfold rawPut; rw [if_neg (by rw [ha]; simp), if_pos hn]
      rw [HP] at HR
      clear hn HP ha hi
      go_enter Try.func87, Try.ntmps87
      go_wp2_with fail
      refine AC.mono ?_
      rintro e w1 ⟨rfl, b1⟩
      have hc1 := (b1.cell (p := ⟨b, 0, none⟩) hlt).trans hc
      have DC := buckClean (Upd.stay hs b1) hb rfl ow (by omega)
      generalize (r.filter fun z => !zeroB z) = R at *
      go_wp2_with fail
      refine DC.mono ?_
      rintro e w2 ⟨rfl, hc2, hf2, HF⟩
      go_wp2
      go_end0
      obtain ⟨h', p', u'⟩ := HF.out
      exact ⟨h', rfl, by rw [HR.out]; exact p', u'⟩
    · have t2 : (n != 0) = true := by simpa using hn
      have HP : rawPut r c y n = r ++ [⟨c, y, n⟩] := by unfold rawPut; rw [if_neg (by rw [ha]; simp), if_neg hn]
      rw [HP] at HR
      have hll : (r ++ [(⟨c, y, n⟩ : STri)]).length = r.length + 1 := by simp
      clear hn HP ha hi
      go_enter Try.func87, Try.ntmps87
      go_wp2_with fail
      refine AC.mono ?_
      rintro e w1 ⟨rfl, b1⟩
      have hc1 := (b1.cell (p := ⟨b, 0, none⟩) hlt).trans hc
      have hf1 := (b1.frozen (p := ⟨b, 0, none⟩) hlt).trans (hf 0)
      have hd1 := (hs.del b).of_below b1
      have hne : (h.del b) b = Option.none := Hp.del_self
      have hlt1 := World.block_lt_of_cell? _ _ hc1
      have hca1 : ∀ o, (w1.alloc o).cell? ⟨b, 0, none⟩ = some (.slice A r.length ca) := fun o => (cell_alloc hlt1).trans hc1
      have hfa1 : ∀ o, (w1.alloc o).frozen? ⟨b, 0, none⟩ = false := fun o => (frozen_alloc hlt1).trans hf1
      go_wp2_with (at_builtin; refine wpList_app1f (h := h.del b) (xs := r) (y := ⟨c, y, n⟩) Try.underlying77 info_bucket (by rfl) (by rfl) rfl r.length 1 (by rfl) (by rfl) rfl ow (hd1.of_below (by repeat (first | exact Below.refl _ _ | apply Below.drew | refine Below.alloc ?_ (by simp) _))) (heap_new_at (by simp)) rfl (by omega) (by omega) ?_; intro C' cap' w3 h3 ho3 hu3; have hcv : w3.cell? ⟨b, 0, none⟩ = _ := hu3.cell (hca1 _) hne; have hfv : w3.frozen? ⟨b, 0, none⟩ = _ := (hu3.frozen (p := ⟨b, 0, none⟩) (by first | (simp; done) | (simp; omega) | omega) hne).trans (hfa1 _))
      have U0 : Upd (h.del b) h3 w w3 := hu3.before (b1.alloc b1.size _)
      obtain ⟨UF, hn3⟩ := Upd.field (v := .slice C' (r.length + 1) cap') 0 hb hs (Hp.le_refl _) U0
      have DC := buckClean UF Hp.put_self hll (by rw [Hp.put_del hn3]; exact ho3) (by omega)
      generalize ((r ++ [(⟨c, y, n⟩ : STri)]).filter fun z => !zeroB z) = R at *
      refine DC.mono ?_
      rintro e w4 ⟨rfl, hc4, hf4, HF⟩
      go_wp2
      go_end0
      obtain ⟨h', p', u'⟩ := HF.out
      exact ⟨h', rfl, by rw [HR.out]; exact p', u'⟩
  · rw [hi] at AC
    have hil : i < r.length := (List.getElem?_eq_some_iff.1 hx).1
    have i1 : (0 : Int) ≤ (i : Int) := by omega
    have i2 : (i : Int) < (r.length : Int) := by omega
    have HP : rawPut r c y n = r.set i ⟨x.a, x.b, n⟩ := by
      unfold rawPut
      rw [if_pos ha, set_map (key := rkey) hd hx]
      have e1 : (⟨x.a, x.b, n⟩ : STri) = ⟨c, y, n⟩ := by simp [rkey] at hk; rw [hk.1, hk.2]
      rw [e1, hk]
    rw [HP] at HR
    have hll : (r.set i ⟨x.a, x.b, n⟩).length = r.length := by simp
    have hxx := Lib.hid hx
    clear HP ha hi hk hx
    go_enter Try.func87, Try.ntmps87
    go_wp2_with fail
    refine AC.mono ?_
    rintro e w1 ⟨rfl, b1⟩
    have hc1 := (b1.cell (p := ⟨b, 0, none⟩) hlt).trans hc
    obtain ⟨bx, ox, rfl, c1, c2, c3⟩ := ow.sl.tri ((hs.del b).of_below b1) hxx
    have hfx := ow.cell_free ((hs.del b).of_below b1) (by omega)
    have hne : (h.del b) b = Option.none := Hp.del_self
    have hbx := ow.ne_block (by omega) hne
    obtain ⟨h3, o3, u3⟩ := Ow.set (x' := ⟨x.a, x.b, n⟩) (v := .int .i64 n) (j := 2) ow ((hs.del b).of_below b1) hxx.out (by decide) rfl
    have hlt1 := World.block_lt_of_cell? _ _ hc1
    have hcv := u3.cell hc1 hne
    have U0 := u3.before b1
    have DC := buckClean (Upd.rest hb hs U0).1 Hp.put_self hll (by rw [Hp.put_del (Upd.rest hb hs U0).2]; exact o3) (by omega)
    clear u3 o3 U0
    generalize ((r.set i (⟨x.a, x.b, n⟩ : STri)).filter fun z => !zeroB z) = R at *
    trace "D"
    go_wp2_with fail
    refine DC.mono ?_
    rintro e w4 ⟨rfl, hc4, hf4, HF⟩
    go_wp2
    go_end0
    obtain ⟨h', p', u'⟩ := HF.out
    exact ⟨h', rfl, by rw [HR.out]; exact p', u'⟩
/-- What Move and Reclass return. -/
def BAns (b : Nat) (q : Int) (L : List STri) (h : Hp) (w : World) (e : Ending) (w' : World) : Prop :=
  ∃ h' r', e = .returned (.int .i64 q) ∧ PtB h' b r' ∧ RawR r' L ∧ Upd h h' w w'
theorem BAns.no {b : Nat} {r l L : List STri} {h : Hp} {w w' : World} {q q' : Int} (hq : q' = q) (hL : L = l) (hp : PtB h b r) (R : RawR r l) (hs : h.sub w) (hb : Below w.heap.size w w') :
    BAns b q' L h w (.returned (.int .i64 q)) w' := ⟨h, r, by rw [hq], hp, by rw [hL]; exact R, Upd.stay hs hb⟩
theorem moveR_no {l : List STri} {c y n q : Int} (h : moveE l c y n = q) (h0 : q ≠ 0) : moveR l c y n = l := by unfold moveR; rw [if_neg (by rw [h]; exact h0)]
theorem reclR_no {l : List STri} {c y c2 y2 n q : Int} (h : reclE l c y c2 y2 n = q) (h0 : q ≠ 0) : reclR l c y c2 y2 n = l := by unfold reclR; rw [if_neg (by rw [h]; exact h0)]
theorem _root_.Go.Sl.RawR.set {r l : List STri} (R : RawR r l) {c y n : Int} (g : GoodR (setB l c y n)) : RawR (rawSet r c y n) (setB l c y n) :=
  ⟨rawSet_dist R.dist c y n, by rw [rawSet_eq R.dist R.nz, R.eq], g⟩
theorem _root_.Go.Sl.RawR.setLen {r l : List STri} (R : RawR r l) (c y n : Int) : (rawSet r c y n).length = (setB l c y n).length := by rw [rawSet_len_eq R.dist R.nz, R.eq]
theorem buckMove_calls (b : Nat) (r l : List STri) (c y n : Int) (h : Hp) (w : World) (hs : h.sub w) (hp : PtB h b r) (R : RawR r l) :
    Calls Try.prog 36 #[.pointer (some ⟨b, 0, none⟩), .int .i64 c, .int .i64 y, .int .i64 n] w (BAns b (moveE l c y n) (moveR l c y n) h w) := by
  obtain ⟨A, ca, hb0, hc, ow, hf⟩ := hp.one hs
  have hlt : b < w.heap.size := World.block_lt_of_cell? _ _ hc
  have g := R.good
  have hlen := g.len
  have hrl := R.len
  have BC := fun W : World => buckRight_calls c y W
  have MC := fun W : World => money_calls n W
  have NO : ∀ {q : Int} {W : World}, moveE l c y n = q → q ≠ 0 → Below w.heap.size w W → BAns b (moveE l c y n) (moveR l c y n) h w (.returned (.int .i64 q)) W := fun h1 h2 h3 => .no h1 (moveR_no h1 h2) hp R hs h3
  cases hb : bucketOk c y with
  | false =>
    have HE : Hid (moveE l c y n = 1) := by unfold Hid moveE; rw [if_pos (by simp [hb])]
    rw [hb] at BC
    clear hb MC
    go_enter Try.func36, Try.ntmps36
    go_wp2_with (go_at_call 86; refine (BC _).mono ?_; rintro e w' ⟨rfl, rfl⟩)
    go_ret
    exact NO HE.out (by decide) (Below.refl _ _)
  | true =>
  cases hm : money n with
  | false =>
    have HE : Hid (moveE l c y n = 1) := by unfold Hid moveE; rw [if_pos (by simp [hm])]
    rw [hb] at BC
    rw [hm] at MC
    clear hb hm
    go_enter Try.func36, Try.ntmps36
    go_wp2_with (first
      | (go_at_call 86; refine (BC _).mono ?_; rintro e w' ⟨rfl, rfl⟩)
      | (go_at_call 65; refine (MC _).mono ?_; rintro e w' ⟨rfl, rfl⟩))
    go_ret
    exact NO HE.out (by decide) (Below.refl _ _)
  | true =>
  have hm' : -100000000000 ≤ n ∧ n ≤ 100000000000 := by simpa [money] using hm
  have hg := g.get c y
  have hsu := g.sum
  have hge := R.get c y
  have hse := R.sum
  have GC := fun (W : World) (hW : Below w.heap.size w W) => buckGet_calls b r c y h W (hs.of_below hW) hp
  have TC := fun (W : World) (hW : Below w.heap.size w W) => buckTotal_calls b r h W (hs.of_below hW) hp (by omega) (fun x hx => mem_len g.mon x (R.mem.1 hx))
  have CC := fun (W : World) (hW : Below w.heap.size w W) => buckClone_calls b r h W (hs.of_below hW) hp (by omega)
  have HM : Hid (moveE l c y n = if (money (getB l c y + n) && money (sumC l + n)) = false then 6 else if 12 < (setB l c y (getB l c y + n)).length then 5 else 0) := by
    unfold Hid moveE; rw [if_neg (by simp [hb, hm])]
  have HR : Hid (moveE l c y n = 0 → moveR l c y n = setB l c y (getB l c y + n)) := fun h => by unfold moveR; rw [if_pos h]
  have SC := fun (b' : Nat) (k : Hp) (W : World) (ks : k.sub W) (kp : PtB k b' r) => buckSet_calls b' r c y (getB l c y + n) k W ks kp R.dist (by omega)
  have HSL := Lib.hid (R.setLen c y (getB l c y + n))
  have HG : Hid (money (getB l c y + n) = true → (setB l c y (getB l c y + n)).length ≤ 12 → RawR (rawSet r c y (getB l c y + n)) (setB l c y (getB l c y + n))) := fun h1 h2 => R.set (g.setB hb h1 h2)
  rw [hge] at GC
  rw [hse] at TC
  rw [hb] at BC
  rw [hm] at MC
  clear hb hm hge hse
  generalize getB l c y = v at *
  generalize sumC l = s at *
  generalize setB l c y (v + n) = L at *
  generalize rawSet r c y (v + n) = RL at *
  have M1 := fun W : World => money_calls (v + n) W
  have M2 := fun W : World => money_calls (s + n) W
  go_enter Try.func36, Try.ntmps36
  go_wp2_with fail
  refine (BC _).mono ?_
  rintro e w' ⟨rfl, rfl⟩
  go_wp2_with fail
  refine (MC _).mono ?_
  rintro e w' ⟨rfl, rfl⟩
  go_wp2_with fail
  refine (GC _ (Below.refl _ _)).mono ?_
  rintro e w1 ⟨rfl, b1⟩
  cases h1 : money (v + n) with
  | false =>
    have HE : Hid (moveE l c y n = 6) := by unfold Hid; rw [HM.out, h1]; rfl
    rw [h1] at M1
    clear h1
    go_wp2_with fail
    refine (M1 _).mono ?_
    rintro e w' ⟨rfl, rfl⟩
    go_wp2
    go_ret
    exact NO HE.out (by decide) b1
  | true =>
  have HG1 := Lib.hid (HG.out h1)
  have HM1 : Hid (moveE l c y n = if money (s + n) = false then 6 else if 12 < L.length then 5 else 0) := by unfold Hid; rw [HM.out, h1]; rfl
  rw [h1] at M1
  clear h1
  go_wp2_with fail
  refine (M1 _).mono ?_
  rintro e w' ⟨rfl, rfl⟩
  go_wp2_with fail
  refine (TC _ b1).mono ?_
  rintro e w2 ⟨rfl, b2⟩
  have b12 := b1.trans (b2.mono b1.size)
  cases h2 : money (s + n) with
  | false =>
    have HE : Hid (moveE l c y n = 6) := by unfold Hid; rw [HM1.out, h2]; rfl
    rw [h2] at M2
    clear h2
    go_wp2_with fail
    refine (M2 _).mono ?_
    rintro e w' ⟨rfl, rfl⟩
    go_wp2
    go_ret
    exact NO HE.out (by decide) b12
  | true =>
  have HM2 : Hid (moveE l c y n = if 12 < L.length then 5 else 0) := by unfold Hid; rw [HM1.out, h2]; rfl
  rw [h2] at M2
  clear h2
  go_wp2_with fail
  refine (M2 _).mono ?_
  rintro e w' ⟨rfl, rfl⟩
  go_wp2_with fail
  refine (CC _ b12).mono ?_
  rintro e w3 ⟨h3, b3, rfl, p3, u3⟩
  have b13 := b12.trans (u3.below.mono b12.size)
  go_wp2_with fail
  refine (SC b3 h3 w3 u3.sub p3).mono ?_
  rintro e w5 ⟨h5, rfl, p5, u5⟩
  have u35 : Upd Hp.none h5 w w5 := (u3.before b12).trans u5
  obtain ⟨A5, c5, k5, g5, o5, _⟩ := p5.one u35.sub
  have gb := (u35.below.cell (p := ⟨b, 0, none⟩) hlt).trans hc
  have gf := (u35.below.frozen (p := ⟨b, 0, none⟩) hlt).trans (hf 0)
  by_cases h12 : 12 < L.length
  · have HE : Hid (moveE l c y n = 5) := by unfold Hid; rw [HM2.out, if_pos h12]
    have TN := buckTakeNo_calls b b3 _ _ _ w5 g5 (by rw [HSL.out]; exact h12)
    clear HR HM2 h12
    go_wp2_with fail
    refine TN.mono ?_
    rintro e w' ⟨rfl, rfl⟩
    go_wp2
    go_ret
    exact NO HE.out (by decide) u35.below
  · have HE : Hid (moveE l c y n = 0) := by unfold Hid; rw [HM2.out, if_neg h12]
    have HL := Lib.hid (HR.out HE.out)
    have HG2 := Lib.hid (HG1.out (by omega))
    have TY := buckTake_calls b b3 _ _ _ _ _ _ w5 gb gf g5 (by rw [HSL.out]; exact h12)
    clear HR HM2 h12
    go_wp2_with fail
    refine TY.mono ?_
    rintro e w' ⟨rfl, rfl⟩
    obtain ⟨UF, hn3⟩ := Upd.field (v := .slice A5 RL.length c5) 0 hb0 hs (Hp.none_le _) (u35.weaken (Hp.del_le h5 b3))
    go_wp2
    go_ret
    exact ⟨_, RL, by rw [HE.out]; rfl, ⟨_, Hp.put_self, A5, c5, rfl, by rw [Hp.put_del hn3]; exact o5⟩, by rw [HL.out]; exact HG2.out, UF⟩
end Go.Proofs.Ytdcfojohgcmpcaa
end
section
/- The walk of bucket.Reclass. -/
namespace Go.Proofs.Ytdcfojohgcmpcaa
open Go.RowKit Go.Sl Go.Sort
set_option maxHeartbeats 4000000
set_option maxRecDepth 100000
theorem reclE_arg {l : List STri} {c y c2 y2 n : Int} (h : (bucketOk c y && (bucketOk c2 y2 && (money n && !decide (c = c2 ∧ y = y2)))) = false) : reclE l c y c2 y2 n = 1 := by unfold reclE; rw [if_pos h]
theorem buckRecl_calls (b : Nat) (r l : List STri) (c y c2 y2 n : Int) (h : Hp) (w : World) (hs : h.sub w) (hp : PtB h b r) (R : RawR r l) :
    Calls Try.prog 41 #[.pointer (some ⟨b, 0, none⟩), .int .i64 c, .int .i64 y, .int .i64 c2, .int .i64 y2, .int .i64 n] w (BAns b (reclE l c y c2 y2 n) (reclR l c y c2 y2 n) h w) := by
  obtain ⟨A, ca, hb0, hc, ow, hf⟩ := hp.one hs
  have hlt : b < w.heap.size := World.block_lt_of_cell? _ _ hc
  have g := R.good
  have hlen := g.len
  have hrl := R.len
  have BC := fun W : World => buckRight_calls c y W
  have BC2 := fun W : World => buckRight_calls c2 y2 W
  have MC := fun W : World => money_calls n W
  have NO : ∀ {q : Int} {W : World}, reclE l c y c2 y2 n = q → q ≠ 0 → Below w.heap.size w W → BAns b (reclE l c y c2 y2 n) (reclR l c y c2 y2 n) h w (.returned (.int .i64 q)) W := fun h1 h2 h3 => .no h1 (reclR_no h1 h2) hp R hs h3
  cases hb : bucketOk c y with
  | false =>
    have HE : Hid (reclE l c y c2 y2 n = 1) := reclE_arg (by simp [hb])
    rw [hb] at BC
    clear hb MC BC2
    go_enter Try.func41, Try.ntmps41
    go_wp2_with (go_at_call 86; refine (BC _).mono ?_; rintro e w' ⟨rfl, rfl⟩)
    go_ret
    exact NO HE.out (by decide) (Below.refl _ _)
  | true =>
  rw [hb] at BC
  cases hb2 : bucketOk c2 y2 with
  | false =>
    have HE : Hid (reclE l c y c2 y2 n = 1) := reclE_arg (by simp [hb2])
    rw [hb2] at BC2
    clear hb hb2 MC
    go_enter Try.func41, Try.ntmps41
    go_wp2_with fail
    refine (BC _).mono ?_
    rintro e w' ⟨rfl, rfl⟩
    go_wp2_with fail
    refine (BC2 _).mono ?_
    rintro e w' ⟨rfl, rfl⟩
    go_wp2
    go_ret
    exact NO HE.out (by decide) (Below.refl _ _)
  | true =>
  rw [hb2] at BC2
  cases hm : money n with
  | false =>
    have HE : Hid (reclE l c y c2 y2 n = 1) := reclE_arg (by simp [hm])
    rw [hm] at MC
    clear hb hb2 hm
    go_enter Try.func41, Try.ntmps41
    go_wp2_with fail
    refine (BC _).mono ?_
    rintro e w' ⟨rfl, rfl⟩
    go_wp2_with fail
    refine (BC2 _).mono ?_
    rintro e w' ⟨rfl, rfl⟩
    go_wp2_with fail
    refine (MC _).mono ?_
    rintro e w' ⟨rfl, rfl⟩
    go_wp2
    go_ret
    exact NO HE.out (by decide) (Below.refl _ _)
  | true =>
  rw [hm] at MC
  by_cases he : c = c2 ∧ y = y2
  · have HE : Hid (reclE l c y c2 y2 n = 1) := reclE_arg (by simp [he])
    have t1 : (c == c2) = true := by simpa using he.1
    have t2 : (y == y2) = true := by simpa using he.2
    clear hb hb2 hm he
    go_enter Try.func41, Try.ntmps41
    go_wp2_with fail
    refine (BC _).mono ?_
    rintro e w' ⟨rfl, rfl⟩
    go_wp2_with fail
    refine (BC2 _).mono ?_
    rintro e w' ⟨rfl, rfl⟩
    go_wp2_with fail
    refine (MC _).mono ?_
    rintro e w' ⟨rfl, rfl⟩
    go_wp2
    go_ret
    exact NO HE.out (by decide) (Below.refl _ _)
  have hm' : -100000000000 ≤ n ∧ n ≤ 100000000000 := by simpa [money] using hm
  have hg := g.get c y
  have hg2 := g.get c2 y2
  have hge := R.get c y
  have hge2 := R.get c2 y2
  have GC := fun (W : World) (hW : Below w.heap.size w W) => buckGet_calls b r c y h W (hs.of_below hW) hp
  have GC2 := fun (W : World) (hW : Below w.heap.size w W) => buckGet_calls b r c2 y2 h W (hs.of_below hW) hp
  have CC := fun (W : World) (hW : Below w.heap.size w W) => buckClone_calls b r h W (hs.of_below hW) hp (by omega)
  have HM : Hid (reclE l c y c2 y2 n = if (money (getB l c y - n) && money (getB l c2 y2 + n)) = false then 6 else if 12 < (setB (setB l c y (getB l c y - n)) c2 y2 (getB l c2 y2 + n)).length then 5 else 0) := by
    unfold Hid reclE; rw [if_neg (by simp [hb, hb2, hm]; exact fun a => by simpa [a] using he)]
  have HR : Hid (reclE l c y c2 y2 n = 0 → reclR l c y c2 y2 n = setB (setB l c y (getB l c y - n)) c2 y2 (getB l c2 y2 + n)) := fun h => by unfold reclR; rw [if_pos h]
  have hrp := rawSet_len (r := r) c y (getB l c y - n)
  have SC := fun (b' : Nat) (k : Hp) (W : World) (ks : k.sub W) (kp : PtB k b' r) => buckSet_calls b' r c y (getB l c y - n) k W ks kp R.dist (by omega)
  have SC2 := fun (b' : Nat) (k : Hp) (W : World) (ks : k.sub W) (kp : PtB k b' (rawSet r c y (getB l c y - n))) => buckSet_calls b' (rawSet r c y (getB l c y - n)) c2 y2 (getB l c2 y2 + n) k W ks kp (rawSet_dist R.dist _ _ _) (by omega)
  have HSL : Hid ((rawSet (rawSet r c y (getB l c y - n)) c2 y2 (getB l c2 y2 + n)).length = (setB (setB l c y (getB l c y - n)) c2 y2 (getB l c2 y2 + n)).length) := by
    unfold Hid; rw [rawSet_len_eq (rawSet_dist R.dist _ _ _) (rawSet_nz _ _ _), rawSet_eq R.dist R.nz, R.eq]
  have HG : Hid (money (getB l c y - n) = true → money (getB l c2 y2 + n) = true → (setB (setB l c y (getB l c y - n)) c2 y2 (getB l c2 y2 + n)).length ≤ 12 → RawR (rawSet (rawSet r c y (getB l c y - n)) c2 y2 (getB l c2 y2 + n)) (setB (setB l c y (getB l c y - n)) c2 y2 (getB l c2 y2 + n))) := fun h1 h2 h3 => by
    refine ⟨rawSet_dist (rawSet_dist R.dist _ _ _) _ _ _, by rw [rawSet_eq (rawSet_dist R.dist _ _ _) (rawSet_nz _ _ _), rawSet_eq R.dist R.nz, R.eq], ⟨rising_setB (rising_setB g.rise _ _ _) _ _ _, fun x hx => ?_, fun x hx => ?_, fun x hx => ?_, h3⟩⟩
    all_goals
      rcases mem_setB.1 hx with ⟨h0, rfl⟩ | ⟨hx, _⟩
      · first | exact h0 | exact h2 | exact hb2
      · rcases mem_setB.1 hx with ⟨h0, rfl⟩ | ⟨hx, _⟩
        · first | exact h0 | exact h1 | exact hb
        · first | exact g.nz x hx | exact g.mon x hx | exact g.rng x hx
  have HT : Hid ((c == c2 && y == y2) = false) := by unfold Hid; simpa using he
  rw [hge] at GC
  rw [hge2] at GC2
  clear hb hb2 hm hge hge2 he hrp
  generalize getB l c y = v at *
  generalize getB l c2 y2 = v2 at *
  generalize setB (setB l c y (v - n)) c2 y2 (v2 + n) = L at *
  generalize rawSet (rawSet r c y (v - n)) c2 y2 (v2 + n) = RL at *
  generalize rawSet r c y (v - n) = RM at *
  have M1 := fun W : World => money_calls (v - n) W
  have M2 := fun W : World => money_calls (v2 + n) W
  have TAIL : ∀ W, W = w → True := fun _ _ => trivial
  rcases (show ((c == c2) = false) ∨ ((c == c2) = true ∧ (y == y2) = false) by have := HT.out; cases h1 : (c == c2) <;> simp_all) with t1 | ⟨t1, t2⟩
  all_goals
    clear TAIL
    go_enter Try.func41, Try.ntmps41
    go_wp2_with fail
    refine (BC _).mono ?_
    rintro e w' ⟨rfl, rfl⟩
    go_wp2_with fail
    refine (BC2 _).mono ?_
    rintro e w' ⟨rfl, rfl⟩
    go_wp2_with fail
    refine (MC _).mono ?_
    rintro e w' ⟨rfl, rfl⟩
    go_wp2_with fail
    refine (GC _ (Below.refl _ _)).mono ?_
    rintro e w1 ⟨rfl, b1⟩
    go_wp2_with fail
    refine (GC2 _ b1).mono ?_
    rintro e w2 ⟨rfl, b2⟩
    have b12 := b1.trans (b2.mono b1.size)
    cases h1 : money (v - n) with
    | false =>
      have HE : Hid (reclE l c y c2 y2 n = 6) := by unfold Hid; rw [HM.out, h1]; rfl
      rw [h1] at M1
      clear h1
      go_wp2_with fail
      refine (M1 _).mono ?_
      rintro e w' ⟨rfl, rfl⟩
      go_wp2
      go_ret
      exact NO HE.out (by decide) b12
    | true =>
    have HG1 := Lib.hid (HG.out h1)
    have HM1 : Hid (reclE l c y c2 y2 n = if money (v2 + n) = false then 6 else if 12 < L.length then 5 else 0) := by unfold Hid; rw [HM.out, h1]; rfl
    rw [h1] at M1
    clear h1
    go_wp2_with fail
    refine (M1 _).mono ?_
    rintro e w' ⟨rfl, rfl⟩
    cases h2 : money (v2 + n) with
    | false =>
      have HE : Hid (reclE l c y c2 y2 n = 6) := by unfold Hid; rw [HM1.out, h2]; rfl
      rw [h2] at M2
      clear h2
      go_wp2_with fail
      refine (M2 _).mono ?_
      rintro e w' ⟨rfl, rfl⟩
      go_wp2
      go_ret
      exact NO HE.out (by decide) b12
    | true =>
    have HG2 := Lib.hid (HG1.out h2)
    have HM2 : Hid (reclE l c y c2 y2 n = if 12 < L.length then 5 else 0) := by unfold Hid; rw [HM1.out, h2]; rfl
    rw [h2] at M2
    clear h2
    go_wp2_with fail
    refine (M2 _).mono ?_
    rintro e w' ⟨rfl, rfl⟩
    go_wp2_with fail
    refine (CC _ b12).mono ?_
    rintro e w3 ⟨h3, b3, rfl, p3, u3⟩
    go_wp2_with fail
    refine (SC b3 h3 w3 u3.sub p3).mono ?_
    rintro e w4 ⟨h4, rfl, p4, u4⟩
    go_wp2_with fail
    refine (SC2 b3 h4 w4 u4.sub p4).mono ?_
    rintro e w5 ⟨h5, rfl, p5, u5⟩
    have u35 : Upd Hp.none h5 w w5 := ((u3.before b12).trans u4).trans u5
    obtain ⟨A5, c5, k5, g5, o5, _⟩ := p5.one u35.sub
    have gb := (u35.below.cell (p := ⟨b, 0, none⟩) hlt).trans hc
    have gf := (u35.below.frozen (p := ⟨b, 0, none⟩) hlt).trans (hf 0)
    by_cases h12 : 12 < L.length
    · have HE : Hid (reclE l c y c2 y2 n = 5) := by unfold Hid; rw [HM2.out, if_pos h12]
      have TN := buckTakeNo_calls b b3 _ _ _ w5 g5 (by rw [HSL.out]; exact h12)
      clear HR HM2 h12
      go_wp2_with fail
      refine TN.mono ?_
      rintro e w' ⟨rfl, rfl⟩
      go_wp2
      go_ret
      exact NO HE.out (by decide) u35.below
    · have HE : Hid (reclE l c y c2 y2 n = 0) := by unfold Hid; rw [HM2.out, if_neg h12]
      have HL := Lib.hid (HR.out HE.out)
      have HG3 := Lib.hid (HG2.out (by omega))
      have TY := buckTake_calls b b3 _ _ _ _ _ _ w5 gb gf g5 (by rw [HSL.out]; exact h12)
      clear HR HM2 h12
      go_wp2_with fail
      refine TY.mono ?_
      rintro e w' ⟨rfl, rfl⟩
      obtain ⟨UF, hn3⟩ := Upd.field (v := .slice A5 RL.length c5) 0 hb0 hs (Hp.none_le _) (u35.weaken (Hp.del_le h5 b3))
      go_wp2
      go_ret
      exact ⟨_, RL, by rw [HE.out]; rfl, ⟨_, Hp.put_self, A5, c5, rfl, by rw [Hp.put_del hn3]; exact o5⟩, by rw [HL.out]; exact HG3.out, UF⟩
end Go.Proofs.Ytdcfojohgcmpcaa
end
section
/- The calls of chapter 10 in a body's own memory; law10.wakes. -/
namespace Go.Proofs.Ytdcfojohgcmpcaa
open Go.RowKit Go.Sl
set_option maxHeartbeats 1000000
set_option maxRecDepth 100000
def Regi (h : Hp) (b : Nat) (l : List STri) : Prop := ∃ r, PtB h b r ∧ RawR r l
theorem Regi.good {h : Hp} {b : Nat} {l : List STri} (S : Regi h b l) : GoodR l := S.elim fun _ x => x.2.good
section
variable {w0 w : World} {L : List Hp} {h : Hp} {b : Nat} {l : List STri}
theorem Regi.new (E : Env w0 w L) : Calls Try.prog 35 #[] w fun e w' => ∃ h b, e = .returned (.pointer (some ⟨b, 0, none⟩)) ∧ Regi h b [] ∧ Env w0 w' (L ++ [h]) :=
  (buckNew_calls w).mono fun _ _ ⟨h, b, he, hp, u⟩ => ⟨h, b, he, ⟨[], hp, RawR.nil⟩, E.new u⟩
theorem Regi.clone (S : Regi h b l) (E : Env w0 w L) (i : Nat) (hi : L[i]? = some h) :
    Calls Try.prog 43 #[.pointer (some ⟨b, 0, none⟩)] w fun e w' => ∃ h' b', e = .returned (.pointer (some ⟨b', 0, none⟩)) ∧ Regi h' b' l ∧ Env w0 w' (L ++ [h']) := by
  obtain ⟨r, hp, R⟩ := S
  exact (buckClone_calls b r h w (E.sub i hi) hp (by have := R.len; have := R.good.len; omega)).mono fun _ _ ⟨h', b', he, hp', u⟩ => ⟨h', b', he, ⟨r, hp', R⟩, E.new u⟩
theorem Regi.rows (S : Regi h b l) (E : Env w0 w L) (i : Nat) (hi : L[i]? = some h) (n : Nat) (hn : l.length = n) :
    Calls Try.prog 37 #[.pointer (some ⟨b, 0, none⟩)] w fun e w' => ∃ C cap h', e = .returned (.slice C n cap) ∧ Ow kTri h' C cap l ∧ Env w0 w' (L ++ [h']) := by
  obtain ⟨r, hp, R⟩ := S
  subst hn
  refine (buckRows_calls b r h w (E.sub i hi) hp R.dist (by have := R.len; have := R.good.len; omega)).mono ?_
  rintro _ _ ⟨C, cap, h', he, ho, u⟩
  rw [R.eq] at ho
  exact ⟨C, cap, h', by rw [← R.len]; exact he, ho, E.new u⟩
theorem Regi.get (S : Regi h b l) (E : Env w0 w L) (i : Nat) (hi : L[i]? = some h) (c y : Int) {v : Int} (hv : getB l c y = v) :
    Calls Try.prog 42 #[.pointer (some ⟨b, 0, none⟩), .int .i64 c, .int .i64 y] w fun e w' => e = .returned (.int .i64 v) ∧ Env w0 w' L := by
  obtain ⟨r, hp, R⟩ := S
  refine (buckGet_calls b r c y h w (E.sub i hi) hp).mono ?_
  rintro _ _ ⟨he, hb⟩
  exact ⟨by rw [← hv, ← R.get]; exact he, E.below hb⟩
theorem Regi.total (S : Regi h b l) (E : Env w0 w L) (i : Nat) (hi : L[i]? = some h) {v : Int} (hv : sumC l = v) :
    Calls Try.prog 39 #[.pointer (some ⟨b, 0, none⟩)] w fun e w' => e = .returned (.int .i64 v) ∧ Env w0 w' L := by
  obtain ⟨r, hp, R⟩ := S
  refine (buckTotal_calls b r h w (E.sub i hi) hp (by have := R.len; have := R.good.len; omega) (fun x hx => mem_len R.good.mon x (R.mem.1 hx))).mono ?_
  rintro _ _ ⟨he, hb⟩
  exact ⟨by rw [← hv, ← R.sum]; exact he, E.below hb⟩
theorem Regi.move (S : Regi h b l) (E : Env w0 w L) (i : Nat) (hi : L[i]? = some h) (c y n : Int) {q : Int} {ys : List STri} (hE : moveE l c y n = q ∧ moveR l c y n = ys) :
    Calls Try.prog 36 #[.pointer (some ⟨b, 0, none⟩), .int .i64 c, .int .i64 y, .int .i64 n] w fun e w' => ∃ h', e = .returned (.int .i64 q) ∧ Regi h' b ys ∧ Env w0 w' (L.set i h') := by
  obtain ⟨r, hp, R⟩ := S
  obtain ⟨h1, h2⟩ := hE
  subst h1 h2
  exact (buckMove_calls b r l c y n h w (E.sub i hi) hp R).mono fun _ _ ⟨h', r', he, hp', R', u⟩ => ⟨h', he, ⟨r', hp', R'⟩, E.upd i hi u⟩
theorem Regi.recl (S : Regi h b l) (E : Env w0 w L) (i : Nat) (hi : L[i]? = some h) (c y c2 y2 n : Int) {q : Int} {ys : List STri} (hE : reclE l c y c2 y2 n = q ∧ reclR l c y c2 y2 n = ys) :
    Calls Try.prog 41 #[.pointer (some ⟨b, 0, none⟩), .int .i64 c, .int .i64 y, .int .i64 c2, .int .i64 y2, .int .i64 n] w fun e w' => ∃ h', e = .returned (.int .i64 q) ∧ Regi h' b ys ∧ Env w0 w' (L.set i h') := by
  obtain ⟨r, hp, R⟩ := S
  obtain ⟨h1, h2⟩ := hE
  subst h1 h2
  exact (buckRecl_calls b r l c y c2 y2 n h w (E.sub i hi) hp R).mono fun _ _ ⟨h', r', he, hp', R', u⟩ => ⟨h', he, ⟨r', hp', R'⟩, E.upd i hi u⟩
end
theorem wakes10 (w : World) : Calls Try.prog 40 #[] w fun e w' => e = .returned (.bool true) ∧ Below w.heap.size w w' := by
  have E0 := Env.start w
  have H0 : Hid (getB [] 1 5 = 0) := rfl
  have H1 : Hid (moveE [] 1 5 100 = 0 ∧ moveR [] 1 5 100 = [⟨1, 5, 100⟩]) := by unfold Hid; decide
  have H2 : Hid (sumC [⟨1, 5, 100⟩] = 100) := rfl
  go_enter Try.func40, Try.ntmps40
  go_wp2_with fail
  refine (Regi.new E0).mono ?_
  rintro e w1 ⟨h1, c, rfl, S1, E1⟩
  try simp at E1
  go_wp2_with fail
  refine (Regi.get S1 E1 0 rfl 1 5 H0.out).mono ?_
  rintro e w2 ⟨rfl, E2⟩
  try simp at E2
  go_wp2_with fail
  refine (Regi.move S1 E2 0 rfl 1 5 100 H1.out).mono ?_
  rintro e w3 ⟨h3, rfl, S3, E3⟩
  try simp at E3
  go_wp2_with fail
  refine (Regi.total S3 E3 0 rfl H2.out).mono ?_
  rintro e w4 ⟨rfl, E4⟩
  try simp at E4
  go_wp2_with fail
  refine (Regi.rows S3 E4 0 rfl 1 rfl).mono ?_
  rintro e w5 ⟨C5, n5, h5, rfl, o5, E5⟩
  try simp at E5
  go_wp2
  go_ret
  exact ⟨rfl, E5.low⟩
end Go.Proofs.Ytdcfojohgcmpcaa
end
section
/- The walk of the reference's register: set. -/
namespace Go.Sl
theorem setGo_skip {x y : STri} {d : Bool} {l : List STri} (h : rkey y = rkey x) : setGo ordPair rkey x d (y :: l) = setGo ordPair rkey x d l := by simp [setGo, h]
theorem setGo_keep {x y : STri} {d : Bool} {l : List STri} (h : rkey y ≠ rkey x) (h2 : d = true ∨ ordPair.lt (rkey x) (rkey y) = false) : setGo ordPair rkey x d (y :: l) = y :: setGo ordPair rkey x d l := by
  rw [setGo, if_neg h, if_neg]; rintro ⟨a, b⟩; rcases h2 with h2 | h2 <;> simp_all
theorem setGo_lay {x y : STri} {l : List STri} (h : ordPair.lt (rkey x) (rkey y) = true) : setGo ordPair rkey x false (y :: l) = x :: y :: setGo ordPair rkey x true l := by
  rw [setGo, if_neg (ordPair.ne h).symm, if_pos ⟨rfl, h⟩]
theorem app2 {α : Type} (l : List α) (x y : α) (r : List α) : l ++ x :: y :: r = (l ++ [x] ++ [y]) ++ r := by simp
theorem app1 {α : Type} (l : List α) (x : α) (r : List α) : l ++ x :: r = (l ++ [x]) ++ r := by simp
end Go.Sl
namespace Go.Proofs.Ytdcfojohgcmpcaa
open Go.RowKit Go.Sl
set_option maxHeartbeats 2000000
set_option maxRecDepth 100000
theorem refSet_calls (b : Nat) (l : List STri) (c y n : Int) (h : Hp) (w : World) (hs : h.sub w) (hp : Pt kReg 87 h b l) (hl : l.length ≤ 1000) (hr : RisingR l) :
    Calls Try.prog 95 #[.pointer (some ⟨b, 0, none⟩), .int .i64 c, .int .i64 y, .int .i64 n] w fun e w' => ∃ h', e = .returned (.tuple #[]) ∧ Pt kReg 87 h' b (setB l c y n) ∧ Upd h h' w w' := by
  obtain ⟨cs, hb, A, ca, rfl, ow⟩ := hp
  have hbw := hs b _ hb
  have hlt := hs.lt (b := b) (by simp [hb])
  have hc : w.cell? ⟨b, 0, none⟩ = some (.slice A l.length ca) := by rw [cell_of_row w b 0 _ _ _ hbw]; rfl
  have hf : w.frozen? ⟨b, 0, none⟩ = false := frozen_of_row w b 0 _ _ hbw
  have sx := ow.sl
  have hd := hs.del b
  have m1 := sx.small
  obtain ⟨G, hG⟩ : ∃ G : Bool → List STri → List STri, G = setGo ordPair rkey ⟨c, y, n⟩ := ⟨_, rfl⟩
  have HG : Hid (setB l c y n = G (decide (n = 0)) l) := by unfold Hid; rw [hG, setGo_setB hr]
  have HE : ∀ d : Bool, Hid (G d [] = if d = true then [] else [⟨c, y, n⟩]) := fun d => by rw [hG]; exact rfl
  have GS : ∀ {x : STri} {d : Bool} {r : List STri}, x.a = c → x.b = y → G d (x :: r) = G d r := fun h1 h2 => by rw [hG]; exact setGo_skip (by simp [rkey, h1, h2])
  have GK : ∀ {x : STri} {d : Bool} {r : List STri}, ¬(x.a = c ∧ x.b = y) → (d = true ∨ ¬(c < x.a ∨ c = x.a ∧ y < x.b)) → G d (x :: r) = x :: G d r := fun h1 h2 => by
    rw [hG]; exact setGo_keep (by simpa [rkey] using h1) (h2.imp id fun h => by simpa [ordPair, rkey] using h)
  have GL : ∀ {x : STri} {r : List STri}, (c < x.a ∨ c = x.a ∧ y < x.b) → G false (x :: r) = ⟨c, y, n⟩ :: x :: G true r := fun h => by rw [hG]; exact setGo_lay (by simpa [ordPair, rkey] using h)
  have GLen : ∀ (d : Bool) (r : List STri), (G d r).length ≤ r.length + 1 := fun d r => by
    rw [hG]; clear hG HG HE GS GK GL
    induction r generalizing d with
    | nil => cases d <;> simp [setGo]
    | cons z r ih =>
      unfold setGo
      have i1 := ih d
      have i2 := ih true
      split
      · simp; omega
      · split
        · have : (setGo ordPair rkey ⟨c, y, n⟩ true r).length ≤ r.length := by rw [setGo_true]; exact del_le _ _
          simp; omega
        · simp; omega
  clear hG
  have hn0 : (n == 0) = decide (n = 0) := by rw [Bool.eq_iff_iff]; simp
  go_enter Try.func95, Try.ntmps95
  go_wp2
  rw [hn0] at *
  generalize decide (n = 0) = d0 at *
  go_loopw [8, 9, 19] (fun v d i wr => ∃ (j cap m : Nat) (dn : Bool) (C : Option Addr) (h' : Hp) (os : List STri), j ≤ l.length ∧ i = .int .i64 j ∧ d = .bool dn ∧ v = .slice C m cap ∧ Hid (os.length = m) ∧ Hid (G d0 l = os ++ G dn (l.drop j)) ∧ m ≤ 2 * j ∧ Ow kTri h' C cap os ∧ Upd Hp.none h' w wr) (fun _ _ i _ => l.length - (intOf i).toNat)
  case atStart => exact ⟨0, 0, 0, d0, none, Hp.none, [], by omega, rfl, rfl, rfl, rfl, by unfold Hid; simp, by omega, Ow.none _ _, Upd.of_below (Below.refl _ _)⟩
  case round =>
    obtain ⟨j, cap, m, dn, C, h', os, hj, rfl, rfl, rfl, hm, hg, hm2, ho, hu⟩ := hrel
    by_cases hlt2 : j < l.length
    · obtain ⟨x, hx⟩ := some_of_lt hlt2
      obtain ⟨b1, o1, rfl, c1, c2, c3⟩ := sx.tri (hd.of_below hu.below) hx
      have i1 : (0 : Int) ≤ (j : Int) := by omega
      have i2 : (j : Int) < (l.length : Int) := by omega
      have HD : Hid (G d0 l = os ++ G dn (x :: l.drop (j + 1))) := by unfold Hid; rw [hg.out, drop_next hx]
      clear hg
      by_cases hk : x.a = c ∧ x.b = y
      · have HN := Lib.hid (HD.out.trans (by rw [GS hk.1 hk.2]))
        have t1 : (x.a == c) = true := by simpa using hk.1
        have t2 : (x.b == y) = true := by simpa using hk.2
        clear hk GS GK GL HD HE GLen
        go_wp2
        go_roundw
        case rel => exact ⟨j + 1, cap, m, dn, C, h', os, by omega, by go_num, rfl, rfl, hm, HN, by omega, ho, hu.after (by repeat (first | exact Below.refl _ _ | apply Below.drew | refine Below.alloc ?_ (by simp) _))⟩
        case measure => simp [intOf]; omega
      · cases dn with
        | true =>
          by_cases ha : x.a = c
          · have hbb : x.b ≠ y := fun e => hk ⟨ha, e⟩
            have t1 : (x.a == c) = true := by simpa using ha
            have t2 : (x.b == y) = false := by simpa using hbb
            have HN : Hid (G d0 l = (os ++ [x]) ++ G true (l.drop (j + 1))) := by unfold Hid; rw [HD.out, GK hk (.inl rfl), app1]
            clear ha hbb
            clear hk GS GK GL HD HE GLen
            go_wp2_with (at_builtin; refine wpList_app1f (h := h') (xs := os) (y := x) Try.underlying77 info_bucket (by rfl) (by rfl) rfl m 1 (by rfl) (by rfl) hm.out ho (hu.sub.of_below (by repeat (first | exact Below.refl _ _ | apply Below.drew | refine Below.alloc ?_ (by simp) _))) (heap_new_at (by simp)) rfl (by omega) (by omega) ?_; intro C' cap' w1 h1 ho1 hu1)
            go_roundw
            case rel => exact ⟨j + 1, cap', m + 1, true, C', h1, os ++ [x], by omega, by go_num, rfl, rfl, by unfold Hid; rw [List.length_append, hm.out]; rfl, HN, by omega, ho1, hu.trans (hu1.before (by repeat (first | exact Below.refl _ _ | apply Below.drew | refine Below.alloc ?_ (by simp) _)))⟩
            case measure => simp [intOf]; omega
          · have t1 : (x.a == c) = false := by simpa using ha
            have HN : Hid (G d0 l = (os ++ [x]) ++ G true (l.drop (j + 1))) := by unfold Hid; rw [HD.out, GK hk (.inl rfl), app1]
            clear ha
            clear hk GS GK GL HD HE GLen
            go_wp2_with (at_builtin; refine wpList_app1f (h := h') (xs := os) (y := x) Try.underlying77 info_bucket (by rfl) (by rfl) rfl m 1 (by rfl) (by rfl) hm.out ho (hu.sub.of_below (by repeat (first | exact Below.refl _ _ | apply Below.drew | refine Below.alloc ?_ (by simp) _))) (heap_new_at (by simp)) rfl (by omega) (by omega) ?_; intro C' cap' w1 h1 ho1 hu1)
            go_roundw
            case rel => exact ⟨j + 1, cap', m + 1, true, C', h1, os ++ [x], by omega, by go_num, rfl, rfl, by unfold Hid; rw [List.length_append, hm.out]; rfl, HN, by omega, ho1, hu.trans (hu1.before (by repeat (first | exact Below.refl _ _ | apply Below.drew | refine Below.alloc ?_ (by simp) _)))⟩
            case measure => simp [intOf]; omega
        | false =>
          by_cases hlt3 : c < x.a ∨ c = x.a ∧ y < x.b
          · by_cases ha : x.a = c
            · have hbb : y < x.b := by omega
              have t1 : (x.a == c) = true := by simpa using ha
              have t2 : (x.b == y) = false := by simp; omega
              have t3 : decide (c < x.a) = false := by simp; omega
              have t4 : decide (y < x.b) = true := by simpa using hbb
              have HN : Hid (G d0 l = (os ++ [⟨c, y, n⟩] ++ [x]) ++ G true (l.drop (j + 1))) := by unfold Hid; rw [HD.out, GL hlt3, app2]
              clear ha hbb hlt3
              clear hk GS GK GL HD HE GLen
              have hm3 : Hid ((os ++ [(⟨c, y, n⟩ : STri)]).length = m + 1) := by unfold Hid; rw [List.length_append, hm.out]; rfl
              have hfree : Hid (h' wr.heap.size = none) := hu.sub.free (Nat.le_refl _)
              go_wp2_with (first | (at_builtin; refine wpList_app1f (h := h') (xs := os) (y := ⟨c, y, n⟩) Try.underlying77 info_bucket (by rfl) (by rfl) rfl m 1 (by rfl) (by rfl) hm.out ho (hu.sub.of_below (by repeat (first | exact Below.refl _ _ | apply Below.drew | refine Below.alloc ?_ (by simp) _))) (heap_new_at (by simp)) rfl (by omega) (by omega) ?_; intro C' cap' w1 h1 ho1 hu1; have k0 : w1.cell? ⟨wr.heap.size, 0, none⟩ = some (.int .i64 x.a) := hu1.cell (by simp) hfree.out; have k1 : w1.cell? ⟨wr.heap.size, 1, none⟩ = some (.int .i64 x.b) := hu1.cell (by simp) hfree.out; have k2 : w1.cell? ⟨wr.heap.size, 2, none⟩ = some (.int .i64 x.c) := hu1.cell (by simp) hfree.out) | (at_builtin; refine wpList_app1f (h := h1) (xs := os ++ [⟨c, y, n⟩]) (y := x) Try.underlying77 info_bucket (by rfl) (by rfl) rfl (m + 1) 1 (by rfl) (by rfl) hm3.out ho1 (hu1.sub.of_below (by repeat (first | exact Below.refl _ _ | apply Below.drew | refine Below.alloc ?_ (by simp) _))) (heap_new_at (by simp)) rfl (by omega) (by omega) ?_; intro C2 cap2 w2 h2 ho2 hu2))
              go_roundw
              case rel => exact ⟨j + 1, cap2, m + 1 + 1, true, C2, h2, os ++ [⟨c, y, n⟩] ++ [x], by omega, by go_num, rfl, rfl, by unfold Hid; rw [List.length_append, hm3.out]; rfl, HN, by omega, ho2, (hu.trans (hu1.before (by repeat (first | exact Below.refl _ _ | apply Below.drew | refine Below.alloc ?_ (by simp) _)))).trans (hu2.before (by repeat (first | exact Below.refl _ _ | apply Below.drew | refine Below.alloc ?_ (by simp) _)))⟩
              case measure => simp [intOf]; omega
            · have hbb : c < x.a := by omega
              have t1 : (x.a == c) = false := by simpa using ha
              have t3 : decide (c < x.a) = true := by simpa using hbb
              have HN : Hid (G d0 l = (os ++ [⟨c, y, n⟩] ++ [x]) ++ G true (l.drop (j + 1))) := by unfold Hid; rw [HD.out, GL hlt3, app2]
              clear ha hbb hlt3
              clear hk GS GK GL HD HE GLen
              have hm3 : Hid ((os ++ [(⟨c, y, n⟩ : STri)]).length = m + 1) := by unfold Hid; rw [List.length_append, hm.out]; rfl
              have hfree : Hid (h' wr.heap.size = none) := hu.sub.free (Nat.le_refl _)
              go_wp2_with (first | (at_builtin; refine wpList_app1f (h := h') (xs := os) (y := ⟨c, y, n⟩) Try.underlying77 info_bucket (by rfl) (by rfl) rfl m 1 (by rfl) (by rfl) hm.out ho (hu.sub.of_below (by repeat (first | exact Below.refl _ _ | apply Below.drew | refine Below.alloc ?_ (by simp) _))) (heap_new_at (by simp)) rfl (by omega) (by omega) ?_; intro C' cap' w1 h1 ho1 hu1; have k0 : w1.cell? ⟨wr.heap.size, 0, none⟩ = some (.int .i64 x.a) := hu1.cell (by simp) hfree.out; have k1 : w1.cell? ⟨wr.heap.size, 1, none⟩ = some (.int .i64 x.b) := hu1.cell (by simp) hfree.out; have k2 : w1.cell? ⟨wr.heap.size, 2, none⟩ = some (.int .i64 x.c) := hu1.cell (by simp) hfree.out) | (at_builtin; refine wpList_app1f (h := h1) (xs := os ++ [⟨c, y, n⟩]) (y := x) Try.underlying77 info_bucket (by rfl) (by rfl) rfl (m + 1) 1 (by rfl) (by rfl) hm3.out ho1 (hu1.sub.of_below (by repeat (first | exact Below.refl _ _ | apply Below.drew | refine Below.alloc ?_ (by simp) _))) (heap_new_at (by simp)) rfl (by omega) (by omega) ?_; intro C2 cap2 w2 h2 ho2 hu2))
              go_roundw
              case rel => exact ⟨j + 1, cap2, m + 1 + 1, true, C2, h2, os ++ [⟨c, y, n⟩] ++ [x], by omega, by go_num, rfl, rfl, by unfold Hid; rw [List.length_append, hm3.out]; rfl, HN, by omega, ho2, (hu.trans (hu1.before (by repeat (first | exact Below.refl _ _ | apply Below.drew | refine Below.alloc ?_ (by simp) _)))).trans (hu2.before (by repeat (first | exact Below.refl _ _ | apply Below.drew | refine Below.alloc ?_ (by simp) _)))⟩
              case measure => simp [intOf]; omega
          · by_cases ha : x.a = c
            · have hbb : x.b < y := by
                have : x.b ≠ y := fun e => hk ⟨ha, e⟩
                omega
              have t1 : (x.a == c) = true := by simpa using ha
              have t2 : (x.b == y) = false := by simp; omega
              have t3 : decide (c < x.a) = false := by simp; omega
              have t4 : decide (y < x.b) = false := by simp; omega
              have HN : Hid (G d0 l = (os ++ [x]) ++ G false (l.drop (j + 1))) := by unfold Hid; rw [HD.out, GK hk (.inr hlt3), app1]
              clear ha hbb hlt3
              clear hk GS GK GL HD HE GLen
              go_wp2_with (at_builtin; refine wpList_app1f (h := h') (xs := os) (y := x) Try.underlying77 info_bucket (by rfl) (by rfl) rfl m 1 (by rfl) (by rfl) hm.out ho (hu.sub.of_below (by repeat (first | exact Below.refl _ _ | apply Below.drew | refine Below.alloc ?_ (by simp) _))) (heap_new_at (by simp)) rfl (by omega) (by omega) ?_; intro C' cap' w1 h1 ho1 hu1)
              go_roundw
              case rel => exact ⟨j + 1, cap', m + 1, false, C', h1, os ++ [x], by omega, by go_num, rfl, rfl, by unfold Hid; rw [List.length_append, hm.out]; rfl, HN, by omega, ho1, hu.trans (hu1.before (by repeat (first | exact Below.refl _ _ | apply Below.drew | refine Below.alloc ?_ (by simp) _)))⟩
              case measure => simp [intOf]; omega
            · have hbb : x.a < c := by omega
              have t1 : (x.a == c) = false := by simpa using ha
              have t3 : decide (c < x.a) = false := by simp; omega
              have HN : Hid (G d0 l = (os ++ [x]) ++ G false (l.drop (j + 1))) := by unfold Hid; rw [HD.out, GK hk (.inr hlt3), app1]
              clear ha hbb hlt3
              clear hk GS GK GL HD HE GLen
              go_wp2_with (at_builtin; refine wpList_app1f (h := h') (xs := os) (y := x) Try.underlying77 info_bucket (by rfl) (by rfl) rfl m 1 (by rfl) (by rfl) hm.out ho (hu.sub.of_below (by repeat (first | exact Below.refl _ _ | apply Below.drew | refine Below.alloc ?_ (by simp) _))) (heap_new_at (by simp)) rfl (by omega) (by omega) ?_; intro C' cap' w1 h1 ho1 hu1)
              go_roundw
              case rel => exact ⟨j + 1, cap', m + 1, false, C', h1, os ++ [x], by omega, by go_num, rfl, rfl, by unfold Hid; rw [List.length_append, hm.out]; rfl, HN, by omega, ho1, hu.trans (hu1.before (by repeat (first | exact Below.refl _ _ | apply Below.drew | refine Below.alloc ?_ (by simp) _)))⟩
              case measure => simp [intOf]; omega
    · obtain rfl : j = l.length := by omega
      rw [List.drop_length] at hg
      have hcr := (hu.below.cell (p := ⟨b, 0, none⟩) hlt).trans hc
      have hfr := (hu.below.frozen (p := ⟨b, 0, none⟩) hlt).trans hf
      have hfree : Hid (h' b = none) := hu.new_none hlt
      cases dn with
      | true =>
        have HN : Hid (setB l c y n = os) := by unfold Hid; rw [HG.out, hg.out, (HE true).out, if_pos rfl, List.append_nil]
        clear GS GK GL HE GLen hg HG
        go_wp2
        obtain ⟨UF, hn3⟩ := Upd.field (v := .slice C m cap) 0 hb hs (Hp.none_le _) hu
        go_end0
        exact ⟨rfl, _, ⟨_, Hp.put_self, C, cap, by rw [HN.out, hm.out]; rfl, by rw [Hp.put_del hn3, HN.out]; exact ho⟩, UF⟩
      | false =>
        have HN : Hid (setB l c y n = os ++ [⟨c, y, n⟩]) := by unfold Hid; rw [HG.out, hg.out, (HE false).out, if_neg (by decide)]
        clear GS GK GL HE GLen hg HG
        go_wp2_with (at_builtin; refine wpList_app1f (h := h') (xs := os) (y := ⟨c, y, n⟩) Try.underlying77 info_bucket (by rfl) (by rfl) rfl m 1 (by rfl) (by rfl) hm.out ho (hu.sub.of_below (by repeat (first | exact Below.refl _ _ | apply Below.drew | refine Below.alloc ?_ (by simp) _))) (heap_new_at (by simp)) rfl (by omega) (by omega) ?_; intro C' cap' w1 h1 ho1 hu1; have g0 : w1.cell? ⟨b, 0, none⟩ = some (.slice A l.length ca) := hu1.cell ((cell_alloc (Nat.lt_of_lt_of_le hlt hu.size)).trans hcr) hfree.out; have gf : w1.frozen? ⟨b, 0, none⟩ = false := (hu1.frozen (p := ⟨b, 0, none⟩) (by simp; exact Nat.lt_of_lt_of_le hlt (Nat.le_trans hu.size (Nat.le_succ _))) hfree.out).trans ((frozen_alloc (Nat.lt_of_lt_of_le hlt hu.size)).trans hfr))
        obtain ⟨UF, hn3⟩ := Upd.field (v := .slice C' (m + 1) cap') 0 hb hs (Hp.none_le _) (hu.trans (hu1.before (by repeat (first | exact Below.refl _ _ | apply Below.drew | refine Below.alloc ?_ (by simp) _))))
        go_end0
        exact ⟨rfl, _, ⟨_, Hp.put_self, C', cap', by rw [HN.out, List.length_append, hm.out]; rfl, by rw [Hp.put_del hn3, HN.out]; exact ho1⟩, UF⟩
end Go.Proofs.Ytdcfojohgcmpcaa
end
section
/- The walks of the reference's register: Copy, Move. -/
namespace Go.Proofs.Ytdcfojohgcmpcaa
open Go.RowKit Go.Sl
set_option maxHeartbeats 2000000
set_option maxRecDepth 100000
theorem refCopyReg_calls (b : Nat) (l : List STri) (h : Hp) (w : World) (hs : h.sub w) (hp : Pt kReg 87 h b l) (hl : l.length ≤ 1000) :
    Calls Try.prog 94 #[.pointer (some ⟨b, 0, none⟩)] w fun e w' => ∃ h' b', e = .returned (.pointer (some ⟨b', 0, none⟩)) ∧ Pt kReg 87 h' b' l ∧ Upd Hp.none h' w w' := by
  obtain ⟨A, ca, hc, sx⟩ := hp.reg hs
  go_enter Try.func94, Try.ntmps94
  go_wp2_with (at_builtin; refine wpList_clone (B := none) Try.underlying77 info_bucket (by rfl) (by rfl) rfl l.length ca (by rfl) (by rfl) rfl kTri_flat sx hs (by omega) (by omega) ?_; intro C' cap' w1 h1 ho1 hu1)
  go_ret
  exact ⟨_, _, rfl, ⟨_, Hp.put_self, C', cap', rfl, by rw [Hp.put_del (hu1.sub.free (Nat.le_refl _))]; exact ho1⟩, hu1.put⟩
def MoveAns (b : Nat) (l : List STri) (c y n : Int) (h : Hp) (w : World) (e : Ending) (w' : World) : Prop :=
  ∃ h', e = .returned (.int .i64 (moveE l c y n)) ∧ Pt kReg 87 h' b (moveR l c y n) ∧ Upd h h' w w'
theorem MoveAns.no {b : Nat} {l : List STri} {c y n : Int} {h : Hp} {w w' : World} {E : Int} (hE : moveE l c y n = E) (h0 : E ≠ 0) (hp : Pt kReg 87 h b l) (hs : h.sub w) (hb : Below w.heap.size w w') :
    MoveAns b l c y n h w (.returned (.int .i64 E)) w' :=
  ⟨h, by rw [hE], by unfold moveR; rw [hE, if_neg h0]; exact hp, ⟨hb.os, hb.tape, hb.output, hb.size, fun q hq _ => hb.block q hq, hs.of_below hb, fun _ hq => .inl hq⟩⟩
theorem refMove_calls (b : Nat) (l : List STri) (c y n : Int) (h : Hp) (w : World) (hs : h.sub w) (hp : Pt kReg 87 h b l) (g : GoodR l) :
    Calls Try.prog 44 #[.pointer (some ⟨b, 0, none⟩), .int .i64 c, .int .i64 y, .int .i64 n] w (MoveAns b l c y n h w) := by
  obtain ⟨A, ca, hc, sx⟩ := hp.reg hs
  have hlt := World.block_lt_of_cell? w _ hc
  have hlen := g.len
  have BC := fun W : World => refBucket_calls c y W
  have MC := fun W : World => refMoney_calls n W
  cases hb : bucketOk c y with
  | false =>
    have HE : Hid (moveE l c y n = 1) := by unfold Hid moveE; rw [if_pos (by simp [hb])]
    rw [hb] at BC
    clear hb MC
    go_enter Try.func44, Try.ntmps44
    go_wp2_with (go_at_call 93; refine (BC _).mono ?_; rintro e w' ⟨rfl, rfl⟩)
    go_ret
    exact .no HE.out (by decide) hp hs (Below.refl _ _)
  | true =>
  cases hm : money n with
  | false =>
    have HE : Hid (moveE l c y n = 1) := by unfold Hid moveE; rw [if_pos (by simp [hm])]
    rw [hb] at BC
    rw [hm] at MC
    clear hb hm
    go_enter Try.func44, Try.ntmps44
    go_wp2_with (first
      | (go_at_call 93; refine (BC _).mono ?_; rintro e w' ⟨rfl, rfl⟩)
      | (go_at_call 84; refine (MC _).mono ?_; rintro e w' ⟨rfl, rfl⟩))
    go_ret
    exact .no HE.out (by decide) hp hs (Below.refl _ _)
  | true =>
  have hm' : -100000000000 ≤ n ∧ n ≤ 100000000000 := by simpa [money] using hm
  have hg := g.get c y
  have hsu := g.sum
  have GC := fun (W : World) (hW : Below w.heap.size w W) => refGet_calls b A ca l c y h W (hs.of_below hW) ((hW.cell (p := ⟨b, 0, none⟩) hlt).trans hc) sx
  have TC := fun (W : World) (hW : Below w.heap.size w W) => refTotal_calls b A ca l h W (hs.of_below hW) ((hW.cell (p := ⟨b, 0, none⟩) hlt).trans hc) sx (by omega) (mem_len g.mon)
  have CC := fun (W : World) (hW : Below w.heap.size w W) => refCopyReg_calls b l h W (hs.of_below hW) hp (by omega)
  have HM : Hid (moveE l c y n = if (money (getB l c y + n) && money (sumC l + n)) = false then 6 else if 12 < (setB l c y (getB l c y + n)).length then 5 else 0) := by
    unfold Hid moveE; rw [if_neg (by simp [hb, hm])]
  have HR : Hid (moveE l c y n = 0 → moveR l c y n = setB l c y (getB l c y + n)) := fun h => by unfold moveR; rw [if_pos h]
  have SC := fun (b' : Nat) (k : Hp) (W : World) (ks : k.sub W) (kp : Pt kReg 87 k b' l) => refSet_calls b' l c y (getB l c y + n) k W ks kp (by omega) g.rise
  rw [hb] at BC
  rw [hm] at MC
  clear hb hm
  generalize getB l c y = v at *
  generalize sumC l = s at *
  generalize setB l c y (v + n) = L at *
  have M1 := fun W : World => refMoney_calls (v + n) W
  have M2 := fun W : World => refMoney_calls (s + n) W
  cases h1 : money (v + n) with
  | false =>
    have HE : Hid (moveE l c y n = 6) := by unfold Hid; rw [HM.out, h1]; rfl
    rw [h1] at M1
    clear h1 HM HR SC M2 TC CC
    go_enter Try.func44, Try.ntmps44
    go_wp2_with fail
    refine (BC _).mono ?_
    rintro e w' ⟨rfl, rfl⟩
    go_wp2_with fail
    refine (MC _).mono ?_
    rintro e w' ⟨rfl, rfl⟩
    go_wp2_with fail
    refine (GC _ (Below.refl _ _)).mono ?_
    rintro e w1 ⟨rfl, b1⟩
    go_wp2_with fail
    refine (M1 _).mono ?_
    rintro e w' ⟨rfl, rfl⟩
    go_wp2
    go_ret
    exact .no HE.out (by decide) hp hs b1
  | true =>
  cases h2 : money (s + n) with
  | false =>
    have HE : Hid (moveE l c y n = 6) := by unfold Hid; rw [HM.out, h1, h2]; rfl
    rw [h1] at M1
    rw [h2] at M2
    clear h1 h2 HM HR SC CC
    go_enter Try.func44, Try.ntmps44
    go_wp2_with fail
    refine (BC _).mono ?_
    rintro e w' ⟨rfl, rfl⟩
    go_wp2_with fail
    refine (MC _).mono ?_
    rintro e w' ⟨rfl, rfl⟩
    go_wp2_with fail
    refine (GC _ (Below.refl _ _)).mono ?_
    rintro e w1 ⟨rfl, b1⟩
    go_wp2_with fail
    refine (M1 _).mono ?_
    rintro e w' ⟨rfl, rfl⟩
    go_wp2_with fail
    refine (TC _ b1).mono ?_
    rintro e w2 ⟨rfl, b2⟩
    have b12 := b1.trans (b2.mono b1.size)
    go_wp2_with fail
    refine (M2 _).mono ?_
    rintro e w' ⟨rfl, rfl⟩
    go_wp2
    go_ret
    exact .no HE.out (by decide) hp hs b12
  | true =>
  have HM2 : Hid (moveE l c y n = if 12 < L.length then 5 else 0) := by unfold Hid; rw [HM.out, h1, h2]; rfl
  rw [h1] at M1
  rw [h2] at M2
  clear h1 h2 HM
  go_enter Try.func44, Try.ntmps44
  go_wp2_with fail
  refine (BC _).mono ?_
  rintro e w' ⟨rfl, rfl⟩
  go_wp2_with fail
  refine (MC _).mono ?_
  rintro e w' ⟨rfl, rfl⟩
  go_wp2_with fail
  refine (GC _ (Below.refl _ _)).mono ?_
  rintro e w1 ⟨rfl, b1⟩
  go_wp2_with fail
  refine (M1 _).mono ?_
  rintro e w' ⟨rfl, rfl⟩
  go_wp2_with fail
  refine (TC _ b1).mono ?_
  rintro e w2 ⟨rfl, b2⟩
  have b12 := b1.trans (b2.mono b1.size)
  go_wp2_with fail
  refine (M2 _).mono ?_
  rintro e w' ⟨rfl, rfl⟩
  go_wp2_with fail
  refine (CC _ b12).mono ?_
  rintro e w3 ⟨h3, b3, rfl, p3, u3⟩
  have b13 := b12.trans (u3.below.mono b12.size)
  go_wp2_with fail
  refine (GC _ b13).mono ?_
  rintro e w4 ⟨rfl, b4⟩
  have b14 := b13.trans (b4.mono b13.size)
  go_wp2_with fail
  refine (SC b3 h3 w4 (u3.sub.of_below b4) p3).mono ?_
  rintro e w5 ⟨h5, rfl, ⟨cs5, k5, A5, c5, rfl, o5⟩, u5⟩
  have u35 : Upd Hp.none h5 w w5 := ((u3.before b12).after b4).trans u5
  have k5w := u35.sub _ _ k5
  have g5 : w5.cell? ⟨b3, 0, none⟩ = some (.slice A5 L.length c5) := by rw [cell_of_row w5 b3 0 _ _ _ k5w]; rfl
  clear k5w
  have m5 := o5.small
  by_cases h12 : 12 < L.length
  · have HE : Hid (moveE l c y n = 5) := by unfold Hid; rw [HM2.out, if_pos h12]
    have h12b : decide ((12 : Int) < (L.length : Int)) = true := by simp; omega
    clear h12 HR HM2
    go_wp2
    go_ret
    exact .no HE.out (by decide) hp hs u35.below
  · have HE : Hid (moveE l c y n = 0) := by unfold Hid; rw [HM2.out, if_neg h12]
    have h12b : decide ((12 : Int) < (L.length : Int)) = false := by simp; omega
    have HL := Lib.hid (HR.out HE.out)
    have gb : w5.cell? ⟨b, 0, none⟩ = some (.slice A l.length ca) := (u35.below.cell (p := ⟨b, 0, none⟩) hlt).trans hc
    obtain ⟨cs0, hb0, A0, ca0, rfl, ow0⟩ := hp
    have gf : w5.frozen? ⟨b, 0, none⟩ = false := (u35.below.frozen (p := ⟨b, 0, none⟩) hlt).trans (frozen_of_row w b 0 _ _ (hs b _ hb0))
    clear h12 HR HM2
    go_wp2
    obtain ⟨UF, hn3⟩ := Upd.field (v := .slice A5 L.length c5) 0 hb0 hs (Hp.none_le _) (u35.weaken (Hp.del_le h5 b3))
    go_ret
    exact ⟨_, by rw [HE.out]; rfl, ⟨_, Hp.put_self, A5, c5, by rw [HL.out]; rfl, by rw [Hp.put_del hn3, HL.out]; exact o5⟩, UF⟩
end Go.Proofs.Ytdcfojohgcmpcaa
end
