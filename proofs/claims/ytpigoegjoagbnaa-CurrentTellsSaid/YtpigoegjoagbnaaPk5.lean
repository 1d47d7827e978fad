/- Walks and plain facts that the laws of this seat share, part 5: contracts of functions, each said at its theorem. -/
import Derived.Test.YtpigoegjoagbnaaPk4
import Derived.WalkMore
import Derived.ScopeJumps
import Derived.Scope
import Derived.Deep.DeepCutAuto
set_option linter.all false
section
/- The walk of vintage.Expire. -/
namespace Go.Sl
open Go Go.RowKit
theorem Ow.behind {α : Type} {k : Kd α} {h : Hp} {b off cap : Nat} {xs : List α} (o : Ow k h (some ⟨b, off, .none⟩) cap xs) (n : Nat) : Ow k h (if cap = n then some ⟨b, off, .none⟩ else some ⟨b, off + n * k.size, .none⟩) (cap - n) (xs.drop n) := by
  refine ⟨by have := o.le; simp; omega, by have := o.max; omega, (by intro e; split at e <;> cases e), fun ad e hc => ?_⟩
  rw [if_neg (by omega)] at e
  cases e
  obtain ⟨b', off', cur, E, e, hb, hsz, hr⟩ := o.row _ rfl (by omega)
  cases e
  refine ⟨b, _, cur, E, rfl, hb, ?_, fun i x hx => ?_⟩
  · rw [Nat.add_assoc, ← Nat.add_mul, show n + (cap - n) = cap by omega]; exact hsz
  · rw [List.getElem?_drop] at hx
    obtain ⟨cs, hK, hcs⟩ := hr (n + i) x hx
    refine ⟨cs, hK, fun j u hu => ?_⟩
    have := hcs j u hu
    rw [Nat.add_mul] at this
    rw [← this]; congr 1; omega
end Go.Sl
namespace Go.Proofs.Ytpigoegjoagbnaa
open Go.RowKit Go.Sl Go.Sort
set_option maxHeartbeats 4000000
set_option maxRecDepth 100000
theorem vintExp_calls (b : Nat) (l : List STri) (y : Int) (h : Hp) (w : World) (hs : h.sub w) (hp : PtV h b l) (g : GoodV l) :
    Calls Try.prog 16 #[.pointer (some ⟨b, 0, none⟩), .int .i64 y] w fun e w' => ∃ h', e = .returned (.int .i64 (vGone l y)) ∧ PtV h' b (vExp l y) ∧ Upd h h' w w' := by
  have gm := g.mon
  go_enter Try.func16, Try.ntmps16
  go_wp2
  refine wp_scope_jumps 0 (fun a' w' => ∃ (k : Nat) (h' : Hp) (u2 u3 u6 u7 u8 u9 u10 u11 u12 u13 u14 u15 u16 u17 u18 u19 u20 u21 u22 u23 u24 u25 u26 u27 u28 u29 u30 u31 u32 u33 u34 u35 u36 u37 u38 u39 u40 : Value), a' = { tmps := #[.pointer (some ⟨b, 0, none⟩), .int .i64 y, u2, u3, .int .i64 0, .int .i64 (sumC (l.take k)), u6, u7, u8, u9, u10, u11, u12, u13, u14, u15, u16, u17, u18, u19, u20, u21, u22, u23, u24, u25, u26, u27, u28, u29, u30, u31, u32, u33, u34, u35, u36, u37, u38, u39, u40], defers := [] } ∧ k ≤ l.length ∧ Hid (∀ x ∈ l.take k, x.b < y) ∧ PtV h' b (l.drop k) ∧ Upd h h' w w') (fun a' _ => (sumC l - intOf (a'.tmps.getD 5 undef)).toNat) rfl ?_ ?_
  · obtain ⟨k, hk⟩ : ∃ k : Nat, k = 0 := ⟨0, rfl⟩
    have p : PtV h b (l.drop k) := by rw [hk]; exact hp
    have u := Upd.stay hs (Below.refl _ _)
    have HB : Hid (∀ x ∈ l.take k, x.b < y) := by unfold Hid; rw [hk]; simp
    have hz : sumC (l.take k) = 0 := by rw [hk]; rfl
    go_wp2
    go_step3
    obtain ⟨A', ca', hb', hc', ow', hf'⟩ := p.one u.sub
    have hfz := hf' 0
    rw [List.length_drop] at hc' hb'
    have lmo := ow'.small
    have hs0 := sumC_take_le g.lo k
    by_cases hlt : k < l.length
    · obtain ⟨x, hx⟩ := some_of_lt hlt
      have hx0 : Hid ((l.drop k)[0]? = some x) := by unfold Hid; rw [List.getElem?_drop]; exact hx.out
      obtain ⟨bx, ox, rfl, c1, c2, c3⟩ := ow'.sl.tri (u.sub.del b) hx0
      simp only [Nat.zero_mul, Nat.add_zero] at c1 c2 c3
      obtain ⟨m, hm⟩ : ∃ m, l.length - k = m + 1 := ⟨l.length - k - 1, by omega⟩
      rw [hm] at hc' hb'
      have hTk : Hid (sumC (l.take (k + 1)) = sumC (l.take k) + x.c) := by unfold Hid; rw [take_next hx, sumC_snoc]
      have hxl := g.lo x (List.mem_of_getElem? hx.out)
      have hs1 := sumC_take_le g.lo (k + 1)
      rw [hTk.out] at hs1
      have hcap : m + 1 ≤ ca' := by have := ow'.le; rw [List.length_drop, hm] at this; exact this
      have hcapI : ((m : Int) + 1) ≤ (ca' : Int) := by omega
      by_cases hy : x.b < y
      · have t1 : decide (x.b < y) = true := by simpa using hy
        have HB' : Hid (∀ z ∈ l.take (k + 1), z.b < y) := by
          intro z hz
          rw [take_next hx] at hz
          rcases List.mem_append.1 hz with hz | hz
          · exact HB.out z hz
          · simp at hz; rw [hz]; exact hy
        have ob := ow'.behind 1
        rw [List.drop_drop] at ob
        have hdl : (l.drop (k + 1)).length = m := by rw [List.length_drop]; omega
        generalize hsk : sumC (l.take k) = sk at *
        clear hy
        rcases Nat.decEq ca' 1 with hca | hca
        · rw [if_neg hca] at ob
          go_wp2
          go_step3
          have UF := fun v => (Upd.field (v := v) 0 hb' u.sub (Hp.le_refl _) (Upd.stay (u.sub.del b) (Below.refl _ _))).1
          exact ⟨rfl, ⟨k + 1, _, _, _, _, _, _, _, _, _, _, _, _, _, _, _, _, _, _, _, _, _, _, _, _, _, _, _, _, _, _, _, _, _, _, _, _, _, _, by rw [hTk.out, hz, Int.zero_add], by omega, HB', ⟨_, Hp.put_self, _, _, by rw [hdl]; rfl, by rw [Hp.put_del Hp.del_self]; exact ob⟩, u.trans (UF _)⟩⟩
        · rw [if_pos hca] at ob
          subst hca
          obtain rfl : m = 0 := by omega
          go_wp2
          go_step3
          have UF := fun v => (Upd.field (v := v) 0 hb' u.sub (Hp.le_refl _) (Upd.stay (u.sub.del b) (Below.refl _ _))).1
          exact ⟨rfl, ⟨k + 1, _, _, _, _, _, _, _, _, _, _, _, _, _, _, _, _, _, _, _, _, _, _, _, _, _, _, _, _, _, _, _, _, _, _, _, _, _, _, by rw [hTk.out, hz, Int.zero_add], by omega, HB', ⟨_, Hp.put_self, _, _, by rw [hdl]; rfl, by rw [Hp.put_del Hp.del_self]; exact ob⟩, u.trans (UF _)⟩⟩
      · have t1 : decide (x.b < y) = false := by simpa using hy
        have hd : l.drop k = x :: l.drop (k + 1) := drop_next hx
        have hv := rising_over (y := y) (x := x) (l := l.drop (k + 1)) (by rw [← hd]; exact List.Pairwise.sublist (List.drop_sublist k l) g.rise) hy
        rw [← hd] at hv
        have hsplit := List.take_append_drop k l
        have hg : Hid (vGone l y = sumC (l.take k)) := by
          unfold Hid vGone
          conv => lhs; rw [← hsplit]
          rw [List.filter_append, hv.1, List.append_nil, List.filter_eq_self.2 fun z hz => by simpa [overV] using HB.out z hz]
        have he : Hid (vExp l y = l.drop k) := by
          unfold Hid vExp
          conv => lhs; rw [← hsplit]
          rw [List.filter_append, hv.2, List.filter_eq_nil_iff.2 fun z hz => by simpa [overV] using HB.out z hz]; rfl
        clear hy hv hd hsplit
        go_wp2
        simp only [Exit.jump]
        go_ret
        exact ⟨_, by rw [hg.out, hz]; rfl, by rw [he.out]; exact p, u⟩
    · have hd : l.drop k = [] := List.drop_eq_nil_of_le (by omega)
      have hsplit := List.take_append_drop k l
      rw [hd, List.append_nil] at hsplit
      have hm : l.length - k = 0 := by omega
      rw [hm] at hc' hb'
      have hg : Hid (vGone l y = sumC (l.take k)) := by
        unfold Hid vGone
        conv => lhs; rw [← hsplit]
        rw [List.filter_eq_self.2 fun z hz => by simpa [overV] using HB.out z hz]
      have he : Hid (vExp l y = l.drop k) := by
        unfold Hid vExp
        conv => lhs; rw [← hsplit]
        rw [hd, List.filter_eq_nil_iff.2 fun z hz => by simpa [overV] using HB.out z hz]
      clear hd hsplit
      go_wp2
      simp only [Exit.jump]
      go_ret
      exact ⟨_, by rw [hg.out, hz]; rfl, by rw [he.out]; exact p, u⟩

  · rintro a' w' ⟨k, h', u2, u3, u6, u7, u8, u9, u10, u11, u12, u13, u14, u15, u16, u17, u18, u19, u20, u21, u22, u23, u24, u25, u26, u27, u28, u29, u30, u31, u32, u33, u34, u35, u36, u37, u38, u39, u40, rfl, hk, HB, p, u⟩
    obtain ⟨A', ca', hb', hc', ow', hf'⟩ := p.one u.sub
    have hfz := hf' 0
    rw [List.length_drop] at hc' hb'
    have lmo := ow'.small
    have hs0 := sumC_take_le g.lo k
    by_cases hlt : k < l.length
    · obtain ⟨x, hx⟩ := some_of_lt hlt
      have hx0 : Hid ((l.drop k)[0]? = some x) := by unfold Hid; rw [List.getElem?_drop]; exact hx.out
      obtain ⟨bx, ox, rfl, c1, c2, c3⟩ := ow'.sl.tri (u.sub.del b) hx0
      simp only [Nat.zero_mul, Nat.add_zero] at c1 c2 c3
      obtain ⟨m, hm⟩ : ∃ m, l.length - k = m + 1 := ⟨l.length - k - 1, by omega⟩
      rw [hm] at hc' hb'
      have hTk : Hid (sumC (l.take (k + 1)) = sumC (l.take k) + x.c) := by unfold Hid; rw [take_next hx, sumC_snoc]
      have hxl := g.lo x (List.mem_of_getElem? hx.out)
      have hs1 := sumC_take_le g.lo (k + 1)
      rw [hTk.out] at hs1
      have hcap : m + 1 ≤ ca' := by have := ow'.le; rw [List.length_drop, hm] at this; exact this
      have hcapI : ((m : Int) + 1) ≤ (ca' : Int) := by omega
      by_cases hy : x.b < y
      · have t1 : decide (x.b < y) = true := by simpa using hy
        have HB' : Hid (∀ z ∈ l.take (k + 1), z.b < y) := by
          intro z hz
          rw [take_next hx] at hz
          rcases List.mem_append.1 hz with hz | hz
          · exact HB.out z hz
          · simp at hz; rw [hz]; exact hy
        have ob := ow'.behind 1
        rw [List.drop_drop] at ob
        have hdl : (l.drop (k + 1)).length = m := by rw [List.length_drop]; omega
        generalize hsk : sumC (l.take k) = sk at *
        clear hy
        rcases Nat.decEq ca' 1 with hca | hca
        · rw [if_neg hca] at ob
          go_wp2
          go_step3
          have UF := fun v => (Upd.field (v := v) 0 hb' u.sub (Hp.le_refl _) (Upd.stay (u.sub.del b) (Below.refl _ _))).1
          exact ⟨rfl, ⟨k + 1, _, _, _, _, _, _, _, _, _, _, _, _, _, _, _, _, _, _, _, _, _, _, _, _, _, _, _, _, _, _, _, _, _, _, _, _, _, _, by rw [hTk.out], by omega, HB', ⟨_, Hp.put_self, _, _, by rw [hdl]; rfl, by rw [Hp.put_del Hp.del_self]; exact ob⟩, u.trans (UF _)⟩, by simp [intOf]; omega⟩
        · rw [if_pos hca] at ob
          subst hca
          obtain rfl : m = 0 := by omega
          go_wp2
          go_step3
          have UF := fun v => (Upd.field (v := v) 0 hb' u.sub (Hp.le_refl _) (Upd.stay (u.sub.del b) (Below.refl _ _))).1
          exact ⟨rfl, ⟨k + 1, _, _, _, _, _, _, _, _, _, _, _, _, _, _, _, _, _, _, _, _, _, _, _, _, _, _, _, _, _, _, _, _, _, _, _, _, _, _, by rw [hTk.out], by omega, HB', ⟨_, Hp.put_self, _, _, by rw [hdl]; rfl, by rw [Hp.put_del Hp.del_self]; exact ob⟩, u.trans (UF _)⟩, by simp [intOf]; omega⟩
      · have t1 : decide (x.b < y) = false := by simpa using hy
        have hd : l.drop k = x :: l.drop (k + 1) := drop_next hx
        have hv := rising_over (y := y) (x := x) (l := l.drop (k + 1)) (by rw [← hd]; exact List.Pairwise.sublist (List.drop_sublist k l) g.rise) hy
        rw [← hd] at hv
        have hsplit := List.take_append_drop k l
        have hg : Hid (vGone l y = sumC (l.take k)) := by
          unfold Hid vGone
          conv => lhs; rw [← hsplit]
          rw [List.filter_append, hv.1, List.append_nil, List.filter_eq_self.2 fun z hz => by simpa [overV] using HB.out z hz]
        have he : Hid (vExp l y = l.drop k) := by
          unfold Hid vExp
          conv => lhs; rw [← hsplit]
          rw [List.filter_append, hv.2, List.filter_eq_nil_iff.2 fun z hz => by simpa [overV] using HB.out z hz]; rfl
        clear hy hv hd hsplit
        go_wp2
        simp only [Exit.jump]
        go_ret
        exact ⟨_, by rw [hg.out]; rfl, by rw [he.out]; exact p, u⟩
    · have hd : l.drop k = [] := List.drop_eq_nil_of_le (by omega)
      have hsplit := List.take_append_drop k l
      rw [hd, List.append_nil] at hsplit
      have hm : l.length - k = 0 := by omega
      rw [hm] at hc' hb'
      have hg : Hid (vGone l y = sumC (l.take k)) := by
        unfold Hid vGone
        conv => lhs; rw [← hsplit]
        rw [List.filter_eq_self.2 fun z hz => by simpa [overV] using HB.out z hz]
      have he : Hid (vExp l y = l.drop k) := by
        unfold Hid vExp
        conv => lhs; rw [← hsplit]
        rw [hd, List.filter_eq_nil_iff.2 fun z hz => by simpa [overV] using HB.out z hz]
      clear hd hsplit
      go_wp2
      simp only [Exit.jump]
      go_ret
      exact ⟨_, by rw [hg.out]; rfl, by rw [he.out]; exact p, u⟩

end Go.Proofs.Ytpigoegjoagbnaa
end
section
/- The calls of chapter 13 in a body's own memory; law13.wakes. -/
namespace Go.Proofs.Ytpigoegjoagbnaa
open Go.RowKit Go.Sl
set_option maxHeartbeats 1000000
set_option maxRecDepth 100000
structure Vnt (h : Hp) (b : Nat) (l : List STri) : Prop where
  pt : PtV h b l
  good : GoodV l
section
variable {w0 w : World} {L : List Hp} {h : Hp} {b : Nat} {l : List STri}
theorem Vnt.new (E : Env w0 w L) : Calls Try.prog 12 #[] w fun e w' => ∃ h b, e = .returned (.pointer (some ⟨b, 0, none⟩)) ∧ Vnt h b [] ∧ Env w0 w' (L ++ [h]) :=
  (vintNew_calls w).mono fun _ _ ⟨h, b, he, hp, u⟩ => ⟨h, b, he, ⟨hp, .nil⟩, E.new u⟩
theorem Vnt.clone (S : Vnt h b l) (E : Env w0 w L) (i : Nat) (hi : L[i]? = some h) :
    Calls Try.prog 22 #[.pointer (some ⟨b, 0, none⟩)] w fun e w' => ∃ h' b', e = .returned (.pointer (some ⟨b', 0, none⟩)) ∧ Vnt h' b' l ∧ Env w0 w' (L ++ [h']) :=
  (vintClone_calls b l h w (E.sub i hi) S.pt (by have := S.good.len; omega)).mono fun _ _ ⟨h', b', he, hp', u⟩ => ⟨h', b', he, ⟨hp', S.good⟩, E.new u⟩
theorem Vnt.rows (S : Vnt h b l) (E : Env w0 w L) (i : Nat) (hi : L[i]? = some h) (n : Nat) (hn : l.length = n) :
    Calls Try.prog 15 #[.pointer (some ⟨b, 0, none⟩)] w fun e w' => ∃ C cap h', e = .returned (.slice C n cap) ∧ Ow kTri h' C cap l ∧ Env w0 w' (L ++ [h']) := by
  subst hn
  exact (vintRows_calls b l h w (E.sub i hi) S.pt (by have := S.good.len; omega)).mono fun _ _ ⟨C, cap, h', he, ho, u⟩ => ⟨C, cap, h', he, ho, E.new u⟩
theorem Vnt.left (S : Vnt h b l) (E : Env w0 w L) (i : Nat) (hi : L[i]? = some h) {v : Int} (hv : sumC l = v) :
    Calls Try.prog 19 #[.pointer (some ⟨b, 0, none⟩)] w fun e w' => e = .returned (.int .i64 v) ∧ Env w0 w' L := by
  subst hv
  exact (vintLeft_calls b l h w (E.sub i hi) S.pt (by have := S.good.len; omega) (fun x hx => by have := S.good.lo x hx; have := le_sumC S.good.lo hx; have := S.good.mon; omega)).mono fun _ _ ⟨he, hb⟩ => ⟨he, E.below hb⟩
theorem Vnt.add (S : Vnt h b l) (E : Env w0 w L) (i : Nat) (hi : L[i]? = some h) (o x n : Int) {q : Int} {ys : List STri} (hE : vAddE l o x n = q ∧ vAdd l o x n = ys) :
    Calls Try.prog 14 #[.pointer (some ⟨b, 0, none⟩), .int .i64 o, .int .i64 x, .int .i64 n] w fun e w' => ∃ h', e = .returned (.int .i64 q) ∧ Vnt h' b ys ∧ Env w0 w' (L.set i h') := by
  obtain ⟨h1, h2⟩ := hE
  subst h1 h2
  exact (vintAdd_calls b l o x n h w (E.sub i hi) S.pt S.good).mono fun _ _ ⟨h', he, hp', u⟩ => ⟨h', he, ⟨hp', S.good.add o x n⟩, E.upd i hi u⟩
theorem Vnt.exp (S : Vnt h b l) (E : Env w0 w L) (i : Nat) (hi : L[i]? = some h) (y : Int) {q : Int} {ys : List STri} (hE : vGone l y = q ∧ vExp l y = ys) :
    Calls Try.prog 16 #[.pointer (some ⟨b, 0, none⟩), .int .i64 y] w fun e w' => ∃ h', e = .returned (.int .i64 q) ∧ Vnt h' b ys ∧ Env w0 w' (L.set i h') := by
  obtain ⟨h1, h2⟩ := hE
  subst h1 h2
  exact (vintExp_calls b l y h w (E.sub i hi) S.pt S.good).mono fun _ _ ⟨h', he, hp', u⟩ => ⟨h', he, ⟨hp', S.good.exp y⟩, E.upd i hi u⟩
theorem Vnt.take (S : Vnt h b l) (E : Env w0 w L) (i : Nat) (hi : L[i]? = some h) {U : Option Addr} {cu : Nat} {us : List Int} {k : Hp} (ks : k.sub w) (su : Sl kInt k U cu us) (hz : ∀ u ∈ us, I64 u) (n : Nat) (hn : us.length = n) {q : Int} {ys : List STri} (hE : vTakeE l us = q ∧ vTake l us = ys) :
    Calls Try.prog 20 #[.pointer (some ⟨b, 0, none⟩), .slice U n cu] w fun e w' => ∃ h', e = .returned (.int .i64 q) ∧ Vnt h' b ys ∧ Env w0 w' (L.set i h') := by
  obtain ⟨h1, h2⟩ := hE
  subst h1 h2 hn
  exact (vintTake_calls b l h w (E.sub i hi) S.pt S.good U cu us k ks su hz).mono fun _ _ ⟨h', he, hp', u⟩ => ⟨h', he, ⟨hp', S.good.take us⟩, E.upd i hi u⟩
end
theorem wakes13 (w : World) : Calls Try.prog 18 #[] w fun e w' => e = .returned (.bool true) ∧ Below w.heap.size w w' := by
  have E0 := Env.start w
  have H1 : Hid (vAddE [] 3 8 100 = 0 ∧ vAdd [] 3 8 100 = [⟨3, 8, 100⟩]) := by unfold Hid; decide
  have H2 : Hid (sumC [⟨3, 8, 100⟩] = 100) := rfl
  have H3 : Hid (vGone [⟨3, 8, 100⟩] 9 = 100 ∧ vExp [⟨3, 8, 100⟩] 9 = []) := by unfold Hid; decide
  go_enter Try.func18, Try.ntmps18
  go_wp2_with fail
  refine (Vnt.new E0).mono ?_
  rintro e w1 ⟨h1, c, rfl, S1, E1⟩
  try simp at E1
  go_wp2_with fail
  refine (Vnt.left S1 E1 0 rfl (v := 0) rfl).mono ?_
  rintro e w2 ⟨rfl, E2⟩
  try simp at E2
  go_wp2_with fail
  refine (Vnt.add S1 E2 0 rfl 3 8 100 H1.out).mono ?_
  rintro e w3 ⟨h3, rfl, S3, E3⟩
  try simp at E3
  go_wp2_with fail
  refine (Vnt.left S3 E3 0 rfl H2.out).mono ?_
  rintro e w4 ⟨rfl, E4⟩
  try simp at E4
  go_wp2_with fail
  refine (Vnt.exp S3 E4 0 rfl 9 H3.out).mono ?_
  rintro e w5 ⟨h5, rfl, S5, E5⟩
  try simp at E5
  go_wp2
  go_ret
  exact ⟨rfl, E5.low⟩
end Go.Proofs.Ytpigoegjoagbnaa
end
section
/- The walk of current.Tax: what has no tax. -/
namespace Go.Proofs.Ytpigoegjoagbnaa
open Go.RowKit Go.Sl
set_option maxHeartbeats 4000000
set_option maxRecDepth 100000
def noRes : Value := .agg #[.int .i64 0, .int .i64 0, .int .i64 0, .int .i64 0, .int .i64 0, .int .i64 0, .slice none 0 0]
theorem curTax_arg (b : Nat) (l : List STri) (bk pm mv most life year r : Int) (w : World) (ha : curArg most life year r = false) :
    Calls Try.prog 30 #[.pointer (some ⟨b, 0, none⟩), .int .i64 bk, .int .i64 pm, .int .i64 mv, .int .i64 most, .int .i64 life, .int .i64 year, .int .i64 r] w fun e w' => e = .returned (.tuple #[noRes, .pointer none, .int .i64 1]) ∧ Below w.heap.size w w' := by
  have R1 := fun W : World => rateRight_calls most W
  have R2 := fun W : World => rateRight_calls r W
  have R3 := fun W : World => curRight_calls life W
  have R4 := fun W : World => curRight_calls year W
  have HN : Hid (noRes = .agg #[.int .i64 0, .int .i64 0, .int .i64 0, .int .i64 0, .int .i64 0, .int .i64 0, .slice none 0 0]) := rfl
  unfold curArg at ha
  generalize rightRate most = q1 at *
  generalize rightRate r = q2 at *
  generalize decide (0 ≤ life ∧ life ≤ 99) = q3 at *
  generalize decide (0 ≤ year ∧ year ≤ 99) = q4 at *
  have E0 := (Env.start w).alloc (.cells #[.int .i64 0, .int .i64 0, .int .i64 0, .int .i64 0, .int .i64 0, .int .i64 0, .slice none 0 0] 51)
  simp at E0
  have z := fun k v (h : [Value.int .i64 0, .int .i64 0, .int .i64 0, .int .i64 0, .int .i64 0, .int .i64 0, .slice none 0 0][k]? = some v) => E0.cell 0 rfl k h
  have z0 := z 0 _ rfl
  have z1 := z 1 _ rfl
  have z2 := z 2 _ rfl
  have z3 := z 3 _ rfl
  have z4 := z 4 _ rfl
  have z5 := z 5 _ rfl
  have z6 := z 6 _ rfl
  have zf := fun k => E0.free 0 rfl k
  clear z
  rcases (show q1 = false ∨ (q1 = true ∧ q2 = false) ∨ (q1 = true ∧ q2 = true ∧ q3 = false) ∨ (q1 = true ∧ q2 = true ∧ q3 = true ∧ q4 = false) by cases q1 <;> cases q2 <;> cases q3 <;> cases q4 <;> simp_all) with rfl | ⟨rfl, rfl⟩ | ⟨rfl, rfl, rfl⟩ | ⟨rfl, rfl, rfl, rfl⟩
  · go_enter Try.func30, Try.ntmps30
    go_wp2_with fail
    refine (R1 _).mono ?_
    rintro e w' ⟨rfl, rfl⟩
    go_wp2
    exact bodyPost_ret (v := .tuple #[.agg #[.int .i64 0, .int .i64 0, .int .i64 0, .int .i64 0, .int .i64 0, .int .i64 0, .slice none 0 0], .pointer none, .int .i64 1]) (by simp [results, Try.results30, go_sem, z0, z1, z2, z3, z4, z5, z6]) rfl ⟨by rw [HN.out], E0.low⟩
  · go_enter Try.func30, Try.ntmps30
    go_wp2_with fail
    refine (R1 _).mono ?_
    rintro e w' ⟨rfl, rfl⟩
    go_wp2_with fail
    refine (R2 _).mono ?_
    rintro e w' ⟨rfl, rfl⟩
    go_wp2
    exact bodyPost_ret (v := .tuple #[.agg #[.int .i64 0, .int .i64 0, .int .i64 0, .int .i64 0, .int .i64 0, .int .i64 0, .slice none 0 0], .pointer none, .int .i64 1]) (by simp [results, Try.results30, go_sem, z0, z1, z2, z3, z4, z5, z6]) rfl ⟨by rw [HN.out], E0.low⟩
  · go_enter Try.func30, Try.ntmps30
    go_wp2_with fail
    refine (R1 _).mono ?_
    rintro e w' ⟨rfl, rfl⟩
    go_wp2_with fail
    refine (R2 _).mono ?_
    rintro e w' ⟨rfl, rfl⟩
    go_wp2_with fail
    refine (R3 _).mono ?_
    rintro e w' ⟨rfl, rfl⟩
    go_wp2
    exact bodyPost_ret (v := .tuple #[.agg #[.int .i64 0, .int .i64 0, .int .i64 0, .int .i64 0, .int .i64 0, .int .i64 0, .slice none 0 0], .pointer none, .int .i64 1]) (by simp [results, Try.results30, go_sem, z0, z1, z2, z3, z4, z5, z6]) rfl ⟨by rw [HN.out], E0.low⟩
  · go_enter Try.func30, Try.ntmps30
    go_wp2_with fail
    refine (R1 _).mono ?_
    rintro e w' ⟨rfl, rfl⟩
    go_wp2_with fail
    refine (R2 _).mono ?_
    rintro e w' ⟨rfl, rfl⟩
    go_wp2_with fail
    refine (R3 _).mono ?_
    rintro e w' ⟨rfl, rfl⟩
    go_wp2_with fail
    refine (R4 _).mono ?_
    rintro e w' ⟨rfl, rfl⟩
    go_wp2
    exact bodyPost_ret (v := .tuple #[.agg #[.int .i64 0, .int .i64 0, .int .i64 0, .int .i64 0, .int .i64 0, .int .i64 0, .slice none 0 0], .pointer none, .int .i64 1]) (by simp [results, Try.results30, go_sem, z0, z1, z2, z3, z4, z5, z6]) rfl ⟨by rw [HN.out], E0.low⟩
end Go.Proofs.Ytpigoegjoagbnaa
end
section
/- The walk of current.Tax: an income that is too great; none; a loss; a profit. -/
namespace Go.Proofs.Ytpigoegjoagbnaa
open Go.RowKit Go.Sl
set_option maxHeartbeats 1000000
set_option maxRecDepth 100000
def CurOk (l : List STri) (inc most life year r : Int) (w : World) (e : Ending) (w' : World) : Prop :=
  ∃ h' b' hv V cap, e = .returned (.tuple #[.agg #[.int .i64 inc, .int .i64 (vGone l year), .int .i64 (curVec l inc most year).sum, .int .i64 (curNew inc), .int .i64 (curTaxable l inc most year), .int .i64 (ofVal (curTaxable l inc most year) r), .slice V (curVec l inc most year).length cap], .pointer (some ⟨b', 0, none⟩), .int .i64 0]) ∧
    Vnt h' b' (curNext l inc most life year) ∧ Ow kInt hv V cap (curVec l inc most year) ∧ Env w w' [h', hv]
theorem curTax_over (b : Nat) (bk pm mv most life year r : Int) (w : World) (ha : curArg most life year r = true) (hi : incOk bk pm mv = false) :
    Calls Try.prog 30 #[.pointer (some ⟨b, 0, none⟩), .int .i64 bk, .int .i64 pm, .int .i64 mv, .int .i64 most, .int .i64 life, .int .i64 year, .int .i64 r] w fun e w' => e = .returned (.tuple #[noRes, .pointer none, .int .i64 6]) ∧ Below w.heap.size w w' := by
  have HN : Hid (noRes = .agg #[.int .i64 0, .int .i64 0, .int .i64 0, .int .i64 0, .int .i64 0, .int .i64 0, .slice none 0 0]) := rfl
  have HI := Lib.hid hi
  clear hi
  have E0 := (Env.start w).alloc (.cells #[.int .i64 0, .int .i64 0, .int .i64 0, .int .i64 0, .int .i64 0, .int .i64 0, .slice none 0 0] 51)
  simp at E0
  have R1 := fun W : World => rateRight_calls most W
  have R2 := fun W : World => rateRight_calls r W
  have R3 := fun W : World => curRight_calls life W
  have R4 := fun W : World => curRight_calls year W
  have hq : rightRate most = true ∧ rightRate r = true ∧ decide (0 ≤ life ∧ life ≤ 99) = true ∧ decide (0 ≤ year ∧ year ≤ 99) = true := by unfold curArg at ha; simpa using ha
  rw [hq.1] at R1
  rw [hq.2.1] at R2
  rw [hq.2.2.1] at R3
  rw [hq.2.2.2] at R4
  have hlb : 0 ≤ life ∧ life ≤ 99 := by simpa using hq.2.2.1
  have hyb : 0 ≤ year ∧ year ≤ 99 := by simpa using hq.2.2.2
  clear hq
  have IC := fun W : World => income_calls bk pm mv W
  go_enter Try.func30, Try.ntmps30
  go_wp2_with fail
  refine (R1 _).mono ?_
  rintro e w' ⟨rfl, rfl⟩
  go_wp2_with fail
  refine (R2 _).mono ?_
  rintro e w' ⟨rfl, rfl⟩
  go_wp2_with fail
  refine (R3 _).mono ?_
  rintro e w' ⟨rfl, rfl⟩
  go_wp2_with fail
  refine (R4 _).mono ?_
  rintro e w' ⟨rfl, rfl⟩
  go_wp2_with fail
  refine (IC _).mono ?_
  rw [HI.out]
  rintro e w2 ⟨rfl, B2⟩
  have E2 := E0.below B2
  have z := fun k v (h : [Value.int .i64 0, .int .i64 0, .int .i64 0, .int .i64 0, .int .i64 0, .int .i64 0, .slice none 0 0][k]? = some v) => E2.cell 0 rfl k h
  have z0 := z 0 _ rfl
  have z1 := z 1 _ rfl
  have z2 := z 2 _ rfl
  have z3 := z 3 _ rfl
  have z4 := z 4 _ rfl
  have z5 := z 5 _ rfl
  have z6 := z 6 _ rfl
  have zf := fun k => E2.free 0 rfl k
  clear z
  go_wp2
  exact bodyPost_ret (v := .tuple #[.agg #[.int .i64 0, .int .i64 0, .int .i64 0, .int .i64 0, .int .i64 0, .int .i64 0, .slice none 0 0], .pointer none, .int .i64 6]) (by simp [results, Try.results30, go_sem, z0, z1, z2, z3, z4, z5, z6]) rfl ⟨by rw [HN.out], (((((((E2.cellset 0 rfl 0 _).cellset 0 rfl 1 _).cellset 0 rfl 2 _).cellset 0 rfl 3 _).cellset 0 rfl 4 _).cellset 0 rfl 5 _).cellset 0 rfl 6 _).low⟩
theorem curTax_zero (h : Hp) (b : Nat) (l : List STri) (bk pm mv most life year r : Int) (w : World) (hs : h.sub w) (S : Vnt h b l) (ha : curArg most life year r = true) (hi : incOk bk pm mv = true) (h0 : incV bk pm mv = 0) :
    Calls Try.prog 30 #[.pointer (some ⟨b, 0, none⟩), .int .i64 bk, .int .i64 pm, .int .i64 mv, .int .i64 most, .int .i64 life, .int .i64 year, .int .i64 r] w (CurOk l 0 most life year r w) := by
  have HI := Lib.hid hi
  have H0 := Lib.hid h0
  clear hi h0
  have hV : curVec l 0 most year = [] := by unfold curVec; rw [if_neg (by omega)]
  have HP : ∀ (W : World) (h' : Hp) (b' : Nat), Vnt h' b' (vExp l year) → Env w W [h'] → CurOk l 0 most life year r w (.returned (.tuple #[.agg #[.int .i64 0, .int .i64 (vGone l year), .int .i64 0, .int .i64 0, .int .i64 0, .int .i64 (ofVal 0 r), .slice none 0 0], .pointer (some ⟨b', 0, none⟩), .int .i64 0])) W := fun W h' b' S' E' => by
    refine ⟨h', b', Hp.none, none, 0, ?_, ?_, ?_, E'.new (Upd.of_below (Below.refl _ _))⟩
    · have ht : curTaxable l 0 most year = 0 := by unfold curTaxable; rw [hV]; rfl
      rw [hV, ht]; rfl
    · unfold curNext; rw [if_neg (by omega), if_neg (by omega)]; exact S'
    · rw [hV]; exact Ow.none _ _
  have E0 := (Env.start w).alloc (.cells #[.int .i64 0, .int .i64 0, .int .i64 0, .int .i64 0, .int .i64 0, .int .i64 0, .slice none 0 0] 51)
  simp at E0
  have R1 := fun W : World => rateRight_calls most W
  have R2 := fun W : World => rateRight_calls r W
  have R3 := fun W : World => curRight_calls life W
  have R4 := fun W : World => curRight_calls year W
  have hq : rightRate most = true ∧ rightRate r = true ∧ decide (0 ≤ life ∧ life ≤ 99) = true ∧ decide (0 ≤ year ∧ year ≤ 99) = true := by unfold curArg at ha; simpa using ha
  rw [hq.1] at R1
  rw [hq.2.1] at R2
  rw [hq.2.2.1] at R3
  rw [hq.2.2.2] at R4
  have hlb : 0 ≤ life ∧ life ≤ 99 := by simpa using hq.2.2.1
  have hyb : 0 ≤ year ∧ year ≤ 99 := by simpa using hq.2.2.2
  clear hq
  have IC := fun W : World => income_calls bk pm mv W
  go_enter Try.func30, Try.ntmps30
  go_wp2_with fail
  refine (R1 _).mono ?_
  rintro e w' ⟨rfl, rfl⟩
  go_wp2_with fail
  refine (R2 _).mono ?_
  rintro e w' ⟨rfl, rfl⟩
  go_wp2_with fail
  refine (R3 _).mono ?_
  rintro e w' ⟨rfl, rfl⟩
  go_wp2_with fail
  refine (R4 _).mono ?_
  rintro e w' ⟨rfl, rfl⟩
  go_wp2_with fail
  refine (IC _).mono ?_
  rw [HI.out, H0.out]
  rintro e w2 ⟨rfl, B2⟩
  have E2 := E0.below B2
  go_wp2_with fail
  refine (vintClone_calls b l h w2 (hs.of_below E2.low) S.pt (by have := S.good.len; omega)).mono ?_
  rintro e w3 ⟨h3, b3, rfl, p3, u3⟩
  have E3 := E2.new u3
  simp at E3
  have S3 : Vnt h3 b3 l := ⟨p3, S.good⟩
  go_wp2_with fail
  refine (Vnt.exp S3 E3 1 rfl year ⟨rfl, rfl⟩).mono ?_
  rintro e w4 ⟨h4, rfl, S4, E4⟩
  simp at E4
  have OC := fun W : World => of_calls 0 r W
  generalize vGone l year = vg at *
  generalize ofVal 0 r = ov at *
  generalize ofOk 0 r = ob at *
  go_upto_region 8 with fail
  replace E4 := E4.alloc (.cells #[.int .i64 0, .int .i64 vg, .int .i64 0, .int .i64 0, .int .i64 0, .int .i64 0, .slice none 0 0] 51)
  simp at E4
  obtain ⟨W, hW⟩ : ∃ W : World, W = w4.alloc (.cells #[.int .i64 0, .int .i64 vg, .int .i64 0, .int .i64 0, .int .i64 0, .int .i64 0, .slice none 0 0] 51) := ⟨_, rfl⟩
  rw [← hW] at E4
  rw [← hW]
  clear hW
  have y0 := E4.cell 2 rfl 0 rfl
  have y1 := E4.cell 2 rfl 1 rfl
  have y2 := E4.cell 2 rfl 2 rfl
  have y3 := E4.cell 2 rfl 3 rfl
  have y4 := E4.cell 2 rfl 4 rfl
  have y5 := E4.cell 2 rfl 5 rfl
  have y6 := E4.cell 2 rfl 6 rfl
  generalize w4.heap.size = bB at *
  have yf := fun k => E4.free 2 rfl k
  have z := fun k v (h : [Value.int .i64 0, .int .i64 0, .int .i64 0, .int .i64 0, .int .i64 0, .int .i64 0, .slice none 0 0][k]? = some v) => E4.cell 0 rfl k h
  have z0 := z 0 _ rfl
  have z1 := z 1 _ rfl
  have z2 := z 2 _ rfl
  have z3 := z 3 _ rfl
  have z4 := z 4 _ rfl
  have z5 := z 5 _ rfl
  have z6 := z 6 _ rfl
  have zf := fun k => E4.free 0 rfl k
  clear z
  go_wp2_with fail
  refine (OC _).mono ?_
  rintro e w' ⟨rfl, rfl⟩
  clear z0 z1 z2 z3 z4 z5 z6 zf
  go_upto_region 19 with fail
  have F0 := E4.cellset 2 rfl 4 (.int .i64 0)
  simp only [List.set_cons_zero, List.set_cons_succ] at F0
  have F1 := F0.cellset 2 rfl 5 (.int .i64 ov)
  simp only [List.set_cons_zero, List.set_cons_succ] at F1
  obtain ⟨V, hV9⟩ : ∃ V : World, V = (W.setCell ⟨bB, 4, none⟩ (.int .i64 0)).setCell ⟨bB, 5, none⟩ (.int .i64 ov) := ⟨_, rfl⟩
  rw [← hV9] at F1
  rw [← hV9]
  clear hV9 F0 E4 y0 y1 y2 y3 y4 y5 y6 yf
  have y0 := F1.cell 2 rfl 0 rfl
  have y1 := F1.cell 2 rfl 1 rfl
  have y2 := F1.cell 2 rfl 2 rfl
  have y3 := F1.cell 2 rfl 3 rfl
  have y4 := F1.cell 2 rfl 4 rfl
  have y5 := F1.cell 2 rfl 5 rfl
  have y6 := F1.cell 2 rfl 6 rfl
  have z0 := F1.cell 0 rfl 0 rfl
  have z1 := F1.cell 0 rfl 1 rfl
  have z2 := F1.cell 0 rfl 2 rfl
  have z3 := F1.cell 0 rfl 3 rfl
  have z4 := F1.cell 0 rfl 4 rfl
  have z5 := F1.cell 0 rfl 5 rfl
  have z6 := F1.cell 0 rfl 6 rfl
  have zf := fun k => F1.free 0 rfl k
  trace "R19"
  go_wp2
  have G0 := F1.cellset 0 rfl 0 (.int .i64 0)
  simp only [List.set_cons_zero] at G0
  have G1 := G0.cellset 0 rfl 1 (.int .i64 vg)
  simp only [List.set_cons_zero, List.set_cons_succ] at G1
  have G2 := G1.cellset 0 rfl 2 (.int .i64 0)
  simp only [List.set_cons_zero, List.set_cons_succ] at G2
  have G3 := G2.cellset 0 rfl 3 (.int .i64 0)
  simp only [List.set_cons_zero, List.set_cons_succ] at G3
  have G4 := G3.cellset 0 rfl 4 (.int .i64 0)
  simp only [List.set_cons_zero, List.set_cons_succ] at G4
  have G5 := G4.cellset 0 rfl 5 (.int .i64 ov)
  simp only [List.set_cons_zero, List.set_cons_succ] at G5
  have G6 := G5.cellset 0 rfl 6 (.slice none 0 0)
  simp only [List.set_cons_zero, List.set_cons_succ] at G6
  have EF := (G6.drop 2).drop 0
  simp at EF
  exact bodyPost_ret (v := .tuple #[.agg #[.int .i64 0, .int .i64 vg, .int .i64 0, .int .i64 0, .int .i64 0, .int .i64 ov, .slice none 0 0], .pointer (some ⟨b3, 0, none⟩), .int .i64 0]) (by simp [results, Try.results30, go_sem, z0, z1, z2, z3, z4, z5, z6]) rfl (HP _ h4 b3 S4 EF)
end Go.Proofs.Ytpigoegjoagbnaa
end
section
/- The walk of current.Tax: a loss. -/
namespace Go.Proofs.Ytpigoegjoagbnaa
open Go.RowKit Go.Sl
set_option maxHeartbeats 1000000
set_option maxRecDepth 100000
theorem curTax_loss (h : Hp) (b : Nat) (l : List STri) (bk pm mv most life year r : Int) (w : World) (hs : h.sub w) (S : Vnt h b l) (ha : curArg most life year r = true) (hi : incOk bk pm mv = true) (inc : Int) (h0 : incV bk pm mv = inc) (hneg : inc < 0) (hE : vAddE (vExp l year) year (year + life) (-inc) = 0) :
    Calls Try.prog 30 #[.pointer (some ⟨b, 0, none⟩), .int .i64 bk, .int .i64 pm, .int .i64 mv, .int .i64 most, .int .i64 life, .int .i64 year, .int .i64 r] w (CurOk l inc most life year r w) := by
  have HI := Lib.hid hi
  have H0 := Lib.hid h0
  clear hi h0
  have hV : curVec l inc most year = [] := by unfold curVec; rw [if_neg (by omega)]
  have hib := incV_bd bk pm mv
  rw [H0.out] at hib
  have tn0 : decide (0 < inc) = false := by simp; omega
  have tn1 : decide (inc < 0) = true := by simpa using hneg
  have hNw : curNew inc = -inc := by unfold curNew; rw [if_pos hneg]
  have ht : curTaxable l inc most year = 0 := by unfold curTaxable; rw [hV, hNw]; simp; omega
  have hwn : IntKind.i64.wrap (-inc) = -inc := by rw [IntKind.wrap_i64]; omega
  have hwt : IntKind.i64.wrap (inc + -inc) = 0 := by rw [IntKind.wrap_i64]; omega
  have HP : ∀ (W : World) (h' : Hp) (b' : Nat), Vnt h' b' (vAdd (vExp l year) year (year + life) (-inc)) → Env w W [h'] → CurOk l inc most life year r w (.returned (.tuple #[.agg #[.int .i64 inc, .int .i64 (vGone l year), .int .i64 0, .int .i64 (-inc), .int .i64 0, .int .i64 (ofVal 0 r), .slice none 0 0], .pointer (some ⟨b', 0, none⟩), .int .i64 0])) W := fun W h' b' S' E' => by
    refine ⟨h', b', Hp.none, none, 0, ?_, ?_, ?_, E'.new (Upd.of_below (Below.refl _ _))⟩
    · rw [hV, ht, hNw]; rfl
    · unfold curNext; rw [if_neg (by omega), if_pos hneg]; exact S'
    · rw [hV]; exact Ow.none _ _
  have HE := Lib.hid hE
  clear hV ht hNw hneg hE
  have E0 := (Env.start w).alloc (.cells #[.int .i64 0, .int .i64 0, .int .i64 0, .int .i64 0, .int .i64 0, .int .i64 0, .slice none 0 0] 51)
  simp at E0
  have R1 := fun W : World => rateRight_calls most W
  have R2 := fun W : World => rateRight_calls r W
  have R3 := fun W : World => curRight_calls life W
  have R4 := fun W : World => curRight_calls year W
  have hq : rightRate most = true ∧ rightRate r = true ∧ decide (0 ≤ life ∧ life ≤ 99) = true ∧ decide (0 ≤ year ∧ year ≤ 99) = true := by unfold curArg at ha; simpa using ha
  rw [hq.1] at R1
  rw [hq.2.1] at R2
  rw [hq.2.2.1] at R3
  rw [hq.2.2.2] at R4
  have hlb : 0 ≤ life ∧ life ≤ 99 := by simpa using hq.2.2.1
  have hyb : 0 ≤ year ∧ year ≤ 99 := by simpa using hq.2.2.2
  clear hq
  have IC := fun W : World => income_calls bk pm mv W
  go_enter Try.func30, Try.ntmps30
  go_wp2_with fail
  refine (R1 _).mono ?_
  rintro e w' ⟨rfl, rfl⟩
  go_wp2_with fail
  refine (R2 _).mono ?_
  rintro e w' ⟨rfl, rfl⟩
  go_wp2_with fail
  refine (R3 _).mono ?_
  rintro e w' ⟨rfl, rfl⟩
  go_wp2_with fail
  refine (R4 _).mono ?_
  rintro e w' ⟨rfl, rfl⟩
  go_wp2_with fail
  refine (IC _).mono ?_
  rw [HI.out, H0.out]
  rintro e w2 ⟨rfl, B2⟩
  have E2 := E0.below B2
  go_wp2_with fail
  refine (vintClone_calls b l h w2 (hs.of_below E2.low) S.pt (by have := S.good.len; omega)).mono ?_
  rintro e w3 ⟨h3, b3, rfl, p3, u3⟩
  have E3 := E2.new u3
  simp at E3
  have S3 : Vnt h3 b3 l := ⟨p3, S.good⟩
  go_wp2_with fail
  refine (Vnt.exp S3 E3 1 rfl year ⟨rfl, rfl⟩).mono ?_
  rintro e w4 ⟨h4, rfl, S4, E4⟩
  simp at E4
  have OC := fun W : World => of_calls 0 r W
  generalize vGone l year = vg at *
  generalize ofVal 0 r = ov at *
  generalize ofOk 0 r = ob at *
  go_upto_region 8 with fail
  replace E4 := E4.alloc (.cells #[.int .i64 inc, .int .i64 vg, .int .i64 0, .int .i64 0, .int .i64 0, .int .i64 0, .slice none 0 0] 51)
  simp at E4
  obtain ⟨W, hW⟩ : ∃ W : World, W = w4.alloc (.cells #[.int .i64 inc, .int .i64 vg, .int .i64 0, .int .i64 0, .int .i64 0, .int .i64 0, .slice none 0 0] 51) := ⟨_, rfl⟩
  rw [← hW] at E4
  rw [← hW]
  clear hW
  have y0 := E4.cell 2 rfl 0 rfl
  have y1 := E4.cell 2 rfl 1 rfl
  have y2 := E4.cell 2 rfl 2 rfl
  have y3 := E4.cell 2 rfl 3 rfl
  have y4 := E4.cell 2 rfl 4 rfl
  have y5 := E4.cell 2 rfl 5 rfl
  have y6 := E4.cell 2 rfl 6 rfl
  generalize w4.heap.size = bB at *
  have yf := fun k => E4.free 2 rfl k
  have z := fun k v (h : [Value.int .i64 0, .int .i64 0, .int .i64 0, .int .i64 0, .int .i64 0, .int .i64 0, .slice none 0 0][k]? = some v) => E4.cell 0 rfl k h
  have z0 := z 0 _ rfl
  have z1 := z 1 _ rfl
  have z2 := z 2 _ rfl
  have z3 := z 3 _ rfl
  have z4 := z 4 _ rfl
  have z5 := z 5 _ rfl
  have z6 := z 6 _ rfl
  have zf := fun k => E4.free 0 rfl k
  clear z
  have hwy : IntKind.i64.wrap (year + life) = year + life := by rw [IntKind.wrap_i64]; omega
  have A0 := E4.cellset 2 rfl 3 (.int .i64 (-inc))
  simp only [List.set_cons_zero, List.set_cons_succ] at A0
  go_wp2_with fail
  refine (Vnt.add S4 A0 1 rfl year (year + life) (-inc) ⟨HE.out, rfl⟩).mono ?_
  rintro e w5 ⟨h5, rfl, S5, E5⟩
  simp only [List.set_cons_zero, List.set_cons_succ] at E5
  clear z0 z1 z2 z3 z4 z5 z6 zf y0 y1 y2 y3 y4 y5 y6 yf A0 E4
  have y0 := E5.cell 2 rfl 0 rfl
  have y1 := E5.cell 2 rfl 1 rfl
  have y2 := E5.cell 2 rfl 2 rfl
  have y3 := E5.cell 2 rfl 3 rfl
  have y4 := E5.cell 2 rfl 4 rfl
  have y5 := E5.cell 2 rfl 5 rfl
  have y6 := E5.cell 2 rfl 6 rfl
  have yf := fun k => E5.free 2 rfl k
  go_wp2_with fail
  refine (OC _).mono ?_
  rintro e w' ⟨rfl, rfl⟩
  go_upto_region 19 with fail
  have F0 := E5.cellset 2 rfl 4 (.int .i64 0)
  simp only [List.set_cons_zero, List.set_cons_succ] at F0
  have F1 := F0.cellset 2 rfl 5 (.int .i64 ov)
  simp only [List.set_cons_zero, List.set_cons_succ] at F1
  obtain ⟨V, hV9⟩ : ∃ V : World, V = (w5.setCell ⟨bB, 4, none⟩ (.int .i64 0)).setCell ⟨bB, 5, none⟩ (.int .i64 ov) := ⟨_, rfl⟩
  rw [← hV9] at F1
  rw [← hV9]
  clear hV9 F0 E5 y0 y1 y2 y3 y4 y5 y6 yf
  have y0 := F1.cell 2 rfl 0 rfl
  have y1 := F1.cell 2 rfl 1 rfl
  have y2 := F1.cell 2 rfl 2 rfl
  have y3 := F1.cell 2 rfl 3 rfl
  have y4 := F1.cell 2 rfl 4 rfl
  have y5 := F1.cell 2 rfl 5 rfl
  have y6 := F1.cell 2 rfl 6 rfl
  have z0 := F1.cell 0 rfl 0 rfl
  have z1 := F1.cell 0 rfl 1 rfl
  have z2 := F1.cell 0 rfl 2 rfl
  have z3 := F1.cell 0 rfl 3 rfl
  have z4 := F1.cell 0 rfl 4 rfl
  have z5 := F1.cell 0 rfl 5 rfl
  have z6 := F1.cell 0 rfl 6 rfl
  have zf := fun k => F1.free 0 rfl k
  trace "R19"
  go_wp2
  have G0 := F1.cellset 0 rfl 0 (.int .i64 inc)
  simp only [List.set_cons_zero] at G0
  have G1 := G0.cellset 0 rfl 1 (.int .i64 vg)
  simp only [List.set_cons_zero, List.set_cons_succ] at G1
  have G2 := G1.cellset 0 rfl 2 (.int .i64 0)
  simp only [List.set_cons_zero, List.set_cons_succ] at G2
  have G3 := G2.cellset 0 rfl 3 (.int .i64 (-inc))
  simp only [List.set_cons_zero, List.set_cons_succ] at G3
  have G4 := G3.cellset 0 rfl 4 (.int .i64 0)
  simp only [List.set_cons_zero, List.set_cons_succ] at G4
  have G5 := G4.cellset 0 rfl 5 (.int .i64 ov)
  simp only [List.set_cons_zero, List.set_cons_succ] at G5
  have G6 := G5.cellset 0 rfl 6 (.slice none 0 0)
  simp only [List.set_cons_zero, List.set_cons_succ] at G6
  have EF := (G6.drop 2).drop 0
  simp at EF
  exact bodyPost_ret (v := .tuple #[.agg #[.int .i64 inc, .int .i64 vg, .int .i64 0, .int .i64 (-inc), .int .i64 0, .int .i64 ov, .slice none 0 0], .pointer (some ⟨b3, 0, none⟩), .int .i64 0]) (by simp [results, Try.results30, go_sem, z0, z1, z2, z3, z4, z5, z6]) rfl (HP _ h5 b3 S5 EF)
end Go.Proofs.Ytpigoegjoagbnaa
end
section
/- The walk of current.Tax: a profit. -/
namespace Go.Proofs.Ytpigoegjoagbnaa
open Go.RowKit Go.Sl
set_option maxHeartbeats 1000000
set_option maxRecDepth 100000
theorem curTax_profit (h : Hp) (b : Nat) (l : List STri) (bk pm mv most life year r : Int) (w : World) (hs : h.sub w) (S : Vnt h b l) (ha : curArg most life year r = true) (hi : incOk bk pm mv = true) (inc : Int) (h0 : incV bk pm mv = inc) (hpos : 0 < inc) :
    Calls Try.prog 30 #[.pointer (some ⟨b, 0, none⟩), .int .i64 bk, .int .i64 pm, .int .i64 mv, .int .i64 most, .int .i64 life, .int .i64 year, .int .i64 r] w (CurOk l inc most life year r w) := by
  have HI := Lib.hid hi
  have H0 := Lib.hid h0
  have hib := incV_bd bk pm mv
  rw [h0] at hib
  clear hi h0
  have gE := S.good.exp year
  have gEl := gE.len
  obtain ⟨hvl, hvt⟩ := curVec_take (most := most) (year := year) S.good hpos
  obtain ⟨us0, us1, _⟩ := curVec_bd S.good inc most year
  have us1 := us1 hpos
  have HVd : Hid (curVec l inc most year = vecGo year (vExp l year) (max 0 (roomV inc most))) := by unfold Hid curVec; rw [if_pos hpos]
  have hvb : ∀ u ∈ curVec l inc most year, 0 ≤ u ∧ u ≤ 100000000000 := fun u hu => by
    obtain ⟨i, hi⟩ := List.mem_iff_getElem?.1 hu
    have hil : i < (vExp l year).length := by rw [← hvl]; exact (List.getElem?_eq_some_iff.1 hi).1
    obtain ⟨x, hx⟩ := some_of_lt hil
    have h1 := vTake_bad hvt hx.out hi
    have h2 := le_sumC gE.lo (List.mem_of_getElem? hx.out)
    have h3 := gE.mon
    omega
  have hpre : ∀ j, j ≤ (curVec l inc most year).length → -1000000000000000 ≤ ((curVec l inc most year).take j).sum ∧ ((curVec l inc most year).take j).sum ≤ 1000000000000000 := fun j hj => by
    have h1 := sum_money ((curVec l inc most year).take j) fun z hz => by
      have := hvb z (List.mem_of_mem_take hz); simp [money]; omega
    have h2 : ((curVec l inc most year).take j).length ≤ 12 := by rw [List.length_take]; omega
    omega
  have tn0 : decide (0 < inc) = true := by simpa using hpos
  have hNw : curNew inc = 0 := by unfold curNew; rw [if_neg (by omega)]
  have ht : curTaxable l inc most year = inc - (curVec l inc most year).sum := by unfold curTaxable; rw [hNw]; omega
  have HP : ∀ (W : World) (h' hv : Hp) (b' cv : Nat) (V : Option Addr), Vnt h' b' (vTake (vExp l year) (curVec l inc most year)) → Ow kInt hv V cv (curVec l inc most year) → Env w W [h', hv] → CurOk l inc most life year r w (.returned (.tuple #[.agg #[.int .i64 inc, .int .i64 (vGone l year), .int .i64 (curVec l inc most year).sum, .int .i64 0, .int .i64 (inc - (curVec l inc most year).sum), .int .i64 (ofVal (inc - (curVec l inc most year).sum) r), .slice V (curVec l inc most year).length cv], .pointer (some ⟨b', 0, none⟩), .int .i64 0])) W := fun W h' hv b' cv V S' o' E' => by
    refine ⟨h', b', hv, V, cv, ?_, ?_, o', E'⟩
    · rw [ht, hNw]
    · unfold curNext; rw [if_pos hpos]; exact S'
  have RM := fun W : World => room_calls inc most W
  have hrb : -1000000000000000 ≤ roomV inc most ∧ roomV inc most ≤ 1000000000000000 := by
    unfold roomV; split
    · omega
    · have := floorV_bd (n := inc) (r := most); omega
  have VC := fun (W : World) (C : Option Addr) (n : Nat) (k : Hp) (ks : k.sub W) (o : Ow kTri k C n (vExp l year)) => vector_calls C n (vExp l year) year (roomV inc most) k W ks o.sl (by omega) (fun x hx => by have := gE.lo x hx; omega) hrb.2 hrb.1
  rw [← HVd.out] at VC
  rw [← hvl] at VC
  have hvl' := Lib.hid hvl
  have HVT := Lib.hid hvt
  clear hvl hvt ht hNw HVd hrb
  have E0 := (Env.start w).alloc (.cells #[.int .i64 0, .int .i64 0, .int .i64 0, .int .i64 0, .int .i64 0, .int .i64 0, .slice none 0 0] 51)
  simp at E0
  have R1 := fun W : World => rateRight_calls most W
  have R2 := fun W : World => rateRight_calls r W
  have R3 := fun W : World => curRight_calls life W
  have R4 := fun W : World => curRight_calls year W
  have hq : rightRate most = true ∧ rightRate r = true ∧ decide (0 ≤ life ∧ life ≤ 99) = true ∧ decide (0 ≤ year ∧ year ≤ 99) = true := by unfold curArg at ha; simpa using ha
  rw [hq.1] at R1
  rw [hq.2.1] at R2
  rw [hq.2.2.1] at R3
  rw [hq.2.2.2] at R4
  have hlb : 0 ≤ life ∧ life ≤ 99 := by simpa using hq.2.2.1
  have hyb : 0 ≤ year ∧ year ≤ 99 := by simpa using hq.2.2.2
  clear hq
  have IC := fun W : World => income_calls bk pm mv W
  go_enter Try.func30, Try.ntmps30
  go_wp2_with fail
  refine (R1 _).mono ?_
  rintro e w' ⟨rfl, rfl⟩
  go_wp2_with fail
  refine (R2 _).mono ?_
  rintro e w' ⟨rfl, rfl⟩
  go_wp2_with fail
  refine (R3 _).mono ?_
  rintro e w' ⟨rfl, rfl⟩
  go_wp2_with fail
  refine (R4 _).mono ?_
  rintro e w' ⟨rfl, rfl⟩
  go_wp2_with fail
  refine (IC _).mono ?_
  rw [HI.out, H0.out]
  rintro e w2 ⟨rfl, B2⟩
  have E2 := E0.below B2
  go_wp2_with fail
  refine (vintClone_calls b l h w2 (hs.of_below E2.low) S.pt (by have := S.good.len; omega)).mono ?_
  rintro e w3 ⟨h3, b3, rfl, p3, u3⟩
  have E3 := E2.new u3
  simp at E3
  have S3 : Vnt h3 b3 l := ⟨p3, S.good⟩
  go_wp2_with fail
  refine (Vnt.exp S3 E3 1 rfl year ⟨rfl, rfl⟩).mono ?_
  rintro e w4 ⟨h4, rfl, S4, E4⟩
  simp at E4
  generalize vGone l year = vg at *
  generalize curVec l inc most year = cvec at *
  generalize vExp l year = ex at *
  generalize roomV inc most = rm at *
  obtain ⟨us, hus⟩ : ∃ us, cvec.sum = us := ⟨_, rfl⟩
  rw [hus] at us0 us1 HP
  have HUS := Lib.hid hus
  clear hus
  have OC := fun W : World => of_calls (inc - us) r W
  generalize ofVal (inc - us) r = ov at *
  generalize ofOk (inc - us) r = ob at *
  go_upto_region 8 with fail
  replace E4 := E4.alloc (.cells #[.int .i64 inc, .int .i64 vg, .int .i64 0, .int .i64 0, .int .i64 0, .int .i64 0, .slice none 0 0] 51)
  simp at E4
  obtain ⟨W, hW⟩ : ∃ W : World, W = w4.alloc (.cells #[.int .i64 inc, .int .i64 vg, .int .i64 0, .int .i64 0, .int .i64 0, .int .i64 0, .slice none 0 0] 51) := ⟨_, rfl⟩
  rw [← hW] at E4
  rw [← hW]
  clear hW
  have y0 := E4.cell 2 rfl 0 rfl
  have y1 := E4.cell 2 rfl 1 rfl
  have y2 := E4.cell 2 rfl 2 rfl
  have y3 := E4.cell 2 rfl 3 rfl
  have y4 := E4.cell 2 rfl 4 rfl
  have y5 := E4.cell 2 rfl 5 rfl
  have y6 := E4.cell 2 rfl 6 rfl
  generalize w4.heap.size = bB at *
  go_wp2_with fail
  refine (Vnt.rows S4 E4 1 rfl cvec.length hvl'.out.symm).mono ?_
  rintro e w5 ⟨C5, n5, h5, rfl, o5, E5⟩
  simp at E5
  go_wp2_with fail
  refine (RM _).mono ?_
  rintro e w' ⟨rfl, rfl⟩
  go_wp2_with fail
  refine (VC _ _ _ h5 (E5.sub 3 rfl) o5).mono ?_
  rintro e w6 ⟨V, cv, hv, rfl, o6, u6⟩
  have E6 := E5.new u6
  simp at E6
  clear y0 y1 y2 y3 y4 y5 y6 E4 E5
  have y6 := E6.cell 2 rfl 6 rfl
  have yf := fun k => E6.free 2 rfl k
  have A6 := E6.cellset 2 rfl 6 (.slice V cvec.length cv)
  simp only [List.set_cons_zero, List.set_cons_succ] at A6
  go_wp2_with fail
  refine (used_calls V cv cvec hv _ (A6.sub 4 rfl) o6.sl hpre).mono ?_
  rw [HUS.out]
  rintro e w7 ⟨rfl, B7⟩
  have E7 := A6.below B7
  clear y6 yf A6 E6
  have y2 := E7.cell 2 rfl 2 rfl
  have y6 := E7.cell 2 rfl 6 rfl
  have yf := fun k => E7.free 2 rfl k
  have A7 := E7.cellset 2 rfl 2 (.int .i64 us)
  simp only [List.set_cons_zero, List.set_cons_succ] at A7
  go_wp2_with fail
  refine (Vnt.take S4 A7 1 rfl (A7.sub 4 rfl) o6.sl (fun u hu => by have := hvb u hu; exact ⟨by omega, by omega⟩) cvec.length rfl ⟨HVT.out, rfl⟩).mono ?_
  rintro e w8 ⟨h8, rfl, S8, E8⟩
  simp only [List.set_cons_zero, List.set_cons_succ] at E8
  clear y2 y6 yf A7 E7
  have y0 := E8.cell 2 rfl 0 rfl
  have y1 := E8.cell 2 rfl 1 rfl
  have y2 := E8.cell 2 rfl 2 rfl
  have y3 := E8.cell 2 rfl 3 rfl
  have y4 := E8.cell 2 rfl 4 rfl
  have y5 := E8.cell 2 rfl 5 rfl
  have y6 := E8.cell 2 rfl 6 rfl
  have yf := fun k => E8.free 2 rfl k
  have hws : IntKind.i64.wrap (inc - us) = inc - us := by rw [IntKind.wrap_i64]; omega
  have tn1 : decide (inc < 0) = false := by simp; omega
  go_wp2_with fail
  refine (OC _).mono ?_
  rintro e w' ⟨rfl, rfl⟩
  go_upto_region 19 with fail
  have F0 := E8.cellset 2 rfl 4 (.int .i64 (inc - us))
  simp only [List.set_cons_zero, List.set_cons_succ] at F0
  have F1 := F0.cellset 2 rfl 5 (.int .i64 ov)
  simp only [List.set_cons_zero, List.set_cons_succ] at F1
  obtain ⟨U, hU9⟩ : ∃ U : World, U = (w8.setCell ⟨bB, 4, none⟩ (.int .i64 (inc - us))).setCell ⟨bB, 5, none⟩ (.int .i64 ov) := ⟨_, rfl⟩
  rw [← hU9] at F1
  rw [← hU9]
  clear hU9 F0 E8 y0 y1 y2 y3 y4 y5 y6 yf
  have y0 := F1.cell 2 rfl 0 rfl
  have y1 := F1.cell 2 rfl 1 rfl
  have y2 := F1.cell 2 rfl 2 rfl
  have y3 := F1.cell 2 rfl 3 rfl
  have y4 := F1.cell 2 rfl 4 rfl
  have y5 := F1.cell 2 rfl 5 rfl
  have y6 := F1.cell 2 rfl 6 rfl
  have z0 := F1.cell 0 rfl 0 rfl
  have z1 := F1.cell 0 rfl 1 rfl
  have z2 := F1.cell 0 rfl 2 rfl
  have z3 := F1.cell 0 rfl 3 rfl
  have z4 := F1.cell 0 rfl 4 rfl
  have z5 := F1.cell 0 rfl 5 rfl
  have z6 := F1.cell 0 rfl 6 rfl
  have zf := fun k => F1.free 0 rfl k
  go_wp2
  have G0 := F1.cellset 0 rfl 0 (.int .i64 inc)
  simp only [List.set_cons_zero] at G0
  have G1 := G0.cellset 0 rfl 1 (.int .i64 vg)
  simp only [List.set_cons_zero, List.set_cons_succ] at G1
  have G2 := G1.cellset 0 rfl 2 (.int .i64 us)
  simp only [List.set_cons_zero, List.set_cons_succ] at G2
  have G3 := G2.cellset 0 rfl 3 (.int .i64 0)
  simp only [List.set_cons_zero, List.set_cons_succ] at G3
  have G4 := G3.cellset 0 rfl 4 (.int .i64 (inc - us))
  simp only [List.set_cons_zero, List.set_cons_succ] at G4
  have G5 := G4.cellset 0 rfl 5 (.int .i64 ov)
  simp only [List.set_cons_zero, List.set_cons_succ] at G5
  have G6 := G5.cellset 0 rfl 6 (.slice V cvec.length cv)
  simp only [List.set_cons_zero, List.set_cons_succ] at G6
  have EF := ((G6.drop 3).drop 2).drop 0
  simp at EF
  exact bodyPost_ret (v := .tuple #[.agg #[.int .i64 inc, .int .i64 vg, .int .i64 us, .int .i64 0, .int .i64 (inc - us), .int .i64 ov, .slice V cvec.length cv], .pointer (some ⟨b3, 0, none⟩), .int .i64 0]) (by simp [results, Try.results30, go_sem, z0, z1, z2, z3, z4, z5, z6]) rfl (HP _ h8 hv b3 cv V S8 o6 EF)
end Go.Proofs.Ytpigoegjoagbnaa
end
section
/- The walk of current.Tax: a loss that may not be. -/
namespace Go.Proofs.Ytpigoegjoagbnaa
open Go.RowKit Go.Sl
set_option maxHeartbeats 1000000
set_option maxRecDepth 100000
theorem curTax_lossErr (h : Hp) (b : Nat) (l : List STri) (bk pm mv most life year r : Int) (w : World) (hs : h.sub w) (S : Vnt h b l) (ha : curArg most life year r = true) (hi : incOk bk pm mv = true) (inc : Int) (h0 : incV bk pm mv = inc) (hneg : inc < 0) (q : Int) (hE : vAddE (vExp l year) year (year + life) (-inc) = q) (hq0 : q ≠ 0) :
    Calls Try.prog 30 #[.pointer (some ⟨b, 0, none⟩), .int .i64 bk, .int .i64 pm, .int .i64 mv, .int .i64 most, .int .i64 life, .int .i64 year, .int .i64 r] w fun e w' => e = .returned (.tuple #[noRes, .pointer none, .int .i64 q]) ∧ Below w.heap.size w w' := by
  have HI := Lib.hid hi
  have H0 := Lib.hid h0
  clear hi h0
  have HN : Hid (noRes = .agg #[.int .i64 0, .int .i64 0, .int .i64 0, .int .i64 0, .int .i64 0, .int .i64 0, .slice none 0 0]) := rfl
  have hib := incV_bd bk pm mv
  rw [H0.out] at hib
  have tn0 : decide (0 < inc) = false := by simp; omega
  have tn1 : decide (inc < 0) = true := by simpa using hneg
  have tq : (q != 0) = true := by simpa using hq0
  have hwn : IntKind.i64.wrap (-inc) = -inc := by rw [IntKind.wrap_i64]; omega
  have HE := Lib.hid (And.intro hE (vAdd_no hE hq0))
  clear hneg hE hq0
  have E0 := (Env.start w).alloc (.cells #[.int .i64 0, .int .i64 0, .int .i64 0, .int .i64 0, .int .i64 0, .int .i64 0, .slice none 0 0] 51)
  simp at E0
  have R1 := fun W : World => rateRight_calls most W
  have R2 := fun W : World => rateRight_calls r W
  have R3 := fun W : World => curRight_calls life W
  have R4 := fun W : World => curRight_calls year W
  have hq : rightRate most = true ∧ rightRate r = true ∧ decide (0 ≤ life ∧ life ≤ 99) = true ∧ decide (0 ≤ year ∧ year ≤ 99) = true := by unfold curArg at ha; simpa using ha
  rw [hq.1] at R1
  rw [hq.2.1] at R2
  rw [hq.2.2.1] at R3
  rw [hq.2.2.2] at R4
  have hlb : 0 ≤ life ∧ life ≤ 99 := by simpa using hq.2.2.1
  have hyb : 0 ≤ year ∧ year ≤ 99 := by simpa using hq.2.2.2
  clear hq
  have IC := fun W : World => income_calls bk pm mv W
  go_enter Try.func30, Try.ntmps30
  go_wp2_with fail
  refine (R1 _).mono ?_
  rintro e w' ⟨rfl, rfl⟩
  go_wp2_with fail
  refine (R2 _).mono ?_
  rintro e w' ⟨rfl, rfl⟩
  go_wp2_with fail
  refine (R3 _).mono ?_
  rintro e w' ⟨rfl, rfl⟩
  go_wp2_with fail
  refine (R4 _).mono ?_
  rintro e w' ⟨rfl, rfl⟩
  go_wp2_with fail
  refine (IC _).mono ?_
  rw [HI.out, H0.out]
  rintro e w2 ⟨rfl, B2⟩
  have E2 := E0.below B2
  go_wp2_with fail
  refine (vintClone_calls b l h w2 (hs.of_below E2.low) S.pt (by have := S.good.len; omega)).mono ?_
  rintro e w3 ⟨h3, b3, rfl, p3, u3⟩
  have E3 := E2.new u3
  simp at E3
  have S3 : Vnt h3 b3 l := ⟨p3, S.good⟩
  go_wp2_with fail
  refine (Vnt.exp S3 E3 1 rfl year ⟨rfl, rfl⟩).mono ?_
  rintro e w4 ⟨h4, rfl, S4, E4⟩
  simp at E4
  generalize vGone l year = vg at *
  go_upto_region 8 with fail
  replace E4 := E4.alloc (.cells #[.int .i64 inc, .int .i64 vg, .int .i64 0, .int .i64 0, .int .i64 0, .int .i64 0, .slice none 0 0] 51)
  simp at E4
  obtain ⟨W, hW⟩ : ∃ W : World, W = w4.alloc (.cells #[.int .i64 inc, .int .i64 vg, .int .i64 0, .int .i64 0, .int .i64 0, .int .i64 0, .slice none 0 0] 51) := ⟨_, rfl⟩
  rw [← hW] at E4
  rw [← hW]
  clear hW
  have y0 := E4.cell 2 rfl 0 rfl
  have y1 := E4.cell 2 rfl 1 rfl
  have y2 := E4.cell 2 rfl 2 rfl
  have y3 := E4.cell 2 rfl 3 rfl
  have y4 := E4.cell 2 rfl 4 rfl
  have y5 := E4.cell 2 rfl 5 rfl
  have y6 := E4.cell 2 rfl 6 rfl
  generalize w4.heap.size = bB at *
  have yf := fun k => E4.free 2 rfl k
  have z := fun k v (h : [Value.int .i64 0, .int .i64 0, .int .i64 0, .int .i64 0, .int .i64 0, .int .i64 0, .slice none 0 0][k]? = some v) => E4.cell 0 rfl k h
  have z0 := z 0 _ rfl
  have z1 := z 1 _ rfl
  have z2 := z 2 _ rfl
  have z3 := z 3 _ rfl
  have z4 := z 4 _ rfl
  have z5 := z 5 _ rfl
  have z6 := z 6 _ rfl
  have zf := fun k => E4.free 0 rfl k
  clear z
  have hwy : IntKind.i64.wrap (year + life) = year + life := by rw [IntKind.wrap_i64]; omega
  have A0 := E4.cellset 2 rfl 3 (.int .i64 (-inc))
  simp only [List.set_cons_zero, List.set_cons_succ] at A0
  go_wp2_with fail
  refine (Vnt.add S4 A0 1 rfl year (year + life) (-inc) HE.out).mono ?_
  rintro e w5 ⟨h5, rfl, S5, E5⟩
  simp only [List.set_cons_zero, List.set_cons_succ] at E5
  clear z0 z1 z2 z3 z4 z5 z6 zf y0 y1 y2 y3 y4 y5 y6 yf A0 E4
  have z0 := E5.cell 0 rfl 0 rfl
  have z1 := E5.cell 0 rfl 1 rfl
  have z2 := E5.cell 0 rfl 2 rfl
  have z3 := E5.cell 0 rfl 3 rfl
  have z4 := E5.cell 0 rfl 4 rfl
  have z5 := E5.cell 0 rfl 5 rfl
  have z6 := E5.cell 0 rfl 6 rfl
  have zf := fun k => E5.free 0 rfl k
  go_wp2
  have G0 := E5.cellset 0 rfl 0 (.int .i64 0)
  simp only [List.set_cons_zero] at G0
  have G1 := G0.cellset 0 rfl 1 (.int .i64 0)
  simp only [List.set_cons_zero, List.set_cons_succ] at G1
  have G2 := G1.cellset 0 rfl 2 (.int .i64 0)
  simp only [List.set_cons_zero, List.set_cons_succ] at G2
  have G3 := G2.cellset 0 rfl 3 (.int .i64 0)
  simp only [List.set_cons_zero, List.set_cons_succ] at G3
  have G4 := G3.cellset 0 rfl 4 (.int .i64 0)
  simp only [List.set_cons_zero, List.set_cons_succ] at G4
  have G5 := G4.cellset 0 rfl 5 (.int .i64 0)
  simp only [List.set_cons_zero, List.set_cons_succ] at G5
  have G6 := G5.cellset 0 rfl 6 (.slice none 0 0)
  simp only [List.set_cons_zero, List.set_cons_succ] at G6
  exact bodyPost_ret (v := .tuple #[.agg #[.int .i64 0, .int .i64 0, .int .i64 0, .int .i64 0, .int .i64 0, .int .i64 0, .slice none 0 0], .pointer none, .int .i64 q]) (by simp [results, Try.results30, go_sem, z0, z1, z2, z3, z4, z5, z6]) rfl ⟨by rw [HN.out], G6.low⟩
end Go.Proofs.Ytpigoegjoagbnaa
end
section
/- current.Tax, in one. -/
namespace Go.Proofs.Ytpigoegjoagbnaa
open Go.RowKit Go.Sl
set_option maxHeartbeats 1000000
set_option maxRecDepth 100000
theorem curTax_calls (h : Hp) (b : Nat) (l : List STri) (bk pm mv most life year r : Int) (w : World) (hs : h.sub w) (S : Vnt h b l) :
    Calls Try.prog 30 #[.pointer (some ⟨b, 0, none⟩), .int .i64 bk, .int .i64 pm, .int .i64 mv, .int .i64 most, .int .i64 life, .int .i64 year, .int .i64 r] w fun e w' =>
      (curE l bk pm mv most life year r ≠ 0 ∧ e = .returned (.tuple #[noRes, .pointer none, .int .i64 (curE l bk pm mv most life year r)]) ∧ Below w.heap.size w w') ∨
      (curE l bk pm mv most life year r = 0 ∧ CurOk l (incV bk pm mv) most life year r w e w') := by
  cases ha : curArg most life year r with
  | false =>
    have hE : curE l bk pm mv most life year r = 1 := by unfold curE; rw [if_pos ha]
    rw [hE]
    exact (curTax_arg b l bk pm mv most life year r w ha).mono fun _ _ ⟨h1, h2⟩ => .inl ⟨by decide, h1, h2⟩
  | true =>
  cases hi : incOk bk pm mv with
  | false =>
    have hE : curE l bk pm mv most life year r = 6 := by unfold curE; rw [if_neg (by simp [ha]), if_pos hi]
    rw [hE]
    exact (curTax_over b bk pm mv most life year r w ha hi).mono fun _ _ ⟨h1, h2⟩ => .inl ⟨by decide, h1, h2⟩
  | true =>
  by_cases hn : incV bk pm mv < 0
  · have hE : curE l bk pm mv most life year r = vAddE (vExp l year) year (year + life) (-(incV bk pm mv)) := by
      unfold curE; rw [if_neg (by simp [ha]), if_neg (by simp [hi]), if_pos hn]
    rw [hE]
    rcases Int.decEq (vAddE (vExp l year) year (year + life) (-(incV bk pm mv))) 0 with h0 | h0
    · exact (curTax_lossErr h b l bk pm mv most life year r w hs S ha hi _ rfl hn _ rfl h0).mono fun _ _ ⟨h1, h2⟩ => .inl ⟨h0, h1, h2⟩
    · exact (curTax_loss h b l bk pm mv most life year r w hs S ha hi _ rfl hn h0).mono fun _ _ h1 => .inr ⟨h0, h1⟩
  · have hE : curE l bk pm mv most life year r = 0 := by
      unfold curE; rw [if_neg (by simp [ha]), if_neg (by simp [hi]), if_neg hn]
    rw [hE]
    by_cases hz : incV bk pm mv = 0
    · refine (curTax_zero h b l bk pm mv most life year r w hs S ha hi hz).mono fun _ _ h1 => .inr ⟨rfl, ?_⟩
      rw [hz]; exact h1
    · exact (curTax_profit h b l bk pm mv most life year r w hs S ha hi _ rfl (by omega)).mono fun _ _ h1 => .inr ⟨rfl, h1⟩
end Go.Proofs.Ytpigoegjoagbnaa
end
