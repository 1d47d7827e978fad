/- Walks and plain facts that the laws of this seat share, part 6: contracts of functions, each said at its theorem. -/
import Derived.Test.YtpigoegjoagbnaaPk5
import Derived.WalkMore
import Derived.ScopeJumps
import Derived.Scope
import Derived.WalkKit
import Derived.Deep.RegionHeld3
set_option linter.all false
section
/- The walk of the reference's losses: Add. -/
namespace Go.Sl
theorem snoc_app {α : Type} (l : List α) (x : α) (r : List α) : l ++ x :: r = (l ++ [x]) ++ r := by simp
theorem snoc_app2 {α : Type} (l : List α) (x y : α) (r : List α) : l ++ x :: y :: r = (l ++ [x] ++ [y]) ++ r := by simp
end Go.Sl
namespace Go.Proofs.Ytpigoegjoagbnaa
open Go.RowKit Go.Sl
set_option maxHeartbeats 4000000
set_option maxRecDepth 100000
theorem refLossAdd_calls (b : Nat) (l : List STri) (o e n : Int) (h : Hp) (w : World) (hs : h.sub w) (hp : PtL h b l) (g : GoodV l) :
    Calls Try.prog 23 #[.pointer (some ⟨b, 0, none⟩), .int .i64 o, .int .i64 e, .int .i64 n] w (LAns b (vAddE l o e n) (vAdd l o e n) h w) := by
  have NO : ∀ {q : Int} {W : World}, vAddE l o e n = q → q ≠ 0 → Below w.heap.size w W → LAns b (vAddE l o e n) (vAdd l o e n) h w (.returned (.int .i64 q)) W := fun h1 h2 h3 => .no h1 (by unfold vAdd; rw [if_neg (by rw [h1]; exact h2)]) hp hs h3
  have hlen := g.len
  have hsp := sumC_pos g.lo
  have hmon := g.mon
  have HM0 := Lib.hid (refAddE g o e n)
  have hput := addGo_put (o := o) (e := e) (n := n) g.rise
  have glo := Lib.hid g.lo
  have LC := fun (W : World) (hW : Below w.heap.size w W) => refLossLeft_calls b l h W (hs.of_below hW)
  have LC := fun (W : World) (hW : Below w.heap.size w W) => refLossLeft_calls b l h W (hs.of_below hW) hp (by omega) (fun x hx => by have := g.lo x hx; have := le_sumC g.lo hx; omega)
  obtain ⟨cs, hb, A, ca, rfl, ow0⟩ := hp
  have hbw := hs b _ hb
  have hlt := hs.lt (b := b) (by simp [hb])
  have hc : w.cell? ⟨b, 0, none⟩ = some (.slice A l.length ca) := by rw [cell_of_row w b 0 _ _ _ hbw]; rfl
  have hf : w.frozen? ⟨b, 0, none⟩ = false := frozen_of_row w b 0 _ _ hbw
  have sx := ow0.sl
  have hd := hs.del b
  have m1 := sx.small
  have YC := fun W : World => refYear_calls o W
  by_cases ho : 0 ≤ o ∧ o ≤ 99
  case neg =>
    have HE : Hid (vAddE l o e n = 1) := by unfold Hid; rw [HM0.out, if_pos (by simp [vOk]; omega)]
    rw [decide_eq_false ho] at YC
    clear LC
    go_enter Try.func23, Try.ntmps23
    go_wp2_with fail
    refine (YC _).mono ?_
    rintro e' w' ⟨rfl, rfl⟩
    go_wp2
    go_ret
    exact NO HE.out (by decide) (Below.refl _ _)
  rw [decide_eq_true ho] at YC
  by_cases hr : o ≤ e ∧ e ≤ 198 ∧ 1 ≤ n ∧ n ≤ 100000000000
  case neg =>
    have HE : Hid (vAddE l o e n = 1) := by unfold Hid; rw [HM0.out, if_pos (by simp [vOk]; omega)]
    clear LC
    rcases (show e < o ∨ (o ≤ e ∧ 198 < e) ∨ (o ≤ e ∧ e ≤ 198 ∧ n < 1) ∨ (o ≤ e ∧ e ≤ 198 ∧ 1 ≤ n ∧ 100000000000 < n) by omega) with h1 | ⟨h1, h2⟩ | ⟨h1, h2, h3⟩ | ⟨h1, h2, h3, h4⟩
    all_goals
      clear hr
      go_enter Try.func23, Try.ntmps23
      go_wp2_with fail
      refine (YC _).mono ?_
      rintro e' w' ⟨rfl, rfl⟩
      go_wp2
      go_ret
      exact NO HE.out (by decide) (Below.refl _ _)
  obtain ⟨hr1, hr2, hr3, hr4⟩ := hr
  have HM1 : Hid (vAddE l o e n = if 100000000000 < sumC l + n then 6 else if 12 < (putV l o e (getV l o e + n)).length then 5 else 0) := by unfold Hid; rw [HM0.out, if_neg (by simp [vOk]; omega)]
  clear HM0
  by_cases h6 : 100000000000 < sumC l + n
  · have HE : Hid (vAddE l o e n = 6) := by unfold Hid; rw [HM1.out, if_pos h6]
    clear HM1
    generalize sumC l = s at *
    go_enter Try.func23, Try.ntmps23
    go_wp2_with fail
    refine (YC _).mono ?_
    rintro e' w' ⟨rfl, rfl⟩
    go_wp2_with fail
    refine (LC _ (Below.refl _ _)).mono ?_
    rintro e' w1 ⟨rfl, B1⟩
    go_wp2
    go_ret
    exact NO HE.out (by decide) B1
  have HM : Hid (vAddE l o e n = if 12 < (putV l o e (getV l o e + n)).length then 5 else 0) := by unfold Hid; rw [HM1.out, if_neg h6]
  clear HM1
  have hxs : Hid (∀ x ∈ l, 1 ≤ x.c ∧ x.c ≤ 100000000000) := fun x hx => by have := glo.out x hx; have := le_sumC glo.out hx; omega
  generalize sumC l = s at *
  obtain ⟨P, hP⟩ : ∃ P, putV l o e (getV l o e + n) = P := ⟨_, rfl⟩
  rw [hP] at HM hput
  have HP := Lib.hid hP
  clear hP
  obtain ⟨G, hG⟩ : ∃ G : Bool → List STri → List STri, G = addGo o e n := ⟨_, rfl⟩
  have HG : Hid (P = G false l) := by unfold Hid; rw [hG, hput]
  have HEn : ∀ d : Bool, Hid (G d [] = if d = true then [] else [⟨o, e, n⟩]) := fun d => by rw [hG]; exact rfl
  have GS : ∀ {x : STri} {d : Bool} {r : List STri}, x.a = o → x.b = e → G d (x :: r) = ⟨x.a, x.b, x.c + n⟩ :: G true r := fun h1 h2 => by rw [hG, addGo, if_pos ⟨h1, h2⟩]
  have GK : ∀ {x : STri} {d : Bool} {r : List STri}, ¬(x.a = o ∧ x.b = e) → (d = true ∨ ¬(e < x.b ∨ x.b = e ∧ o < x.a)) → G d (x :: r) = x :: G d r := fun h1 h2 => by
    rw [hG, addGo, if_neg h1, if_neg]; rintro ⟨h3, h4⟩; rcases h2 with h2 | h2
    · rw [h2] at h3; cases h3
    · exact h2 h4
  have GL : ∀ {x : STri} {r : List STri}, ¬(x.a = o ∧ x.b = e) → (e < x.b ∨ x.b = e ∧ o < x.a) → G false (x :: r) = ⟨o, e, n⟩ :: x :: G true r := fun h1 h2 => by
    rw [hG, addGo, if_neg h1, if_pos ⟨rfl, h2⟩]
  clear hG hput
  go_enter Try.func23, Try.ntmps23
  go_wp2_with fail
  refine (YC _).mono ?_
  rintro e' w' ⟨rfl, rfl⟩
  go_wp2_with fail
  refine (LC _ (Below.refl _ _)).mono ?_
  rintro e' w1 ⟨rfl, B1⟩
  have E1 := ((Env.start w).below B1).new (Upd.of_below (Below.refl w1.heap.size w1))
  simp at E1
  have hc1 := (B1.cell (p := ⟨b, 0, none⟩) hlt).trans hc
  go_wp2
  clear LC YC hc1
  go_loopw [9, 10, 43] (fun v d i wr => ∃ (j cap m : Nat) (dn : Bool) (C : Option Addr) (h' : Hp) (os : List STri), j ≤ l.length ∧ i = .int .i64 j ∧ d = .bool dn ∧ v = .slice C m cap ∧ Hid (os.length = m) ∧ Hid (G false l = os ++ G dn (l.drop j)) ∧ m ≤ 2 * j ∧ Ow kTri h' C cap os ∧ Env w wr [h']) (fun _ _ i _ => l.length - (intOf i).toNat)
  case atStart => exact ⟨0, 0, 0, false, none, Hp.none, [], by omega, rfl, rfl, rfl, rfl, by unfold Hid; simp, by omega, Ow.none _ _, E1⟩
  case round =>
    clear E1 B1
    obtain ⟨j, cap, m, dn, C, h', os, hj, rfl, rfl, rfl, hm, hg, hm2, ow, E⟩ := hrel
    by_cases hlt2 : j < l.length
    · obtain ⟨x, hx⟩ := some_of_lt hlt2
      obtain ⟨b1, o1, rfl, c1, c2, c3⟩ := sx.tri (hd.of_below E.low) hx
      have i1 : (0 : Int) ≤ (j : Int) := by omega
      have i2 : (j : Int) < (l.length : Int) := by omega
      have hxc := hxs.out x (List.mem_of_getElem? hx.out)
      have HD : Hid (G false l = os ++ G dn (x :: l.drop (j + 1))) := by unfold Hid; rw [hg.out, drop_next hx]
      clear hg HEn
      go_upto_region 10 with fail
      replace E := E.alloc (.cells #[.int .i64 x.a, .int .i64 x.b, .int .i64 x.c] 34)
      simp at E
      obtain ⟨W, hW⟩ : ∃ W : World, W = wr.alloc (.cells #[.int .i64 x.a, .int .i64 x.b, .int .i64 x.c] 34) := ⟨_, rfl⟩
      rw [← hW] at E
      rw [← hW]
      clear hW
      have q0 := E.cell 1 rfl 0 rfl
      have q1 := E.cell 1 rfl 1 rfl
      have q2 := E.cell 1 rfl 2 rfl
      have qf := fun k => E.free 1 rfl k
      generalize wr.heap.size = bw at *
      clear c1 c2 c3
      by_cases ha : x.a = o
      · by_cases hb : x.b = e
        · skip
          have HN : Hid (G false l = (os ++ [⟨x.a, x.b, x.c + n⟩]) ++ G true (l.drop (j + 1))) := by unfold Hid; rw [HD.out, GS ha hb, snoc_app]
          have t1 : (x.a == o) = true := by simpa using ha
          have t2 : (x.b == e) = true := by simpa using hb
          clear ha hb GS GK GL HD
          go_upto_region 15 with fail
          have E4 := E.cellset 1 rfl 2 (.int .i64 (x.c + n))
          simp only [List.set_cons_zero, List.set_cons_succ] at E4
          obtain ⟨X, hX⟩ : ∃ X, X = W.setCell ⟨bw, 2, none⟩ (.int .i64 (x.c + n)) := ⟨_, rfl⟩
          rw [← hX] at E4
          rw [← hX]
          clear hX q0 q1 q2 qf E
          have q0 := E4.cell 1 rfl 0 rfl
          have q1 := E4.cell 1 rfl 1 rfl
          have q2 := E4.cell 1 rfl 2 rfl
          clear t1 t2
          generalize x.c + n = xn at *
          go_wp2_with (at_builtin; refine wpList_eapp 0 ⟨x.a, x.b, xn⟩ Try.underlying31 info_vint (by repeat (first | (with_reducible exact E4) | (with_reducible apply Env.drew) | (with_reducible apply Env.drewN) | (with_reducible apply Env.alloc'))) (by rfl) ow m hm.out (by rfl) (by rfl) rfl 1 (by rfl) (by rfl) (heap_new_at (by simp)) (by rfl) (by omega) (by omega) ?_; intro C5 n5 w5 h5 o5 E5)
          have E6 := E5.drop 1
          simp at E6
          go_roundw
          case rel => exact ⟨j + 1, n5, m + 1, _, C5, h5, os ++ [⟨x.a, x.b, xn⟩], by omega, by go_num, rfl, rfl, by unfold Hid; rw [List.length_append, hm.out]; rfl, HN, by omega, o5, E6⟩
          case measure => simp [intOf]; omega
        · have t1 : (x.a == o) = true := by simpa using ha
          have t2 : (x.b == e) = false := by simpa using hb
          cases dn with
          | true =>
            have HN : Hid (G false l = (os ++ [x]) ++ G true (l.drop (j + 1))) := by unfold Hid; rw [HD.out, GK (fun h => hb h.2) (.inl rfl), snoc_app]
            clear ha hb
            clear GS GK GL HD
            go_wp2_with (at_builtin; refine wpList_eapp 0 x Try.underlying31 info_vint (by repeat (first | (with_reducible exact E) | (with_reducible apply Env.drew) | (with_reducible apply Env.drewN) | (with_reducible apply Env.alloc'))) (by rfl) ow m hm.out (by rfl) (by rfl) rfl 1 (by rfl) (by rfl) (heap_new_at (by simp)) (by rfl) (by omega) (by omega) ?_; intro C5 n5 w5 h5 o5 E5)
            have E6 := E5.drop 1
            simp at E6
            go_roundw
            case rel => exact ⟨j + 1, n5, m + 1, _, C5, h5, os ++ [x], by omega, by go_num, rfl, rfl, by unfold Hid; rw [List.length_append, hm.out]; rfl, HN, by omega, o5, E6⟩
            case measure => simp [intOf]; omega
          | false =>
            by_cases h1 : e < x.b
            · have HN : Hid (G false l = (os ++ [⟨o, e, n⟩] ++ [x]) ++ G true (l.drop (j + 1))) := by unfold Hid; rw [HD.out, GL (fun h => hb h.2) (.inl h1), snoc_app2]
              clear ha hb
              clear GS GK GL HD
              have hm3 : Hid ((os ++ [(⟨o, e, n⟩ : STri)]).length = m + 1) := by unfold Hid; rw [List.length_append, hm.out]; rfl
              go_upto_region 15 with (at_builtin; refine wpList_eapp 0 ⟨o, e, n⟩ Try.underlying31 info_vint (by repeat (first | (with_reducible exact E) | (with_reducible apply Env.drew) | (with_reducible apply Env.drewN) | (with_reducible apply Env.alloc'))) (by rfl) ow m hm.out (by rfl) (by rfl) rfl 1 (by rfl) (by rfl) (heap_new_at (by simp)) (by rfl) (by omega) (by omega) ?_; intro C4 n4 w4 h4 o4 E4)
              simp only [List.set_cons_zero, List.set_cons_succ] at E4
              clear q0 q1 q2 qf E
              have q0 := E4.cell 1 rfl 0 rfl
              have q1 := E4.cell 1 rfl 1 rfl
              have q2 := E4.cell 1 rfl 2 rfl
              go_wp2_with (at_builtin; refine wpList_eapp 0 x Try.underlying31 info_vint (by repeat (first | (with_reducible exact E4) | (with_reducible apply Env.drew) | (with_reducible apply Env.drewN) | (with_reducible apply Env.alloc'))) (by rfl) o4 (m+1) hm3.out (by rfl) (by rfl) rfl 1 (by rfl) (by rfl) (heap_new_at (by simp)) (by rfl) (by omega) (by omega) ?_; intro C5 n5 w5 h5 o5 E5)
              have E6 := E5.drop 1
              simp at E6
              go_roundw
              case rel => exact ⟨j + 1, n5, m + 1 + 1, _, C5, h5, os ++ [⟨o, e, n⟩] ++ [x], by omega, by go_num, rfl, rfl, by unfold Hid; rw [List.length_append, hm3.out]; rfl, HN, by omega, o5, E6⟩
              case measure => simp [intOf]; omega
            · have HN : Hid (G false l = (os ++ [x]) ++ G false (l.drop (j + 1))) := by unfold Hid; rw [HD.out, GK (fun h => hb h.2) (.inr (by omega)), snoc_app]
              clear ha hb
              clear GS GK GL HD
              go_wp2_with (at_builtin; refine wpList_eapp 0 x Try.underlying31 info_vint (by repeat (first | (with_reducible exact E) | (with_reducible apply Env.drew) | (with_reducible apply Env.drewN) | (with_reducible apply Env.alloc'))) (by rfl) ow m hm.out (by rfl) (by rfl) rfl 1 (by rfl) (by rfl) (heap_new_at (by simp)) (by rfl) (by omega) (by omega) ?_; intro C5 n5 w5 h5 o5 E5)
              have E6 := E5.drop 1
              simp at E6
              go_roundw
              case rel => exact ⟨j + 1, n5, m + 1, _, C5, h5, os ++ [x], by omega, by go_num, rfl, rfl, by unfold Hid; rw [List.length_append, hm.out]; rfl, HN, by omega, o5, E6⟩
              case measure => simp [intOf]; omega
      · have t1 : (x.a == o) = false := by simpa using ha
        by_cases hb : x.b = e
        · have t2 : (x.b == e) = true := by simpa using hb
          cases dn with
          | true =>
            have HN : Hid (G false l = (os ++ [x]) ++ G true (l.drop (j + 1))) := by unfold Hid; rw [HD.out, GK (fun h => ha h.1) (.inl rfl), snoc_app]
            clear ha hb
            clear GS GK GL HD
            go_wp2_with (at_builtin; refine wpList_eapp 0 x Try.underlying31 info_vint (by repeat (first | (with_reducible exact E) | (with_reducible apply Env.drew) | (with_reducible apply Env.drewN) | (with_reducible apply Env.alloc'))) (by rfl) ow m hm.out (by rfl) (by rfl) rfl 1 (by rfl) (by rfl) (heap_new_at (by simp)) (by rfl) (by omega) (by omega) ?_; intro C5 n5 w5 h5 o5 E5)
            have E6 := E5.drop 1
            simp at E6
            go_roundw
            case rel => exact ⟨j + 1, n5, m + 1, _, C5, h5, os ++ [x], by omega, by go_num, rfl, rfl, by unfold Hid; rw [List.length_append, hm.out]; rfl, HN, by omega, o5, E6⟩
            case measure => simp [intOf]; omega
          | false =>
            by_cases h1 : o < x.a
            · have HN : Hid (G false l = (os ++ [⟨o, e, n⟩] ++ [x]) ++ G true (l.drop (j + 1))) := by unfold Hid; rw [HD.out, GL (fun h => ha h.1) (.inr ⟨hb, h1⟩), snoc_app2]
              have h3 : ¬ e < x.b := by omega
              clear ha hb
              clear GS GK GL HD
              have hm3 : Hid ((os ++ [(⟨o, e, n⟩ : STri)]).length = m + 1) := by unfold Hid; rw [List.length_append, hm.out]; rfl
              go_upto_region 15 with (at_builtin; refine wpList_eapp 0 ⟨o, e, n⟩ Try.underlying31 info_vint (by repeat (first | (with_reducible exact E) | (with_reducible apply Env.drew) | (with_reducible apply Env.drewN) | (with_reducible apply Env.alloc'))) (by rfl) ow m hm.out (by rfl) (by rfl) rfl 1 (by rfl) (by rfl) (heap_new_at (by simp)) (by rfl) (by omega) (by omega) ?_; intro C4 n4 w4 h4 o4 E4)
              simp only [List.set_cons_zero, List.set_cons_succ] at E4
              clear q0 q1 q2 qf E
              have q0 := E4.cell 1 rfl 0 rfl
              have q1 := E4.cell 1 rfl 1 rfl
              have q2 := E4.cell 1 rfl 2 rfl
              go_wp2_with (at_builtin; refine wpList_eapp 0 x Try.underlying31 info_vint (by repeat (first | (with_reducible exact E4) | (with_reducible apply Env.drew) | (with_reducible apply Env.drewN) | (with_reducible apply Env.alloc'))) (by rfl) o4 (m+1) hm3.out (by rfl) (by rfl) rfl 1 (by rfl) (by rfl) (heap_new_at (by simp)) (by rfl) (by omega) (by omega) ?_; intro C5 n5 w5 h5 o5 E5)
              have E6 := E5.drop 1
              simp at E6
              go_roundw
              case rel => exact ⟨j + 1, n5, m + 1 + 1, _, C5, h5, os ++ [⟨o, e, n⟩] ++ [x], by omega, by go_num, rfl, rfl, by unfold Hid; rw [List.length_append, hm3.out]; rfl, HN, by omega, o5, E6⟩
              case measure => simp [intOf]; omega
            · have HN : Hid (G false l = (os ++ [x]) ++ G false (l.drop (j + 1))) := by unfold Hid; rw [HD.out, GK (fun h => ha h.1) (.inr (by omega)), snoc_app]
              have h3 : ¬ e < x.b := by omega
              clear ha hb
              clear GS GK GL HD
              go_wp2_with (at_builtin; refine wpList_eapp 0 x Try.underlying31 info_vint (by repeat (first | (with_reducible exact E) | (with_reducible apply Env.drew) | (with_reducible apply Env.drewN) | (with_reducible apply Env.alloc'))) (by rfl) ow m hm.out (by rfl) (by rfl) rfl 1 (by rfl) (by rfl) (heap_new_at (by simp)) (by rfl) (by omega) (by omega) ?_; intro C5 n5 w5 h5 o5 E5)
              have E6 := E5.drop 1
              simp at E6
              go_roundw
              case rel => exact ⟨j + 1, n5, m + 1, _, C5, h5, os ++ [x], by omega, by go_num, rfl, rfl, by unfold Hid; rw [List.length_append, hm.out]; rfl, HN, by omega, o5, E6⟩
              case measure => simp [intOf]; omega
        · have t2 : (x.b == e) = false := by simpa using hb
          cases dn with
          | true =>
            have HN : Hid (G false l = (os ++ [x]) ++ G true (l.drop (j + 1))) := by unfold Hid; rw [HD.out, GK (fun h => ha h.1) (.inl rfl), snoc_app]
            clear ha hb
            clear GS GK GL HD
            go_wp2_with (at_builtin; refine wpList_eapp 0 x Try.underlying31 info_vint (by repeat (first | (with_reducible exact E) | (with_reducible apply Env.drew) | (with_reducible apply Env.drewN) | (with_reducible apply Env.alloc'))) (by rfl) ow m hm.out (by rfl) (by rfl) rfl 1 (by rfl) (by rfl) (heap_new_at (by simp)) (by rfl) (by omega) (by omega) ?_; intro C5 n5 w5 h5 o5 E5)
            have E6 := E5.drop 1
            simp at E6
            go_roundw
            case rel => exact ⟨j + 1, n5, m + 1, _, C5, h5, os ++ [x], by omega, by go_num, rfl, rfl, by unfold Hid; rw [List.length_append, hm.out]; rfl, HN, by omega, o5, E6⟩
            case measure => simp [intOf]; omega
          | false =>
            by_cases h1 : e < x.b
            · have HN : Hid (G false l = (os ++ [⟨o, e, n⟩] ++ [x]) ++ G true (l.drop (j + 1))) := by unfold Hid; rw [HD.out, GL (fun h => ha h.1) (.inl h1), snoc_app2]
              clear ha hb
              clear GS GK GL HD
              have hm3 : Hid ((os ++ [(⟨o, e, n⟩ : STri)]).length = m + 1) := by unfold Hid; rw [List.length_append, hm.out]; rfl
              go_upto_region 15 with (at_builtin; refine wpList_eapp 0 ⟨o, e, n⟩ Try.underlying31 info_vint (by repeat (first | (with_reducible exact E) | (with_reducible apply Env.drew) | (with_reducible apply Env.drewN) | (with_reducible apply Env.alloc'))) (by rfl) ow m hm.out (by rfl) (by rfl) rfl 1 (by rfl) (by rfl) (heap_new_at (by simp)) (by rfl) (by omega) (by omega) ?_; intro C4 n4 w4 h4 o4 E4)
              simp only [List.set_cons_zero, List.set_cons_succ] at E4
              clear q0 q1 q2 qf E
              have q0 := E4.cell 1 rfl 0 rfl
              have q1 := E4.cell 1 rfl 1 rfl
              have q2 := E4.cell 1 rfl 2 rfl
              go_wp2_with (at_builtin; refine wpList_eapp 0 x Try.underlying31 info_vint (by repeat (first | (with_reducible exact E4) | (with_reducible apply Env.drew) | (with_reducible apply Env.drewN) | (with_reducible apply Env.alloc'))) (by rfl) o4 (m+1) hm3.out (by rfl) (by rfl) rfl 1 (by rfl) (by rfl) (heap_new_at (by simp)) (by rfl) (by omega) (by omega) ?_; intro C5 n5 w5 h5 o5 E5)
              have E6 := E5.drop 1
              simp at E6
              go_roundw
              case rel => exact ⟨j + 1, n5, m + 1 + 1, _, C5, h5, os ++ [⟨o, e, n⟩] ++ [x], by omega, by go_num, rfl, rfl, by unfold Hid; rw [List.length_append, hm3.out]; rfl, HN, by omega, o5, E6⟩
              case measure => simp [intOf]; omega
            · have HN : Hid (G false l = (os ++ [x]) ++ G false (l.drop (j + 1))) := by unfold Hid; rw [HD.out, GK (fun h => ha h.1) (.inr (by omega)), snoc_app]
              clear ha hb
              clear GS GK GL HD
              go_wp2_with (at_builtin; refine wpList_eapp 0 x Try.underlying31 info_vint (by repeat (first | (with_reducible exact E) | (with_reducible apply Env.drew) | (with_reducible apply Env.drewN) | (with_reducible apply Env.alloc'))) (by rfl) ow m hm.out (by rfl) (by rfl) rfl 1 (by rfl) (by rfl) (heap_new_at (by simp)) (by rfl) (by omega) (by omega) ?_; intro C5 n5 w5 h5 o5 E5)
              have E6 := E5.drop 1
              simp at E6
              go_roundw
              case rel => exact ⟨j + 1, n5, m + 1, _, C5, h5, os ++ [x], by omega, by go_num, rfl, rfl, by unfold Hid; rw [List.length_append, hm.out]; rfl, HN, by omega, o5, E6⟩
              case measure => simp [intOf]; omega
    · obtain rfl : j = l.length := by omega
      rw [List.drop_length] at hg
      clear GS GK GL
      cases dn with
      | true =>
        have HF : Hid (P = os) := by unfold Hid; rw [HG.out, hg.out, (HEn true).out, if_pos rfl, List.append_nil]
        clear hg HEn HG
        go_upto_region 19 with fail
        have UB := E.made (h := h') (by simp)
        have hcr := (E.low.cell (p := ⟨b, 0, none⟩) hlt).trans hc
        have hfr := (E.low.frozen (p := ⟨b, 0, none⟩) hlt).trans hf
        by_cases h12 : 12 < m
        · have HE : Hid (vAddE l o e n = 5) := by unfold Hid; rw [HM.out, if_pos (by rw [HF.out, hm.out]; exact h12)]
          clear HM
          go_wp2
          go_ret
          exact NO HE.out (by decide) E.low
        · have HE : Hid (vAddE l o e n = 0) := by unfold Hid; rw [HM.out, if_neg (by rw [HF.out, hm.out]; exact h12)]
          have HL : Hid (vAdd l o e n = os) := by unfold Hid vAdd; rw [if_pos HE.out, HP.out, HF.out]
          clear HM NO
          go_wp2
          obtain ⟨UF, hn3⟩ := Upd.field (v := .slice C m cap) 0 hb hs (Hp.none_le _) UB
          go_ret
          exact ⟨_, by rw [HE.out]; rfl, ⟨_, Hp.put_self, C, cap, by rw [HL.out, hm.out]; rfl, by rw [Hp.put_del hn3, HL.out]; exact ow⟩, UF⟩
      | false =>
        have HF : Hid (P = os ++ [⟨o, e, n⟩]) := by unfold Hid; rw [HG.out, hg.out, (HEn false).out, if_neg (by decide)]
        clear hg HEn HG
        go_upto_region 19 with (at_builtin; refine wpList_eapp 0 ⟨o, e, n⟩ Try.underlying31 info_vint (by repeat (first | (with_reducible exact E) | (with_reducible apply Env.drew) | (with_reducible apply Env.drewN) | (with_reducible apply Env.alloc'))) (by rfl) ow m hm.out (by rfl) (by rfl) rfl 1 (by rfl) (by rfl) (heap_new_at (by simp)) (by rfl) (by omega) (by omega) ?_; intro C5 n5 w5 h5 o5 E5)
        simp only [List.set_cons_zero] at E5
        have hm5 : Hid ((os ++ [(⟨o, e, n⟩ : STri)]).length = m + 1) := by unfold Hid; rw [List.length_append, hm.out]; rfl
        clear E ow hm
        generalize os ++ [(⟨o, e, n⟩ : STri)] = os5 at *
        generalize m + 1 = m5 at *
        have UB := E5.made (h := h5) (by simp)
        have hcr := (E5.low.cell (p := ⟨b, 0, none⟩) hlt).trans hc
        have hfr := (E5.low.frozen (p := ⟨b, 0, none⟩) hlt).trans hf
        by_cases h12 : 12 < m5
        · have HE : Hid (vAddE l o e n = 5) := by unfold Hid; rw [HM.out, if_pos (by rw [HF.out, hm5.out]; exact h12)]
          clear HM
          go_wp2
          go_ret
          exact NO HE.out (by decide) E5.low
        · have HE : Hid (vAddE l o e n = 0) := by unfold Hid; rw [HM.out, if_neg (by rw [HF.out, hm5.out]; exact h12)]
          have HL : Hid (vAdd l o e n = os5) := by unfold Hid vAdd; rw [if_pos HE.out, HP.out, HF.out]
          clear HM NO
          go_wp2
          obtain ⟨UF, hn3⟩ := Upd.field (v := .slice C5 m5 n5) 0 hb hs (Hp.none_le _) UB
          go_ret
          exact ⟨_, by rw [HE.out]; rfl, ⟨_, Hp.put_self, C5, n5, by rw [HL.out, hm5.out]; rfl, by rw [Hp.put_del hn3, HL.out]; exact o5⟩, UF⟩
end Go.Proofs.Ytpigoegjoagbnaa
end
section
/- The walk of vintage.Expire. -/
namespace Go.Sl
open Go Go.RowKit
theorem Ow.behind {α : Type} {k : Kd α} {h : Hp} {b off cap : Nat} {xs : List α} (o : Ow k h (some ⟨b, off, .none⟩) cap xs) (n : Nat) : Ow k h (if cap = n then some ⟨b, off, .none⟩ else some ⟨b, off + n * k.size, .none⟩) (cap - n) (xs.drop n) := by
  refine ⟨by have := o.le; simp; omega, by have := o.max; omega, (by intro e; split at e <;> cases e), fun ad e hc => ?_⟩
  rw [if_neg (by omega)] at e
  cases e
  obtain ⟨b', off', cur, E, e, hb, hsz, hr⟩ := o.row _ rfl (by omega)
  cases e
  refine ⟨b, _, cur, E, rfl, hb, ?_, fun i x hx => ?_⟩
  · rw [Nat.add_assoc, ← Nat.add_mul, show n + (cap - n) = cap by omega]; exact hsz
  · rw [List.getElem?_drop] at hx
    obtain ⟨cs, hK, hcs⟩ := hr (n + i) x hx
    refine ⟨cs, hK, fun j u hu => ?_⟩
    have := hcs j u hu
    rw [Nat.add_mul] at this
    rw [← this]; congr 1; omega
end Go.Sl
namespace Go.Proofs.Ytpigoegjoagbnaa
open Go.RowKit Go.Sl Go.Sort
set_option maxHeartbeats 4000000
set_option maxRecDepth 100000
theorem vintExp_calls (b : Nat) (l : List STri) (y : Int) (h : Hp) (w : World) (hs : h.sub w) (hp : PtV h b l) (g : GoodV l) :
    Calls Try.prog 16 #[.pointer (some ⟨b, 0, none⟩), .int .i64 y] w fun e w' => ∃ h', e = .returned (.int .i64 (vGone l y)) ∧ PtV h' b (vExp l y) ∧ Upd h h' w w' := by
  have gm := g.mon
  go_enter Try.func16, Try.ntmps16
  go_wp2
  refine wp_scope_jumps 0 (fun a' w' => ∃ (k : Nat) (h' : Hp) (u2 u3 u6 u7 u8 u9 u10 u11 u12 u13 u14 u15 u16 u17 u18 u19 u20 u21 u22 u23 u24 u25 u26 u27 u28 u29 u30 u31 u32 u33 u34 u35 u36 u37 u38 u39 u40 : Value), a' = { tmps := #[.pointer (some ⟨b, 0, none⟩), .int .i64 y, u2, u3, .int .i64 0, .int .i64 (sumC (l.take k)), u6, u7, u8, u9, u10, u11, u12, u13, u14, u15, u16, u17, u18, u19, u20, u21, u22, u23, u24, u25, u26, u27, u28, u29, u30, u31, u32, u33, u34, u35, u36, u37, u38, u39, u40], defers := [] } ∧ k ≤ l.length ∧ Hid (∀ x ∈ l.take k, x.b < y) ∧ PtV h' b (l.drop k) ∧ Upd h h' w w') (fun a' _ => (sumC l - intOf (a'.tmps.getD 5 undef)).toNat) rfl ?_ ?_
  · obtain ⟨k, hk⟩ : ∃ k : Nat, k = 0 := ⟨0, rfl⟩
    have p : PtV h b (l.drop k) := by rw [hk]; exact hp
    have u := Upd.stay hs (Below.refl _ _)
    have HB : Hid (∀ x ∈ l.take k, x.b < y) := by unfold Hid; rw [hk]; simp
    have hz : sumC (l.take k) = 0 := by rw [hk]; rfl
    go_wp2
    go_step3
    obtain ⟨A', ca', hb', hc', ow', hf'⟩ := p.one u.sub
    have hfz := hf' 0
    rw [List.length_drop] at hc' hb'
    have lmo := ow'.small
    have hs0 := sumC_take_le g.lo k
    by_cases hlt : k < l.length
    · obtain ⟨x, hx⟩ := some_of_lt hlt
      have hx0 : Hid ((l.drop k)[0]? = some x) := by unfold Hid; rw [List.getElem?_drop]; exact hx.out
      obtain ⟨bx, ox, rfl, c1, c2, c3⟩ := ow'.sl.tri (u.sub.del b) hx0
      simp only [Nat.zero_mul, Nat.add_zero] at c1 c2 c3
      obtain ⟨m, hm⟩ : ∃ m, l.length - k = m + 1 := ⟨l.length - k - 1, by omega⟩
      rw [hm] at hc' hb'
      have hTk : Hid (sumC (l.take (k + 1)) = sumC (l.take k) + x.c) := by unfold Hid; rw [take_next hx, sumC_snoc]
      have hxl := g.lo x (List.mem_of_getElem? hx.out)
      have hs1 := sumC_take_le g.lo (k + 1)
      rw [hTk.out] at hs1
      have hcap : m + 1 ≤ ca' := by have := ow'.le; rw [List.length_drop, hm] at this; exact this
      have hcapI : ((m : Int) + 1) ≤ (ca' : Int) := by omega
      by_cases hy : x.b < y
      · have t1 : decide (x.b < y) = true := by simpa using hy
        have HB' : Hid (∀ z ∈ l.take (k + 1), z.b < y) := by
          intro z hz
          rw [take_next hx] at hz
          rcases List.mem_append.1 hz with hz | hz
          · exact HB.out z hz
          · simp at hz; rw [hz]; exact hy
        have ob := ow'.behind 1
        rw [List.drop_drop] at ob
        have hdl : (l.drop (k + 1)).length = m := by rw [List.length_drop]; omega
        generalize hsk : sumC (l.take k) = sk at *
        clear hy
        rcases Nat.decEq ca' 1 with hca | hca
        · rw [if_neg hca] at ob
          go_wp2
          go_step3
          have UF := fun v => (Upd.field (v := v) 0 hb' u.sub (Hp.le_refl _) (Upd.stay (u.sub.del b) (Below.refl _ _))).1
          exact ⟨rfl, ⟨k + 1, _, _, _, _, _, _, _, _, _, _, _, _, _, _, _, _, _, _, _, _, _, _, _, _, _, _, _, _, _, _, _, _, _, _, _, _, _, _, by rw [hTk.out, hz, Int.zero_add], by omega, HB', ⟨_, Hp.put_self, _, _, by rw [hdl]; rfl, by rw [Hp.put_del Hp.del_self]; exact ob⟩, u.trans (UF _)⟩⟩
        · rw [if_pos hca] at ob
          subst hca
          obtain rfl : m = 0 := by omega
          go_wp2
          go_step3
          have UF := fun v => (Upd.field (v := v) 0 hb' u.sub (Hp.le_refl _) (Upd.stay (u.sub.del b) (Below.refl _ _))).1
          exact ⟨rfl, ⟨k + 1, _, _, _, _, _, _, _, _, _, _, _, _, _, _, _, _, _, _, _, _, _, _, _, _, _, _, _, _, _, _, _, _, _, _, _, _, _, _, by rw [hTk.out, hz, Int.zero_add], by omega, HB', ⟨_, Hp.put_self, _, _, by rw [hdl]; rfl, by rw [Hp.put_del Hp.del_self]; exact ob⟩, u.trans (UF _)⟩⟩
      · have t1 : decide (x.b < y) = false := by simpa using hy
        have hd : l.drop k = x :: l.drop (k + 1) := drop_next hx
        have hv := rising_over (y := y) (x := x) (l := l.drop (k + 1)) (by rw [← hd]; exact List.Pairwise.sublist (List.drop_sublist k l) g.rise) hy
        rw [← hd] at hv
        have hsplit := List.take_append_drop k l
        have hg : Hid (vGone l y = sumC (l.take k)) := by
          unfold Hid vGone
          conv => lhs; rw [← hsplit]
          rw [List.filter_append, hv.1, List.append_nil, List.filter_eq_self.2 fun z hz => by simpa [overV] using HB.out z hz]
        have he : Hid (vExp l y = l.drop k) := by
          unfold Hid vExp
          conv => lhs; rw [← hsplit]
          rw [List.filter_append, hv.2, List.filter_eq_nil_iff.2 fun z hz => by simpa [overV] using HB.out z hz]; rfl
        clear hy hv hd hsplit
        go_wp2
        simp only [Exit.jump]
        go_ret
        exact ⟨_, by rw [hg.out, hz]; rfl, by rw [he.out]; exact p, u⟩
    · have hd : l.drop k = [] := List.drop_eq_nil_of_le (by omega)
      have hsplit := List.take_append_drop k l
      rw [hd, List.append_nil] at hsplit
      have hm : l.length - k = 0 := by omega
      rw [hm] at hc' hb'
      have hg : Hid (vGone l y = sumC (l.take k)) := by
        unfold Hid vGone
        conv => lhs; rw [← hsplit]
        rw [List.filter_eq_self.2 fun z hz => by simpa [overV] using HB.out z hz]
      have he : Hid (vExp l y = l.drop k) := by
        unfold Hid vExp
        conv => lhs; rw [← hsplit]
        rw [hd, List.filter_eq_nil_iff.2 fun z hz => by simpa [overV] using HB.out z hz]
      clear hd hsplit
      go_wp2
      simp only [Exit.jump]
      go_ret
      exact ⟨_, by rw [hg.out, hz]; rfl, by rw [he.out]; exact p, u⟩

  · rintro a' w' ⟨k, h', u2, u3, u6, u7, u8, u9, u10, u11, u12, u13, u14, u15, u16, u17, u18, u19, u20, u21, u22, u23, u24, u25, u26, u27, u28, u29, u30, u31, u32, u33, u34, u35, u36, u37, u38, u39, u40, rfl, hk, HB, p, u⟩
    obtain ⟨A', ca', hb', hc', ow', hf'⟩ := p.one u.sub
    have hfz := hf' 0
    rw [List.length_drop] at hc' hb'
    have lmo := ow'.small
    have hs0 := sumC_take_le g.lo k
    by_cases hlt : k < l.length
    · obtain ⟨x, hx⟩ := some_of_lt hlt
      have hx0 : Hid ((l.drop k)[0]? = some x) := by unfold Hid; rw [List.getElem?_drop]; exact hx.out
      obtain ⟨bx, ox, rfl, c1, c2, c3⟩ := ow'.sl.tri (u.sub.del b) hx0
      simp only [Nat.zero_mul, Nat.add_zero] at c1 c2 c3
      obtain ⟨m, hm⟩ : ∃ m, l.length - k = m + 1 := ⟨l.length - k - 1, by omega⟩
      rw [hm] at hc' hb'
      have hTk : Hid (sumC (l.take (k + 1)) = sumC (l.take k) + x.c) := by unfold Hid; rw [take_next hx, sumC_snoc]
      have hxl := g.lo x (List.mem_of_getElem? hx.out)
      have hs1 := sumC_take_le g.lo (k + 1)
      rw [hTk.out] at hs1
      have hcap : m + 1 ≤ ca' := by have := ow'.le; rw [List.length_drop, hm] at this; exact this
      have hcapI : ((m : Int) + 1) ≤ (ca' : Int) := by omega
      by_cases hy : x.b < y
      · have t1 : decide (x.b < y) = true := by simpa using hy
        have HB' : Hid (∀ z ∈ l.take (k + 1), z.b < y) := by
          intro z hz
          rw [take_next hx] at hz
          rcases List.mem_append.1 hz with hz | hz
          · exact HB.out z hz
          · simp at hz; rw [hz]; exact hy
        have ob := ow'.behind 1
        rw [List.drop_drop] at ob
        have hdl : (l.drop (k + 1)).length = m := by rw [List.length_drop]; omega
        generalize hsk : sumC (l.take k) = sk at *
        clear hy
        rcases Nat.decEq ca' 1 with hca | hca
        · rw [if_neg hca] at ob
          go_wp2
          go_step3
          have UF := fun v => (Upd.field (v := v) 0 hb' u.sub (Hp.le_refl _) (Upd.stay (u.sub.del b) (Below.refl _ _))).1
          exact ⟨rfl, ⟨k + 1, _, _, _, _, _, _, _, _, _, _, _, _, _, _, _, _, _, _, _, _, _, _, _, _, _, _, _, _, _, _, _, _, _, _, _, _, _, _, by rw [hTk.out], by omega, HB', ⟨_, Hp.put_self, _, _, by rw [hdl]; rfl, by rw [Hp.put_del Hp.del_self]; exact ob⟩, u.trans (UF _)⟩, by simp [intOf]; omega⟩
        · rw [if_pos hca] at ob
          subst hca
          obtain rfl : m = 0 := by omega
          go_wp2
          go_step3
          have UF := fun v => (Upd.field (v := v) 0 hb' u.sub (Hp.le_refl _) (Upd.stay (u.sub.del b) (Below.refl _ _))).1
          exact ⟨rfl, ⟨k + 1, _, _, _, _, _, _, _, _, _, _, _, _, _, _, _, _, _, _, _, _, _, _, _, _, _, _, _, _, _, _, _, _, _, _, _, _, _, _, by rw [hTk.out], by omega, HB', ⟨_, Hp.put_self, _, _, by rw [hdl]; rfl, by rw [Hp.put_del Hp.del_self]; exact ob⟩, u.trans (UF _)⟩, by simp [intOf]; omega⟩
      · have t1 : decide (x.b < y) = false := by simpa using hy
        have hd : l.drop k = x :: l.drop (k + 1) := drop_next hx
        have hv := rising_over (y := y) (x := x) (l := l.drop (k + 1)) (by rw [← hd]; exact List.Pairwise.sublist (List.drop_sublist k l) g.rise) hy
        rw [← hd] at hv
        have hsplit := List.take_append_drop k l
        have hg : Hid (vGone l y = sumC (l.take k)) := by
          unfold Hid vGone
          conv => lhs; rw [← hsplit]
          rw [List.filter_append, hv.1, List.append_nil, List.filter_eq_self.2 fun z hz => by simpa [overV] using HB.out z hz]
        have he : Hid (vExp l y = l.drop k) := by
          unfold Hid vExp
          conv => lhs; rw [← hsplit]
          rw [List.filter_append, hv.2, List.filter_eq_nil_iff.2 fun z hz => by simpa [overV] using HB.out z hz]; rfl
        clear hy hv hd hsplit
        go_wp2
        simp only [Exit.jump]
        go_ret
        exact ⟨_, by rw [hg.out]; rfl, by rw [he.out]; exact p, u⟩
    · have hd : l.drop k = [] := List.drop_eq_nil_of_le (by omega)
      have hsplit := List.take_append_drop k l
      rw [hd, List.append_nil] at hsplit
      have hm : l.length - k = 0 := by omega
      rw [hm] at hc' hb'
      have hg : Hid (vGone l y = sumC (l.take k)) := by
        unfold Hid vGone
        conv => lhs; rw [← hsplit]
        rw [List.filter_eq_self.2 fun z hz => by simpa [overV] using HB.out z hz]
      have he : Hid (vExp l y = l.drop k) := by
        unfold Hid vExp
        conv => lhs; rw [← hsplit]
        rw [hd, List.filter_eq_nil_iff.2 fun z hz => by simpa [overV] using HB.out z hz]
      clear hd hsplit
      go_wp2
      simp only [Exit.jump]
      go_ret
      exact ⟨_, by rw [hg.out]; rfl, by rw [he.out]; exact p, u⟩

end Go.Proofs.Ytpigoegjoagbnaa
end
section
/- The calls of chapter 13 in a body's own memory; law13.wakes. -/
namespace Go.Proofs.Ytpigoegjoagbnaa
open Go.RowKit Go.Sl
set_option maxHeartbeats 1000000
set_option maxRecDepth 100000
structure Vnt (h : Hp) (b : Nat) (l : List STri) : Prop where
  pt : PtV h b l
  good : GoodV l
section
variable {w0 w : World} {L : List Hp} {h : Hp} {b : Nat} {l : List STri}
theorem Vnt.new (E : Env w0 w L) : Calls Try.prog 12 #[] w fun e w' => ∃ h b, e = .returned (.pointer (some ⟨b, 0, none⟩)) ∧ Vnt h b [] ∧ Env w0 w' (L ++ [h]) :=
  (vintNew_calls w).mono fun _ _ ⟨h, b, he, hp, u⟩ => ⟨h, b, he, ⟨hp, .nil⟩, E.new u⟩
theorem Vnt.clone (S : Vnt h b l) (E : Env w0 w L) (i : Nat) (hi : L[i]? = some h) :
    Calls Try.prog 22 #[.pointer (some ⟨b, 0, none⟩)] w fun e w' => ∃ h' b', e = .returned (.pointer (some ⟨b', 0, none⟩)) ∧ Vnt h' b' l ∧ Env w0 w' (L ++ [h']) :=
  (vintClone_calls b l h w (E.sub i hi) S.pt (by have := S.good.len; omega)).mono fun _ _ ⟨h', b', he, hp', u⟩ => ⟨h', b', he, ⟨hp', S.good⟩, E.new u⟩
theorem Vnt.rows (S : Vnt h b l) (E : Env w0 w L) (i : Nat) (hi : L[i]? = some h) (n : Nat) (hn : l.length = n) :
    Calls Try.prog 15 #[.pointer (some ⟨b, 0, none⟩)] w fun e w' => ∃ C cap h', e = .returned (.slice C n cap) ∧ Ow kTri h' C cap l ∧ Env w0 w' (L ++ [h']) := by
  subst hn
  exact (vintRows_calls b l h w (E.sub i hi) S.pt (by have := S.good.len; omega)).mono fun _ _ ⟨C, cap, h', he, ho, u⟩ => ⟨C, cap, h', he, ho, E.new u⟩
theorem Vnt.left (S : Vnt h b l) (E : Env w0 w L) (i : Nat) (hi : L[i]? = some h) {v : Int} (hv : sumC l = v) :
    Calls Try.prog 19 #[.pointer (some ⟨b, 0, none⟩)] w fun e w' => e = .returned (.int .i64 v) ∧ Env w0 w' L := by
  subst hv
  exact (vintLeft_calls b l h w (E.sub i hi) S.pt (by have := S.good.len; omega) (fun x hx => by have := S.good.lo x hx; have := le_sumC S.good.lo hx; have := S.good.mon; omega)).mono fun _ _ ⟨he, hb⟩ => ⟨he, E.below hb⟩
theorem Vnt.add (S : Vnt h b l) (E : Env w0 w L) (i : Nat) (hi : L[i]? = some h) (o x n : Int) {q : Int} {ys : List STri} (hE : vAddE l o x n = q ∧ vAdd l o x n = ys) :
    Calls Try.prog 14 #[.pointer (some ⟨b, 0, none⟩), .int .i64 o, .int .i64 x, .int .i64 n] w fun e w' => ∃ h', e = .returned (.int .i64 q) ∧ Vnt h' b ys ∧ Env w0 w' (L.set i h') := by
  obtain ⟨h1, h2⟩ := hE
  subst h1 h2
  exact (vintAdd_calls b l o x n h w (E.sub i hi) S.pt S.good).mono fun _ _ ⟨h', he, hp', u⟩ => ⟨h', he, ⟨hp', S.good.add o x n⟩, E.upd i hi u⟩
theorem Vnt.exp (S : Vnt h b l) (E : Env w0 w L) (i : Nat) (hi : L[i]? = some h) (y : Int) {q : Int} {ys : List STri} (hE : vGone l y = q ∧ vExp l y = ys) :
    Calls Try.prog 16 #[.pointer (some ⟨b, 0, none⟩), .int .i64 y] w fun e w' => ∃ h', e = .returned (.int .i64 q) ∧ Vnt h' b ys ∧ Env w0 w' (L.set i h') := by
  obtain ⟨h1, h2⟩ := hE
  subst h1 h2
  exact (vintExp_calls b l y h w (E.sub i hi) S.pt S.good).mono fun _ _ ⟨h', he, hp', u⟩ => ⟨h', he, ⟨hp', S.good.exp y⟩, E.upd i hi u⟩
theorem Vnt.take (S : Vnt h b l) (E : Env w0 w L) (i : Nat) (hi : L[i]? = some h) {U : Option Addr} {cu : Nat} {us : List Int} {k : Hp} (ks : k.sub w) (su : Sl kInt k U cu us) (hz : ∀ u ∈ us, I64 u) (n : Nat) (hn : us.length = n) {q : Int} {ys : List STri} (hE : vTakeE l us = q ∧ vTake l us = ys) :
    Calls Try.prog 20 #[.pointer (some ⟨b, 0, none⟩), .slice U n cu] w fun e w' => ∃ h', e = .returned (.int .i64 q) ∧ Vnt h' b ys ∧ Env w0 w' (L.set i h') := by
  obtain ⟨h1, h2⟩ := hE
  subst h1 h2 hn
  exact (vintTake_calls b l h w (E.sub i hi) S.pt S.good U cu us k ks su hz).mono fun _ _ ⟨h', he, hp', u⟩ => ⟨h', he, ⟨hp', S.good.take us⟩, E.upd i hi u⟩
end
theorem wakes13 (w : World) : Calls Try.prog 18 #[] w fun e w' => e = .returned (.bool true) ∧ Below w.heap.size w w' := by
  have E0 := Env.start w
  have H1 : Hid (vAddE [] 3 8 100 = 0 ∧ vAdd [] 3 8 100 = [⟨3, 8, 100⟩]) := by unfold Hid; decide
  have H2 : Hid (sumC [⟨3, 8, 100⟩] = 100) := rfl
  have H3 : Hid (vGone [⟨3, 8, 100⟩] 9 = 100 ∧ vExp [⟨3, 8, 100⟩] 9 = []) := by unfold Hid; decide
  go_enter Try.func18, Try.ntmps18
  go_wp2_with fail
  refine (Vnt.new E0).mono ?_
  rintro e w1 ⟨h1, c, rfl, S1, E1⟩
  try simp at E1
  go_wp2_with fail
  refine (Vnt.left S1 E1 0 rfl (v := 0) rfl).mono ?_
  rintro e w2 ⟨rfl, E2⟩
  try simp at E2
  go_wp2_with fail
  refine (Vnt.add S1 E2 0 rfl 3 8 100 H1.out).mono ?_
  rintro e w3 ⟨h3, rfl, S3, E3⟩
  try simp at E3
  go_wp2_with fail
  refine (Vnt.left S3 E3 0 rfl H2.out).mono ?_
  rintro e w4 ⟨rfl, E4⟩
  try simp at E4
  go_wp2_with fail
  refine (Vnt.exp S3 E4 0 rfl 9 H3.out).mono ?_
  rintro e w5 ⟨h5, rfl, S5, E5⟩
  try simp at E5
  go_wp2
  go_ret
  exact ⟨rfl, E5.low⟩
end Go.Proofs.Ytpigoegjoagbnaa
end
section
/- A region that draws its order, walked operation by operation in the order of the text. No program is named here. -/
namespace Go.Sl
open Go Go.RowKit
section
variable {P : Program} {ops : Array Oper} {Q : Exit → Act → World → Prop} {md : Region.Mode} {S : World → Prop}
/-- An operation that is wanted and yields its value in every world that meets S is taken first. -/
theorem take_on {i : Nat} {oi : Oper} {fuel : Nat} {listed : Array Bool} {a : Act} {w : World} (hi : ops[i]? = some oi)
    (hs : Region.noSelect ops = true) (hf : Region.free md ops listed i = true) (hr : (Region.ready md ops listed).contains i = true)
    (hQ : ∀ c (a : Act) w (v : Value), Q (.panic c) (a.put oi.dst v) w → Q (.panic c) a w) (hw : Region.wanted oi (yielded ops a.tmps) = true) (hS : S w)
    (h : ∃ v, (∀ w, S w → (execOp a.eval oi).run P w = .ok (.value v) w) ∧ wpAnyH P md ops Q S fuel (listed.setIfInBounds i true) (a.put oi.dst v) w) : wpAnyH P md ops Q S (fuel + 1) listed a w := by
  obtain ⟨v, h1, h2⟩ := h
  exact wpAnyH_take hi hs hf hr (fun c a w h => hQ c a w _ h) (.inl ⟨hw, h1⟩) hS h2
/-- An operation that is not wanted is taken first. -/
theorem take_off {i : Nat} {oi : Oper} {fuel : Nat} {listed : Array Bool} {a : Act} {w : World} (hi : ops[i]? = some oi)
    (hs : Region.noSelect ops = true) (hf : Region.free md ops listed i = true) (hr : (Region.ready md ops listed).contains i = true)
    (hQ : ∀ c (a : Act) w (v : Value), Q (.panic c) (a.put oi.dst v) w → Q (.panic c) a w) (hw : Region.wanted oi (yielded ops a.tmps) = false) (hS : S w)
    (h : wpAnyH P md ops Q S fuel (listed.setIfInBounds i true) (a.put oi.dst undef) w) : wpAnyH P md ops Q S (fuel + 1) listed a w :=
  wpAnyH_take hi hs hf hr (fun c a w h => hQ c a w _ h) (.inr ⟨hw, rfl⟩) hS h
end
end Go.Sl
end
