/- Walks and plain facts that the laws of this seat share, part 11: contracts of functions, each said at its theorem. -/
import Derived.Test.YtnfedcaehkcffaaGreatPk10
import Derived.Deep.RegionHeld3
import Derived.Deep.QuietTactic
import Derived.BigQuiet
set_option linter.all false
section
/- The walk of the reference's register: set. -/
namespace Go.Sl
theorem setGo_skip {x y : STri} {d : Bool} {l : List STri} (h : rkey y = rkey x) : setGo ordPair rkey x d (y :: l) = setGo ordPair rkey x d l := by simp [setGo, h]
theorem setGo_keep {x y : STri} {d : Bool} {l : List STri} (h : rkey y ≠ rkey x) (h2 : d = true ∨ ordPair.lt (rkey x) (rkey y) = false) : setGo ordPair rkey x d (y :: l) = y :: setGo ordPair rkey x d l := by
  rw [setGo, if_neg h, if_neg]; rintro ⟨a, b⟩; rcases h2 with h2 | h2 <;> simp_all
theorem setGo_lay {x y : STri} {l : List STri} (h : ordPair.lt (rkey x) (rkey y) = true) : setGo ordPair rkey x false (y :: l) = x :: y :: setGo ordPair rkey x true l := by
  rw [setGo, if_neg (ordPair.ne h).symm, if_pos ⟨rfl, h⟩]
theorem app2 {α : Type} (l : List α) (x y : α) (r : List α) : l ++ x :: y :: r = (l ++ [x] ++ [y]) ++ r := by simp
theorem app1 {α : Type} (l : List α) (x : α) (r : List α) : l ++ x :: r = (l ++ [x]) ++ r := by simp
end Go.Sl
namespace Go.Proofs.YtnfedcaehkcffaaGreat
open Go.RowKit Go.Sl
set_option maxHeartbeats 2000000
set_option maxRecDepth 100000
theorem refSet_calls (b : Nat) (l : List STri) (c y n : Int) (h : Hp) (w : World) (hs : h.sub w) (hp : Pt kReg 74 h b l) (hl : l.length ≤ 1000) (hr : RisingR l) :
    Calls Tryz.prog 81 #[.pointer (some ⟨b, 0, none⟩), .int .i64 c, .int .i64 y, .int .i64 n] w fun e w' => ∃ h', e = .returned (.tuple #[]) ∧ Pt kReg 74 h' b (setB l c y n) ∧ Upd h h' w w' := by
  obtain ⟨cs, hb, A, ca, rfl, ow⟩ := hp
  have hbw := hs b _ hb
  have hlt := hs.lt (b := b) (by simp [hb])
  have hc : w.cell? ⟨b, 0, none⟩ = some (.slice A l.length ca) := by rw [cell_of_row w b 0 _ _ _ hbw]; rfl
  have hf : w.frozen? ⟨b, 0, none⟩ = false := frozen_of_row w b 0 _ _ hbw
  have sx := ow.sl
  have hd := hs.del b
  have m1 := sx.small
  obtain ⟨G, hG⟩ : ∃ G : Bool → List STri → List STri, G = setGo ordPair rkey ⟨c, y, n⟩ := ⟨_, rfl⟩
  have HG : Hid (setB l c y n = G (decide (n = 0)) l) := by unfold Hid; rw [hG, setGo_setB hr]
  have HE : ∀ d : Bool, Hid (G d [] = if d = true then [] else [⟨c, y, n⟩]) := fun d => by rw [hG]; exact rfl
  have GS : ∀ {x : STri} {d : Bool} {r : List STri}, x.a = c → x.b = y → G d (x :: r) = G d r := fun h1 h2 => by rw [hG]; exact setGo_skip (by simp [rkey, h1, h2])
  have GK : ∀ {x : STri} {d : Bool} {r : List STri}, ¬(x.a = c ∧ x.b = y) → (d = true ∨ ¬(c < x.a ∨ c = x.a ∧ y < x.b)) → G d (x :: r) = x :: G d r := fun h1 h2 => by
    rw [hG]; exact setGo_keep (by simpa [rkey] using h1) (h2.imp id fun h => by simpa [ordPair, rkey] using h)
  have GL : ∀ {x : STri} {r : List STri}, (c < x.a ∨ c = x.a ∧ y < x.b) → G false (x :: r) = ⟨c, y, n⟩ :: x :: G true r := fun h => by rw [hG]; exact setGo_lay (by simpa [ordPair, rkey] using h)
  have GLen : ∀ (d : Bool) (r : List STri), (G d r).length ≤ r.length + 1 := fun d r => by
    rw [hG]; clear hG HG HE GS GK GL
    induction r generalizing d with
    | nil => cases d <;> simp [setGo]
    | cons z r ih =>
      unfold setGo
      have i1 := ih d
      have i2 := ih true
      split
      · simp; omega
      · split
        · have : (setGo ordPair rkey ⟨c, y, n⟩ true r).length ≤ r.length := by rw [setGo_true]; exact del_le _ _
          simp; omega
        · simp; omega
  clear hG
  have hn0 : (n == 0) = decide (n = 0) := by rw [Bool.eq_iff_iff]; simp
  go_enter Tryz.func81, Tryz.ntmps81
  go_wp2
  rw [hn0] at *
  generalize decide (n = 0) = d0 at *
  go_loopw [8, 9, 19] (fun v d i wr => ∃ (j cap m : Nat) (dn : Bool) (C : Option Addr) (h' : Hp) (os : List STri), j ≤ l.length ∧ i = .int .i64 j ∧ d = .bool dn ∧ v = .slice C m cap ∧ Hid (os.length = m) ∧ Hid (G d0 l = os ++ G dn (l.drop j)) ∧ m ≤ 2 * j ∧ Ow kTri h' C cap os ∧ Upd Hp.none h' w wr) (fun _ _ i _ => l.length - (intOf i).toNat)
  case atStart => exact ⟨0, 0, 0, d0, none, Hp.none, [], by omega, rfl, rfl, rfl, rfl, by unfold Hid; simp, by omega, Ow.none _ _, Upd.of_below (Below.refl _ _)⟩
  case round =>
    obtain ⟨j, cap, m, dn, C, h', os, hj, rfl, rfl, rfl, hm, hg, hm2, ho, hu⟩ := hrel
    by_cases hlt2 : j < l.length
    · obtain ⟨x, hx⟩ := some_of_lt hlt2
      obtain ⟨b1, o1, rfl, c1, c2, c3⟩ := sx.tri (hd.of_below hu.below) hx
      have i1 : (0 : Int) ≤ (j : Int) := by omega
      have i2 : (j : Int) < (l.length : Int) := by omega
      have HD : Hid (G d0 l = os ++ G dn (x :: l.drop (j + 1))) := by unfold Hid; rw [hg.out, drop_next hx]
      clear hg
      by_cases hk : x.a = c ∧ x.b = y
      · have HN := Lib.hid (HD.out.trans (by rw [GS hk.1 hk.2]))
        have t1 : (x.a == c) = true := by simpa using hk.1
        have t2 : (x.b == y) = true := by simpa using hk.2
        clear hk GS GK GL HD HE GLen
        go_wp2
        go_roundw
        case rel => exact ⟨j + 1, cap, m, dn, C, h', os, by omega, by go_num, rfl, rfl, hm, HN, by omega, ho, hu.after (by repeat (first | exact Below.refl _ _ | apply Below.drew | refine Below.alloc ?_ (by simp) _))⟩
        case measure => simp [intOf]; omega
      · cases dn with
        | true =>
          by_cases ha : x.a = c
          · have hbb : x.b ≠ y := fun e => hk ⟨ha, e⟩
            have t1 : (x.a == c) = true := by simpa using ha
            have t2 : (x.b == y) = false := by simpa using hbb
            have HN : Hid (G d0 l = (os ++ [x]) ++ G true (l.drop (j + 1))) := by unfold Hid; rw [HD.out, GK hk (.inl rfl), app1]
            clear ha hbb
            clear hk GS GK GL HD HE GLen
            go_wp2_with (at_builtin; refine wpList_app1f (h := h') (xs := os) (y := x) Tryz.underlying34 info_bucket (by rfl) (by rfl) rfl m 1 (by rfl) (by rfl) hm.out ho (hu.sub.of_below (by repeat (first | exact Below.refl _ _ | apply Below.drew | refine Below.alloc ?_ (by simp) _))) (heap_new_at (by simp)) rfl (by omega) (by omega) ?_; intro C' cap' w1 h1 ho1 hu1)
            go_roundw
            case rel => exact ⟨j + 1, cap', m + 1, true, C', h1, os ++ [x], by omega, by go_num, rfl, rfl, by unfold Hid; rw [List.length_append, hm.out]; rfl, HN, by omega, ho1, hu.trans (hu1.before (by repeat (first | exact Below.refl _ _ | apply Below.drew | refine Below.alloc ?_ (by simp) _)))⟩
            case measure => simp [intOf]; omega
          · have t1 : (x.a == c) = false := by simpa using ha
            have HN : Hid (G d0 l = (os ++ [x]) ++ G true (l.drop (j + 1))) := by unfold Hid; rw [HD.out, GK hk (.inl rfl), app1]
            clear ha
            clear hk GS GK GL HD HE GLen
            go_wp2_with (at_builtin; refine wpList_app1f (h := h') (xs := os) (y := x) Tryz.underlying34 info_bucket (by rfl) (by rfl) rfl m 1 (by rfl) (by rfl) hm.out ho (hu.sub.of_below (by repeat (first | exact Below.refl _ _ | apply Below.drew | refine Below.alloc ?_ (by simp) _))) (heap_new_at (by simp)) rfl (by omega) (by omega) ?_; intro C' cap' w1 h1 ho1 hu1)
            go_roundw
            case rel => exact ⟨j + 1, cap', m + 1, true, C', h1, os ++ [x], by omega, by go_num, rfl, rfl, by unfold Hid; rw [List.length_append, hm.out]; rfl, HN, by omega, ho1, hu.trans (hu1.before (by repeat (first | exact Below.refl _ _ | apply Below.drew | refine Below.alloc ?_ (by simp) _)))⟩
            case measure => simp [intOf]; omega
        | false =>
          by_cases hlt3 : c < x.a ∨ c = x.a ∧ y < x.b
          · by_cases ha : x.a = c
            · have hbb : y < x.b := by omega
              have t1 : (x.a == c) = true := by simpa using ha
              have t2 : (x.b == y) = false := by simp; omega
              have t3 : decide (c < x.a) = false := by simp; omega
              have t4 : decide (y < x.b) = true := by simpa using hbb
              have HN : Hid (G d0 l = (os ++ [⟨c, y, n⟩] ++ [x]) ++ G true (l.drop (j + 1))) := by unfold Hid; rw [HD.out, GL hlt3, app2]
              clear ha hbb hlt3
              clear hk GS GK GL HD HE GLen
              have hm3 : Hid ((os ++ [(⟨c, y, n⟩ : STri)]).length = m + 1) := by unfold Hid; rw [List.length_append, hm.out]; rfl
              have hfree : Hid (h' wr.heap.size = none) := hu.sub.free (Nat.le_refl _)
              go_wp2_with (first | (at_builtin; refine wpList_app1f (h := h') (xs := os) (y := ⟨c, y, n⟩) Tryz.underlying34 info_bucket (by rfl) (by rfl) rfl m 1 (by rfl) (by rfl) hm.out ho (hu.sub.of_below (by repeat (first | exact Below.refl _ _ | apply Below.drew | refine Below.alloc ?_ (by simp) _))) (heap_new_at (by simp)) rfl (by omega) (by omega) ?_; intro C' cap' w1 h1 ho1 hu1; have k0 : w1.cell? ⟨wr.heap.size, 0, none⟩ = some (.int .i64 x.a) := hu1.cell (by simp) hfree.out; have k1 : w1.cell? ⟨wr.heap.size, 1, none⟩ = some (.int .i64 x.b) := hu1.cell (by simp) hfree.out; have k2 : w1.cell? ⟨wr.heap.size, 2, none⟩ = some (.int .i64 x.c) := hu1.cell (by simp) hfree.out) | (at_builtin; refine wpList_app1f (h := h1) (xs := os ++ [⟨c, y, n⟩]) (y := x) Tryz.underlying34 info_bucket (by rfl) (by rfl) rfl (m + 1) 1 (by rfl) (by rfl) hm3.out ho1 (hu1.sub.of_below (by repeat (first | exact Below.refl _ _ | apply Below.drew | refine Below.alloc ?_ (by simp) _))) (heap_new_at (by simp)) rfl (by omega) (by omega) ?_; intro C2 cap2 w2 h2 ho2 hu2))
              go_roundw
              case rel => exact ⟨j + 1, cap2, m + 1 + 1, true, C2, h2, os ++ [⟨c, y, n⟩] ++ [x], by omega, by go_num, rfl, rfl, by unfold Hid; rw [List.length_append, hm3.out]; rfl, HN, by omega, ho2, (hu.trans (hu1.before (by repeat (first | exact Below.refl _ _ | apply Below.drew | refine Below.alloc ?_ (by simp) _)))).trans (hu2.before (by repeat (first | exact Below.refl _ _ | apply Below.drew | refine Below.alloc ?_ (by simp) _)))⟩
              case measure => simp [intOf]; omega
            · have hbb : c < x.a := by omega
              have t1 : (x.a == c) = false := by simpa using ha
              have t3 : decide (c < x.a) = true := by simpa using hbb
              have HN : Hid (G d0 l = (os ++ [⟨c, y, n⟩] ++ [x]) ++ G true (l.drop (j + 1))) := by unfold Hid; rw [HD.out, GL hlt3, app2]
              clear ha hbb hlt3
              clear hk GS GK GL HD HE GLen
              have hm3 : Hid ((os ++ [(⟨c, y, n⟩ : STri)]).length = m + 1) := by unfold Hid; rw [List.length_append, hm.out]; rfl
              have hfree : Hid (h' wr.heap.size = none) := hu.sub.free (Nat.le_refl _)
              go_wp2_with (first | (at_builtin; refine wpList_app1f (h := h') (xs := os) (y := ⟨c, y, n⟩) Tryz.underlying34 info_bucket (by rfl) (by rfl) rfl m 1 (by rfl) (by rfl) hm.out ho (hu.sub.of_below (by repeat (first | exact Below.refl _ _ | apply Below.drew | refine Below.alloc ?_ (by simp) _))) (heap_new_at (by simp)) rfl (by omega) (by omega) ?_; intro C' cap' w1 h1 ho1 hu1; have k0 : w1.cell? ⟨wr.heap.size, 0, none⟩ = some (.int .i64 x.a) := hu1.cell (by simp) hfree.out; have k1 : w1.cell? ⟨wr.heap.size, 1, none⟩ = some (.int .i64 x.b) := hu1.cell (by simp) hfree.out; have k2 : w1.cell? ⟨wr.heap.size, 2, none⟩ = some (.int .i64 x.c) := hu1.cell (by simp) hfree.out) | (at_builtin; refine wpList_app1f (h := h1) (xs := os ++ [⟨c, y, n⟩]) (y := x) Tryz.underlying34 info_bucket (by rfl) (by rfl) rfl (m + 1) 1 (by rfl) (by rfl) hm3.out ho1 (hu1.sub.of_below (by repeat (first | exact Below.refl _ _ | apply Below.drew | refine Below.alloc ?_ (by simp) _))) (heap_new_at (by simp)) rfl (by omega) (by omega) ?_; intro C2 cap2 w2 h2 ho2 hu2))
              go_roundw
              case rel => exact ⟨j + 1, cap2, m + 1 + 1, true, C2, h2, os ++ [⟨c, y, n⟩] ++ [x], by omega, by go_num, rfl, rfl, by unfold Hid; rw [List.length_append, hm3.out]; rfl, HN, by omega, ho2, (hu.trans (hu1.before (by repeat (first | exact Below.refl _ _ | apply Below.drew | refine Below.alloc ?_ (by simp) _)))).trans (hu2.before (by repeat (first | exact Below.refl _ _ | apply Below.drew | refine Below.alloc ?_ (by simp) _)))⟩
              case measure => simp [intOf]; omega
          · by_cases ha : x.a = c
            · have hbb : x.b < y := by
                have : x.b ≠ y := fun e => hk ⟨ha, e⟩
                omega
              have t1 : (x.a == c) = true := by simpa using ha
              have t2 : (x.b == y) = false := by simp; omega
              have t3 : decide (c < x.a) = false := by simp; omega
              have t4 : decide (y < x.b) = false := by simp; omega
              have HN : Hid (G d0 l = (os ++ [x]) ++ G false (l.drop (j + 1))) := by unfold Hid; rw [HD.out, GK hk (.inr hlt3), app1]
              clear ha hbb hlt3
              clear hk GS GK GL HD HE GLen
              go_wp2_with (at_builtin; refine wpList_app1f (h := h') (xs := os) (y := x) Tryz.underlying34 info_bucket (by rfl) (by rfl) rfl m 1 (by rfl) (by rfl) hm.out ho (hu.sub.of_below (by repeat (first | exact Below.refl _ _ | apply Below.drew | refine Below.alloc ?_ (by simp) _))) (heap_new_at (by simp)) rfl (by omega) (by omega) ?_; intro C' cap' w1 h1 ho1 hu1)
              go_roundw
              case rel => exact ⟨j + 1, cap', m + 1, false, C', h1, os ++ [x], by omega, by go_num, rfl, rfl, by unfold Hid; rw [List.length_append, hm.out]; rfl, HN, by omega, ho1, hu.trans (hu1.before (by repeat (first | exact Below.refl _ _ | apply Below.drew | refine Below.alloc ?_ (by simp) _)))⟩
              case measure => simp [intOf]; omega
            · have hbb : x.a < c := by omega
              have t1 : (x.a == c) = false := by simpa using ha
              have t3 : decide (c < x.a) = false := by simp; omega
              have HN : Hid (G d0 l = (os ++ [x]) ++ G false (l.drop (j + 1))) := by unfold Hid; rw [HD.out, GK hk (.inr hlt3), app1]
              clear ha hbb hlt3
              clear hk GS GK GL HD HE GLen
              go_wp2_with (at_builtin; refine wpList_app1f (h := h') (xs := os) (y := x) Tryz.underlying34 info_bucket (by rfl) (by rfl) rfl m 1 (by rfl) (by rfl) hm.out ho (hu.sub.of_below (by repeat (first | exact Below.refl _ _ | apply Below.drew | refine Below.alloc ?_ (by simp) _))) (heap_new_at (by simp)) rfl (by omega) (by omega) ?_; intro C' cap' w1 h1 ho1 hu1)
              go_roundw
              case rel => exact ⟨j + 1, cap', m + 1, false, C', h1, os ++ [x], by omega, by go_num, rfl, rfl, by unfold Hid; rw [List.length_append, hm.out]; rfl, HN, by omega, ho1, hu.trans (hu1.before (by repeat (first | exact Below.refl _ _ | apply Below.drew | refine Below.alloc ?_ (by simp) _)))⟩
              case measure => simp [intOf]; omega
    · obtain rfl : j = l.length := by omega
      rw [List.drop_length] at hg
      have hcr := (hu.below.cell (p := ⟨b, 0, none⟩) hlt).trans hc
      have hfr := (hu.below.frozen (p := ⟨b, 0, none⟩) hlt).trans hf
      have hfree : Hid (h' b = none) := hu.new_none hlt
      cases dn with
      | true =>
        have HN : Hid (setB l c y n = os) := by unfold Hid; rw [HG.out, hg.out, (HE true).out, if_pos rfl, List.append_nil]
        clear GS GK GL HE GLen hg HG
        go_wp2
        obtain ⟨UF, hn3⟩ := Upd.field (v := .slice C m cap) 0 hb hs (Hp.none_le _) hu
        go_end0
        exact ⟨rfl, _, ⟨_, Hp.put_self, C, cap, by rw [HN.out, hm.out]; rfl, by rw [Hp.put_del hn3, HN.out]; exact ho⟩, UF⟩
      | false =>
        have HN : Hid (setB l c y n = os ++ [⟨c, y, n⟩]) := by unfold Hid; rw [HG.out, hg.out, (HE false).out, if_neg (by decide)]
        clear GS GK GL HE GLen hg HG
        go_wp2_with (at_builtin; refine wpList_app1f (h := h') (xs := os) (y := ⟨c, y, n⟩) Tryz.underlying34 info_bucket (by rfl) (by rfl) rfl m 1 (by rfl) (by rfl) hm.out ho (hu.sub.of_below (by repeat (first | exact Below.refl _ _ | apply Below.drew | refine Below.alloc ?_ (by simp) _))) (heap_new_at (by simp)) rfl (by omega) (by omega) ?_; intro C' cap' w1 h1 ho1 hu1; have g0 : w1.cell? ⟨b, 0, none⟩ = some (.slice A l.length ca) := hu1.cell ((cell_alloc (Nat.lt_of_lt_of_le hlt hu.size)).trans hcr) hfree.out; have gf : w1.frozen? ⟨b, 0, none⟩ = false := (hu1.frozen (p := ⟨b, 0, none⟩) (by simp; exact Nat.lt_of_lt_of_le hlt (Nat.le_trans hu.size (Nat.le_succ _))) hfree.out).trans ((frozen_alloc (Nat.lt_of_lt_of_le hlt hu.size)).trans hfr))
        obtain ⟨UF, hn3⟩ := Upd.field (v := .slice C' (m + 1) cap') 0 hb hs (Hp.none_le _) (hu.trans (hu1.before (by repeat (first | exact Below.refl _ _ | apply Below.drew | refine Below.alloc ?_ (by simp) _))))
        go_end0
        exact ⟨rfl, _, ⟨_, Hp.put_self, C', cap', by rw [HN.out, List.length_append, hm.out]; rfl, by rw [Hp.put_del hn3, HN.out]; exact ho1⟩, UF⟩
end Go.Proofs.YtnfedcaehkcffaaGreat
end
section
/- The walks of the reference's register: Copy, Move. -/
namespace Go.Proofs.YtnfedcaehkcffaaGreat
open Go.RowKit Go.Sl
set_option maxHeartbeats 2000000
set_option maxRecDepth 100000
theorem refCopyReg_calls (b : Nat) (l : List STri) (h : Hp) (w : World) (hs : h.sub w) (hp : Pt kReg 74 h b l) (hl : l.length ≤ 1000) :
    Calls Tryz.prog 80 #[.pointer (some ⟨b, 0, none⟩)] w fun e w' => ∃ h' b', e = .returned (.pointer (some ⟨b', 0, none⟩)) ∧ Pt kReg 74 h' b' l ∧ Upd Hp.none h' w w' := by
  obtain ⟨A, ca, hc, sx⟩ := hp.reg hs
  go_enter Tryz.func80, Tryz.ntmps80
  go_wp2_with (at_builtin; refine wpList_clone (B := none) Tryz.underlying34 info_bucket (by rfl) (by rfl) rfl l.length ca (by rfl) (by rfl) rfl kTri_flat sx hs (by omega) (by omega) ?_; intro C' cap' w1 h1 ho1 hu1)
  go_ret
  exact ⟨_, _, rfl, ⟨_, Hp.put_self, C', cap', rfl, by rw [Hp.put_del (hu1.sub.free (Nat.le_refl _))]; exact ho1⟩, hu1.put⟩
def MoveAns (b : Nat) (l : List STri) (c y n : Int) (h : Hp) (w : World) (e : Ending) (w' : World) : Prop :=
  ∃ h', e = .returned (.int .i64 (moveE l c y n)) ∧ Pt kReg 74 h' b (moveR l c y n) ∧ Upd h h' w w'
theorem MoveAns.no {b : Nat} {l : List STri} {c y n : Int} {h : Hp} {w w' : World} {E : Int} (hE : moveE l c y n = E) (h0 : E ≠ 0) (hp : Pt kReg 74 h b l) (hs : h.sub w) (hb : Below w.heap.size w w') :
    MoveAns b l c y n h w (.returned (.int .i64 E)) w' :=
  ⟨h, by rw [hE], by unfold moveR; rw [hE, if_neg h0]; exact hp, ⟨hb.os, hb.tape, hb.output, hb.size, fun q hq _ => hb.block q hq, hs.of_below hb, fun _ hq => .inl hq⟩⟩
theorem refMove_calls (b : Nat) (l : List STri) (c y n : Int) (h : Hp) (w : World) (hs : h.sub w) (hp : Pt kReg 74 h b l) (g : GoodR l) :
    Calls Tryz.prog 33 #[.pointer (some ⟨b, 0, none⟩), .int .i64 c, .int .i64 y, .int .i64 n] w (MoveAns b l c y n h w) := by
  obtain ⟨A, ca, hc, sx⟩ := hp.reg hs
  have hlt := World.block_lt_of_cell? w _ hc
  have hlen := g.len
  have BC := fun W : World => refBucket_calls c y W
  have MC := fun W : World => refMoney_calls n W
  cases hb : bucketOk c y with
  | false =>
    have HE : Hid (moveE l c y n = 1) := by unfold Hid moveE; rw [if_pos (by simp [hb])]
    rw [hb] at BC
    clear hb MC
    go_enter Tryz.func33, Tryz.ntmps33
    go_wp2_with (go_at_call 76; refine (BC _).mono ?_; rintro e w' ⟨rfl, rfl⟩)
    go_ret
    exact .no HE.out (by decide) hp hs (Below.refl _ _)
  | true =>
  cases hm : money n with
  | false =>
    have HE : Hid (moveE l c y n = 1) := by unfold Hid moveE; rw [if_pos (by simp [hm])]
    rw [hb] at BC
    rw [hm] at MC
    clear hb hm
    go_enter Tryz.func33, Tryz.ntmps33
    go_wp2_with (first
      | (go_at_call 76; refine (BC _).mono ?_; rintro e w' ⟨rfl, rfl⟩)
      | (go_at_call 77; refine (MC _).mono ?_; rintro e w' ⟨rfl, rfl⟩))
    go_ret
    exact .no HE.out (by decide) hp hs (Below.refl _ _)
  | true =>
  have hm' : -100000000000 ≤ n ∧ n ≤ 100000000000 := by simpa [money] using hm
  have hg := g.get c y
  have hsu := g.sum
  have GC := fun (W : World) (hW : Below w.heap.size w W) => refGet_calls b A ca l c y h W (hs.of_below hW) ((hW.cell (p := ⟨b, 0, none⟩) hlt).trans hc) sx
  have TC := fun (W : World) (hW : Below w.heap.size w W) => refTotal_calls b A ca l h W (hs.of_below hW) ((hW.cell (p := ⟨b, 0, none⟩) hlt).trans hc) sx (by omega) (mem_len g.mon)
  have CC := fun (W : World) (hW : Below w.heap.size w W) => refCopyReg_calls b l h W (hs.of_below hW) hp (by omega)
  have HM : Hid (moveE l c y n = if (money (getB l c y + n) && money (sumC l + n)) = false then 6 else if 12 < (setB l c y (getB l c y + n)).length then 5 else 0) := by
    unfold Hid moveE; rw [if_neg (by simp [hb, hm])]
  have HR : Hid (moveE l c y n = 0 → moveR l c y n = setB l c y (getB l c y + n)) := fun h => by unfold moveR; rw [if_pos h]
  have SC := fun (b' : Nat) (k : Hp) (W : World) (ks : k.sub W) (kp : Pt kReg 74 k b' l) => refSet_calls b' l c y (getB l c y + n) k W ks kp (by omega) g.rise
  rw [hb] at BC
  rw [hm] at MC
  clear hb hm
  generalize getB l c y = v at *
  generalize sumC l = s at *
  generalize setB l c y (v + n) = L at *
  have M1 := fun W : World => refMoney_calls (v + n) W
  have M2 := fun W : World => refMoney_calls (s + n) W
  cases h1 : money (v + n) with
  | false =>
    have HE : Hid (moveE l c y n = 6) := by unfold Hid; rw [HM.out, h1]; rfl
    rw [h1] at M1
    clear h1 HM HR SC M2 TC CC
    go_enter Tryz.func33, Tryz.ntmps33
    go_wp2_with fail
    refine (BC _).mono ?_
    rintro e w' ⟨rfl, rfl⟩
    go_wp2_with fail
    refine (MC _).mono ?_
    rintro e w' ⟨rfl, rfl⟩
    go_wp2_with fail
    refine (GC _ (Below.refl _ _)).mono ?_
    rintro e w1 ⟨rfl, b1⟩
    go_wp2_with fail
    refine (M1 _).mono ?_
    rintro e w' ⟨rfl, rfl⟩
    go_wp2
    go_ret
    exact .no HE.out (by decide) hp hs b1
  | true =>
  cases h2 : money (s + n) with
  | false =>
    have HE : Hid (moveE l c y n = 6) := by unfold Hid; rw [HM.out, h1, h2]; rfl
    rw [h1] at M1
    rw [h2] at M2
    clear h1 h2 HM HR SC CC
    go_enter Tryz.func33, Tryz.ntmps33
    go_wp2_with fail
    refine (BC _).mono ?_
    rintro e w' ⟨rfl, rfl⟩
    go_wp2_with fail
    refine (MC _).mono ?_
    rintro e w' ⟨rfl, rfl⟩
    go_wp2_with fail
    refine (GC _ (Below.refl _ _)).mono ?_
    rintro e w1 ⟨rfl, b1⟩
    go_wp2_with fail
    refine (M1 _).mono ?_
    rintro e w' ⟨rfl, rfl⟩
    go_wp2_with fail
    refine (TC _ b1).mono ?_
    rintro e w2 ⟨rfl, b2⟩
    have b12 := b1.trans (b2.mono b1.size)
    go_wp2_with fail
    refine (M2 _).mono ?_
    rintro e w' ⟨rfl, rfl⟩
    go_wp2
    go_ret
    exact .no HE.out (by decide) hp hs b12
  | true =>
  have HM2 : Hid (moveE l c y n = if 12 < L.length then 5 else 0) := by unfold Hid; rw [HM.out, h1, h2]; rfl
  rw [h1] at M1
  rw [h2] at M2
  clear h1 h2 HM
  go_enter Tryz.func33, Tryz.ntmps33
  go_wp2_with fail
  refine (BC _).mono ?_
  rintro e w' ⟨rfl, rfl⟩
  go_wp2_with fail
  refine (MC _).mono ?_
  rintro e w' ⟨rfl, rfl⟩
  go_wp2_with fail
  refine (GC _ (Below.refl _ _)).mono ?_
  rintro e w1 ⟨rfl, b1⟩
  go_wp2_with fail
  refine (M1 _).mono ?_
  rintro e w' ⟨rfl, rfl⟩
  go_wp2_with fail
  refine (TC _ b1).mono ?_
  rintro e w2 ⟨rfl, b2⟩
  have b12 := b1.trans (b2.mono b1.size)
  go_wp2_with fail
  refine (M2 _).mono ?_
  rintro e w' ⟨rfl, rfl⟩
  go_wp2_with fail
  refine (CC _ b12).mono ?_
  rintro e w3 ⟨h3, b3, rfl, p3, u3⟩
  have b13 := b12.trans (u3.below.mono b12.size)
  go_wp2_with fail
  refine (GC _ b13).mono ?_
  rintro e w4 ⟨rfl, b4⟩
  have b14 := b13.trans (b4.mono b13.size)
  go_wp2_with fail
  refine (SC b3 h3 w4 (u3.sub.of_below b4) p3).mono ?_
  rintro e w5 ⟨h5, rfl, ⟨cs5, k5, A5, c5, rfl, o5⟩, u5⟩
  have u35 : Upd Hp.none h5 w w5 := ((u3.before b12).after b4).trans u5
  have k5w := u35.sub _ _ k5
  have g5 : w5.cell? ⟨b3, 0, none⟩ = some (.slice A5 L.length c5) := by rw [cell_of_row w5 b3 0 _ _ _ k5w]; rfl
  clear k5w
  have m5 := o5.small
  by_cases h12 : 12 < L.length
  · have HE : Hid (moveE l c y n = 5) := by unfold Hid; rw [HM2.out, if_pos h12]
    have h12b : decide ((12 : Int) < (L.length : Int)) = true := by simp; omega
    clear h12 HR HM2
    go_wp2
    go_ret
    exact .no HE.out (by decide) hp hs u35.below
  · have HE : Hid (moveE l c y n = 0) := by unfold Hid; rw [HM2.out, if_neg h12]
    have h12b : decide ((12 : Int) < (L.length : Int)) = false := by simp; omega
    have HL := Lib.hid (HR.out HE.out)
    have gb : w5.cell? ⟨b, 0, none⟩ = some (.slice A l.length ca) := (u35.below.cell (p := ⟨b, 0, none⟩) hlt).trans hc
    obtain ⟨cs0, hb0, A0, ca0, rfl, ow0⟩ := hp
    have gf : w5.frozen? ⟨b, 0, none⟩ = false := (u35.below.frozen (p := ⟨b, 0, none⟩) hlt).trans (frozen_of_row w b 0 _ _ (hs b _ hb0))
    clear h12 HR HM2
    go_wp2
    obtain ⟨UF, hn3⟩ := Upd.field (v := .slice A5 L.length c5) 0 hb0 hs (Hp.none_le _) (u35.weaken (Hp.del_le h5 b3))
    go_ret
    exact ⟨_, by rw [HE.out]; rfl, ⟨_, Hp.put_self, A5, c5, by rw [HL.out]; rfl, by rw [Hp.put_del hn3, HL.out]; exact o5⟩, UF⟩
end Go.Proofs.YtnfedcaehkcffaaGreat
end
section
/- The walk of play.Register. -/
namespace Go.Sl
open Go Go.RowKit
theorem tdiv_bd {z k : Int} (hk : 0 < k) (hz : -9223372036854775808 ≤ z ∧ z ≤ 9223372036854775807) : -9223372036854775808 ≤ z.tdiv k ∧ z.tdiv k ≤ 9223372036854775807 := by
  have key : ∀ m : Int, 0 ≤ m → 0 ≤ m.tdiv k ∧ m.tdiv k ≤ m := fun m hm => by
    rw [Int.tdiv_eq_ediv_of_nonneg hm]
    exact ⟨Int.ediv_nonneg hm (by omega), Int.ediv_le_self _ hm⟩
  rcases Int.le_total 0 z with h | h
  · have := key z h; omega
  · have h2 := key (-z) (by omega)
    rw [Int.neg_tdiv] at h2; omega
theorem regOf_step {zs : List Int} {j : Nat} {z : Int} (hz : Hid (zs[j]? = some z)) : (zs.take (j + 1)).foldl regStep [] = regStep ((zs.take j).foldl regStep []) z := by
  rw [take_next hz, List.foldl_append]; rfl
end Go.Sl
namespace Go.Proofs.YtnfedcaehkcffaaGreat
open Go.RowKit Go.Sl
set_option maxHeartbeats 2000000
set_option maxRecDepth 100000
end Go.Proofs.YtnfedcaehkcffaaGreat
end
section
/- keep.Same over roll.Row: the same things? -/
namespace Go.Proofs.YtnfedcaehkcffaaGreat
open Go.RowKit Go.Sl
set_option maxHeartbeats 1000000
set_option maxRecDepth 100000
end Go.Proofs.YtnfedcaehkcffaaGreat
end
section
/- The calls of chapter 11, in a body's own memory. -/
namespace Go.Proofs.YtnfedcaehkcffaaGreat
open Go.RowKit Go.Sl
set_option maxHeartbeats 1000000
set_option maxRecDepth 100000
theorem Rol.moved {w0 w : World} {l : List Hp} (E : Env w0 w l) {A B : Option Addr} {ca cb : Nat} {xs ys : List STri} {h k : Hp} (sx : Sl kTri h A ca xs) (hs : h.sub w) (sy : Sl kTri k B cb ys) (ks : k.sub w) (hx : xs.length ≤ 1000) (hy : ys.length ≤ 1000) (n m : Nat) (hn : xs.length = n) (hm : ys.length = m) {q : Int} (hq : movSum (fwd xs ys) = q) :
    Calls Tryz.prog 54 #[.slice A n ca, .slice B m cb] w fun e w' => e = .returned (.int .i64 q) ∧ Env w0 w' l := by
  subst hn
  subst hm
  subst hq
  exact (moved_calls A B ca cb xs ys h k w hs ks sx sy hx hy).mono fun _ _ ⟨he, b⟩ => ⟨he, E.below b⟩
theorem Rol.total {w0 w : World} {l : List Hp} (E : Env w0 w l) {b : Nat} {xs : List STri} {h : Hp} (p : Pt kReg 74 h b xs) (hs : h.sub w) (g : GoodR xs) {q : Int} (hq : sumC xs = q) :
    Calls Tryz.prog 79 #[.pointer (some ⟨b, 0, none⟩)] w fun e w' => e = .returned (.int .i64 q) ∧ Env w0 w' l := by
  subst hq
  obtain ⟨A, ca, hc, sx⟩ := p.reg hs
  exact (refTotal_calls b A ca xs h w hs hc sx (by have := g.len; omega) (mem_len g.mon)).mono fun _ _ ⟨he, b⟩ => ⟨he, E.below b⟩
theorem Rol.get {w0 w : World} {l : List Hp} (E : Env w0 w l) {b : Nat} {xs : List STri} {h : Hp} (p : Pt kReg 74 h b xs) (hs : h.sub w) (c y : Int) {q : Int} (hq : getB xs c y = q) :
    Calls Tryz.prog 78 #[.pointer (some ⟨b, 0, none⟩), .int .i64 c, .int .i64 y] w fun e w' => e = .returned (.int .i64 q) ∧ Env w0 w' l := by
  subst hq
  obtain ⟨A, ca, hc, sx⟩ := p.reg hs
  exact (refGet_calls b A ca xs c y h w hs hc sx).mono fun _ _ ⟨he, b⟩ => ⟨he, E.below b⟩
end Go.Proofs.YtnfedcaehkcffaaGreat
end
section
/- The walks of rate.Right, remeasure.Temp, remeasure.Total. -/
namespace Go.Proofs.YtnfedcaehkcffaaGreat
open Go.RowKit Go.Sl
set_option maxHeartbeats 2000000
set_option maxRecDepth 100000
theorem remTotal_calls (m r : Int) (w : World) : Calls Tryz.prog 123 #[.agg #[.int .i64 m, .int .i64 r]] w fun e w' => e = .returned (.int .i64 (wrap64 (m + r))) ∧ Below w.heap.size w w' := by
  go_enter Tryz.func123, Tryz.ntmps123
  go_wp2
  go_ret
  exact ⟨rfl, (by repeat (first | exact Below.refl _ _ | apply Below.drew | refine Below.alloc ?_ (by simp) _))⟩
theorem remTemp_calls (A B D F : Option Addr) (ca cb cd cf : Nat) (xs ys : List STri) (os ns : List Int) (h k p q : Hp) (w : World) (hs : h.sub w) (ks : k.sub w) (ps : p.sub w) (qs : q.sub w)
    (sx : Sl kTri h A ca xs) (sy : Sl kTri k B cb ys) (so : Sl kInt p D cd os) (sn : Sl kInt q F cf ns) (hx : xs.length ≤ 500) (hy : ys.length ≤ 500) :
    Calls Tryz.prog 121 #[.slice A xs.length ca, .slice B ys.length cb, .slice D os.length cd, .slice F ns.length cf] w fun e w' =>
      e = .returned (.tuple #[.agg #[.int .i64 (remMo (fwd xs ys) os ns), .int .i64 (remRa (fwd xs ys) os ns)], .int .i64 (remE (fwd xs ys) os ns)]) ∧ Below w.heap.size w w' := by
  have m3 := so.small
  have m4 := sn.small
  have hl := fwd_len xs ys
  have FC := fun (W : World) (l : List Hp) (E : Env w W l) => Rol.forward E sx (hs.of_below E.low) sy (ks.of_below E.low) (by omega) (by omega) _ _ rfl rfl rfl
  generalize fwd xs ys = rows at *
  have hl2 : rows.length ≤ 1000 := by omega
  have E1 := (Env.start w).alloc (.cells #[.int .i64 0, .int .i64 0] 42)
  simp at E1
  go_enter Tryz.func121, Tryz.ntmps121
  go_wp2_with fail
  refine (FC _ _ E1).mono ?_
  rintro e w1 ⟨C, n1, h1, rfl, o1, E2⟩
  simp at E2
  clear FC
  have z0 := E2.cell 0 rfl 0 rfl
  have z1 := E2.cell 0 rfl 1 rfl
  have zf := E2.free 0 rfl
  by_cases hlen : os.length = rows.length ∧ ns.length = rows.length
  · obtain ⟨l1, l2⟩ := hlen
    have L1 := Lib.hid l1
    have L2 := Lib.hid l2
    have t1 : ((os.length : Int) != (rows.length : Int)) = false := by simp [l1]
    have t2 : ((ns.length : Int) != (rows.length : Int)) = false := by simp [l2]
    have HE : Hid (remE rows os ns = if remAll rows os ns = false then 1 else if (money (sumM rows ns) && money (sumR rows os ns)) = false then 6 else 0) := by
      unfold Hid remE; rw [if_neg (by omega)]
    clear l1 l2
    have E3 := E2.alloc (.cells #[.int .i64 0, .int .i64 0] 42)
    simp at E3
    go_wp2
    go_loopw [39] (fun i wr => ∃ (j : Nat) (M R : Int), j ≤ rows.length ∧ i = .int .i64 j ∧ Hid (remAll (rows.take j) (os.take j) (ns.take j) = true) ∧ Hid (M = sumM (rows.take j) (ns.take j)) ∧ Hid (R = sumR (rows.take j) (os.take j) (ns.take j)) ∧ Env w wr [Hp.box w.heap.size [.int .i64 0, .int .i64 0] 42, h1, Hp.box w1.heap.size [.int .i64 M, .int .i64 R] 42]) (fun i _ => rows.length - (intOf i).toNat)
    case atStart => exact ⟨0, 0, 0, by omega, rfl, rfl, rfl, rfl, E3⟩
    case round =>
      clear E1 E2 E3 z0 z1 zf
      obtain ⟨j, M, R, hj, rfl, ha, hM, hR, E⟩ := hrel
      have z0 := E.cell 0 rfl 0 rfl
      have z1 := E.cell 0 rfl 1 rfl
      have zf := E.free 0 rfl
      have y0 := E.cell 2 rfl 0 rfl
      have y1 := E.cell 2 rfl 1 rfl
      have yf := E.free 2 rfl
      by_cases hlt : j < rows.length
      · obtain ⟨x, hxx⟩ := some_of_lt hlt
        obtain ⟨o, hoo⟩ := some_of_lt (show j < os.length by rw [L1.out]; exact hlt)
        obtain ⟨n, hnn⟩ := some_of_lt (show j < ns.length by rw [L2.out]; exact hlt)
        obtain ⟨b1, o1', rfl, c1, c2, c3, c4, c5⟩ := o1.sl.way (E.sub 1 rfl) hxx
        obtain ⟨b2, o2', rfl, d1⟩ := so.int (ps.of_below E.low) hoo
        obtain ⟨b3, o3', rfl, d2⟩ := sn.int (qs.of_below E.low) hnn
        have d1a := fun o => (cell_alloc (o := o) (World.block_lt_of_cell? _ _ d1)).trans d1
        have d2a := fun o => (cell_alloc (o := o) (World.block_lt_of_cell? _ _ d2)).trans d2
        have z0a := fun o => (cell_alloc (o := o) (World.block_lt_of_cell? _ _ z0)).trans z0
        have z1a := fun o => (cell_alloc (o := o) (World.block_lt_of_cell? _ _ z1)).trans z1
        have y0a := fun o => (cell_alloc (o := o) (World.block_lt_of_cell? _ _ y0)).trans y0
        have y1a := fun o => (cell_alloc (o := o) (World.block_lt_of_cell? _ _ y1)).trans y1
        have zfa := fun o n => (frozen_alloc (o := o) (n := n) (World.block_lt_of_cell? _ _ z0)).trans (zf n)
        have yfa := fun o n => (frozen_alloc (o := o) (n := n) (World.block_lt_of_cell? _ _ y0)).trans (yf n)
        have i1 : (0 : Int) ≤ (j : Int) := by omega
        have i2 : (j : Int) < (rows.length : Int) := by omega
        have i3 : (j : Int) < (os.length : Int) := by rw [L1.out]; omega
        have i4 : (j : Int) < (ns.length : Int) := by rw [L2.out]; omega
        have hb1 := sumM_bd (rows.take j) (ns.take j)
        have hb2 := sumR_bd (rows.take j) (os.take j) (ns.take j)
        rw [← hM.out, List.length_take] at hb1
        rw [← hR.out, List.length_take] at hb2
        have HB : (-8000000000002000 ≤ M ∧ M ≤ 8000000000002000) ∧ (-8000000000002000 ≤ R ∧ R ≤ 8000000000002000) := by omega
        clear hb1 hb2
        obtain ⟨⟨q1, q2⟩, q3, q4⟩ := HB
        obtain ⟨q5, q6⟩ := ofVal_bd x.opn o
        obtain ⟨q7, q8⟩ := ofVal_bd x.opn n
        obtain ⟨q9, q10⟩ := ofVal_bd x.clo n
        have hll1 : (rows.take j).length = (os.take j).length := by rw [List.length_take, List.length_take, L1.out]
        have hll2 : (rows.take j).length = (ns.take j).length := by rw [List.length_take, List.length_take, L2.out]
        have HTa : Hid (remAll (rows.take (j + 1)) (os.take (j + 1)) (ns.take (j + 1)) = remOk x o n) := by
          unfold Hid; rw [take_next hxx, take_next hoo, take_next hnn, remAll_snoc hll1 hll2, ha.out]; rfl
        have HTm : Hid (sumM (rows.take (j + 1)) (ns.take (j + 1)) = M + (ofVal x.clo n - ofVal x.opn n)) := by
          unfold Hid; rw [take_next hxx, take_next hnn, sumM_snoc hll2, hM.out]; rfl
        have HTr : Hid (sumR (rows.take (j + 1)) (os.take (j + 1)) (ns.take (j + 1)) = R + (ofVal x.opn n - ofVal x.opn o)) := by
          unfold Hid; rw [take_next hxx, take_next hoo, take_next hnn, sumR_snoc hll1 hll2, hR.out]; rfl
        clear hll1 hll2
        have HNo : remOk x o n = false → Hid (remE rows os ns = 1) := fun h => by
          unfold Hid; rw [HE.out, if_pos (remAll_no hxx.out hoo.out hnn.out h)]
        have HO1 := fun W => of_calls x.opn o W
        have HO2 := fun W => of_calls x.opn n W
        have HO3 := fun W => of_calls x.clo n W
        have RO := fun W => rateRight_calls o W
        have RN := fun W => rateRight_calls n W
        have M1 := fun W => money_calls x.opn W
        have M2 := fun W => money_calls x.clo W
        have HOK : remOk x o n = (rightRate o && (rightRate n && (money x.opn && money x.clo))) := rfl
        generalize ofVal x.opn o = v1 at *
        generalize ofVal x.opn n = v2 at *
        generalize ofVal x.clo n = v3 at *
        generalize remOk x o n = ok at *
        cases e0 : rightRate o with
        | false =>
          have hf : ok = false := by rw [HOK, e0]; rfl
          have HE1 := HNo hf
          have HEm : Hid (remMo rows os ns = 0) := by unfold Hid remMo; rw [HE1.out]; rfl
          have HEr : Hid (remRa rows os ns = 0) := by unfold Hid remRa; rw [HE1.out]; rfl
          rw [e0] at RO
          clear HNo HOK HTa hf HO1 HO2 HO3 e0
          go_wp2_with (first
            | (go_at_call 48; ((with_reducible refine (RO _).mono ?_)); rintro e w' ⟨rfl, rfl⟩)
            | (go_at_call 48; ((with_reducible refine (RN _).mono ?_)); rintro e w' ⟨rfl, rfl⟩)
            | (go_at_call 51; ((with_reducible refine (M1 _).mono ?_)); rintro e w' ⟨rfl, rfl⟩)
            | (go_at_call 51; ((with_reducible refine (M2 _).mono ?_)); rintro e w' ⟨rfl, rfl⟩))
          exact bodyPost_ret (v := .tuple #[.agg #[.int .i64 0, .int .i64 0], .int .i64 1]) (by simp [results, Tryz.results121, go_sem, z0a, z1a]) rfl ⟨by rw [HE1.out, HEm.out, HEr.out], ((Env.cellset (by repeat (first | (with_reducible exact E) | (with_reducible apply Env.drew) | (with_reducible apply Env.drewN) | (with_reducible apply Env.alloc'))) 0 rfl 0 _).cellset 0 rfl 1 _).low⟩
        | true =>
        rw [e0] at RO
        cases e1 : rightRate n with
        | false =>
          have hf : ok = false := by rw [HOK, e0, e1]; rfl
          have HE1 := HNo hf
          have HEm : Hid (remMo rows os ns = 0) := by unfold Hid remMo; rw [HE1.out]; rfl
          have HEr : Hid (remRa rows os ns = 0) := by unfold Hid remRa; rw [HE1.out]; rfl
          rw [e1] at RN
          clear HNo HOK HTa hf HO1 HO2 HO3 e0 e1
          go_wp2_with (first
            | (go_at_call 48; ((with_reducible refine (RO _).mono ?_)); rintro e w' ⟨rfl, rfl⟩)
            | (go_at_call 48; ((with_reducible refine (RN _).mono ?_)); rintro e w' ⟨rfl, rfl⟩)
            | (go_at_call 51; ((with_reducible refine (M1 _).mono ?_)); rintro e w' ⟨rfl, rfl⟩)
            | (go_at_call 51; ((with_reducible refine (M2 _).mono ?_)); rintro e w' ⟨rfl, rfl⟩))
          exact bodyPost_ret (v := .tuple #[.agg #[.int .i64 0, .int .i64 0], .int .i64 1]) (by simp [results, Tryz.results121, go_sem, z0a, z1a]) rfl ⟨by rw [HE1.out, HEm.out, HEr.out], ((Env.cellset (by repeat (first | (with_reducible exact E) | (with_reducible apply Env.drew) | (with_reducible apply Env.drewN) | (with_reducible apply Env.alloc'))) 0 rfl 0 _).cellset 0 rfl 1 _).low⟩
        | true =>
        rw [e1] at RN
        cases e2 : money x.opn with
        | false =>
          have hf : ok = false := by rw [HOK, e0, e1, e2]; rfl
          have HE1 := HNo hf
          have HEm : Hid (remMo rows os ns = 0) := by unfold Hid remMo; rw [HE1.out]; rfl
          have HEr : Hid (remRa rows os ns = 0) := by unfold Hid remRa; rw [HE1.out]; rfl
          rw [e2] at M1
          clear HNo HOK HTa hf HO1 HO2 HO3 e0 e1 e2
          go_wp2_with (first
            | (go_at_call 48; ((with_reducible refine (RO _).mono ?_)); rintro e w' ⟨rfl, rfl⟩)
            | (go_at_call 48; ((with_reducible refine (RN _).mono ?_)); rintro e w' ⟨rfl, rfl⟩)
            | (go_at_call 51; ((with_reducible refine (M1 _).mono ?_)); rintro e w' ⟨rfl, rfl⟩)
            | (go_at_call 51; ((with_reducible refine (M2 _).mono ?_)); rintro e w' ⟨rfl, rfl⟩))
          exact bodyPost_ret (v := .tuple #[.agg #[.int .i64 0, .int .i64 0], .int .i64 1]) (by simp [results, Tryz.results121, go_sem, z0a, z1a]) rfl ⟨by rw [HE1.out, HEm.out, HEr.out], ((Env.cellset (by repeat (first | (with_reducible exact E) | (with_reducible apply Env.drew) | (with_reducible apply Env.drewN) | (with_reducible apply Env.alloc'))) 0 rfl 0 _).cellset 0 rfl 1 _).low⟩
        | true =>
        rw [e2] at M1
        cases e3 : money x.clo with
        | false =>
          have hf : ok = false := by rw [HOK, e0, e1, e2, e3]; rfl
          have HE1 := HNo hf
          have HEm : Hid (remMo rows os ns = 0) := by unfold Hid remMo; rw [HE1.out]; rfl
          have HEr : Hid (remRa rows os ns = 0) := by unfold Hid remRa; rw [HE1.out]; rfl
          rw [e3] at M2
          clear HNo HOK HTa hf HO1 HO2 HO3 e0 e1 e2 e3
          go_wp2_with (first
            | (go_at_call 48; ((with_reducible refine (RO _).mono ?_)); rintro e w' ⟨rfl, rfl⟩)
            | (go_at_call 48; ((with_reducible refine (RN _).mono ?_)); rintro e w' ⟨rfl, rfl⟩)
            | (go_at_call 51; ((with_reducible refine (M1 _).mono ?_)); rintro e w' ⟨rfl, rfl⟩)
            | (go_at_call 51; ((with_reducible refine (M2 _).mono ?_)); rintro e w' ⟨rfl, rfl⟩))
          exact bodyPost_ret (v := .tuple #[.agg #[.int .i64 0, .int .i64 0], .int .i64 1]) (by simp [results, Tryz.results121, go_sem, z0a, z1a]) rfl ⟨by rw [HE1.out, HEm.out, HEr.out], ((Env.cellset (by repeat (first | (with_reducible exact E) | (with_reducible apply Env.drew) | (with_reducible apply Env.drewN) | (with_reducible apply Env.alloc'))) 0 rfl 0 _).cellset 0 rfl 1 _).low⟩
        | true =>
        rw [e3] at M2
        have hf : ok = true := by rw [HOK, e0, e1, e2, e3]; rfl
        rw [hf] at HTa
        clear HNo HOK e0 e1 e2 e3 hf
        go_wp2_with (first
          | (go_at_call 48; ((with_reducible refine (RO _).mono ?_)); rintro e w' ⟨rfl, rfl⟩)
          | (go_at_call 48; ((with_reducible refine (RN _).mono ?_)); rintro e w' ⟨rfl, rfl⟩)
          | (go_at_call 51; ((with_reducible refine (M1 _).mono ?_)); rintro e w' ⟨rfl, rfl⟩)
          | (go_at_call 51; ((with_reducible refine (M2 _).mono ?_)); rintro e w' ⟨rfl, rfl⟩))
        clear d1a d2a z0a z1a y0a y1a zfa yfa
        have RS : ∀ V, Env w V [Hp.box w.heap.size [.int .i64 0, .int .i64 0] 42, h1, Hp.box w1.heap.size [.int .i64 M, .int .i64 R] 42] → Env w ((V.setCell ⟨w1.heap.size, 0, none⟩ (.int .i64 (M + v3 - v2))).setCell ⟨w1.heap.size, 1, none⟩ (.int .i64 (R + v2 - v1))) [Hp.box w.heap.size [.int .i64 0, .int .i64 0] 42, h1, Hp.box w1.heap.size [.int .i64 (M + v3 - v2), .int .i64 (R + v2 - v1)] 42] := fun V EV => (EV.cellset 2 rfl 0 _).cellset 2 rfl 1 _
        obtain ⟨W, hW⟩ : ∃ W : World, W = wr.alloc (.cells #[.int .i64 x.cls, .int .i64 x.yr, .int .i64 x.opn, .int .i64 x.mov, .int .i64 x.clo] 65) := ⟨_, rfl⟩
        have q0 : W.cell? ⟨wr.heap.size, 0, none⟩ = some (.int .i64 x.cls) := by rw [hW]; exact cell_new rfl
        have q1 : W.cell? ⟨wr.heap.size, 1, none⟩ = some (.int .i64 x.yr) := by rw [hW]; exact cell_new rfl
        have q2 : W.cell? ⟨wr.heap.size, 2, none⟩ = some (.int .i64 x.opn) := by rw [hW]; exact cell_new rfl
        have q3 : W.cell? ⟨wr.heap.size, 3, none⟩ = some (.int .i64 x.mov) := by rw [hW]; exact cell_new rfl
        have q4 : W.cell? ⟨wr.heap.size, 4, none⟩ = some (.int .i64 x.clo) := by rw [hW]; exact cell_new rfl
        have BW : Below wr.heap.size wr W := by rw [hW]; exact (Below.refl _ _).alloc (Nat.le_refl _) _
        rw [← hW]
        clear hW
        clear c1 c2 c3 c4 c5 z0 z1 zf
        have hb1 : w1.heap.size < wr.heap.size := World.block_lt_of_cell? _ _ y0
        have yfW := fun n => (BW.frozen (p := ⟨w1.heap.size, n, none⟩) hb1).trans (yf n)
        replace d1 := (BW.cell (World.block_lt_of_cell? _ _ d1)).trans d1
        replace d2 := (BW.cell (World.block_lt_of_cell? _ _ d2)).trans d2
        replace y0 := (BW.cell (World.block_lt_of_cell? _ _ y0)).trans y0
        replace y1 := (BW.cell (World.block_lt_of_cell? _ _ y1)).trans y1
        have EW := E.below BW
        clear yf
        go_quiet ((go_at_call 115; (first | exact quiet_one (HO1 _) | exact quiet_more (HO1 _))))
        go_wp2
        go_quiet ((go_at_call 115; (first | exact quiet_one (HO2 _) | exact quiet_more (HO2 _))))
        go_wp2
        go_quiet ((go_at_call 115; (first | exact quiet_one (HO3 _) | exact quiet_more (HO3 _))))
        go_wp2
        go_roundw
        case rel => exact ⟨j + 1, M + v3 - v2, R + v2 - v1, by omega, by go_num, HTa, by unfold Hid; rw [HTm.out]; omega, by unfold Hid; rw [HTr.out]; omega, RS _ (by repeat (first | (with_reducible exact EW) | (with_reducible apply Env.drew) | (with_reducible apply Env.drewN) | (with_reducible apply Env.alloc')))⟩
        case measure => simp [intOf]; omega
      · obtain rfl : j = rows.length := by omega
        rw [List.take_length, List.take_of_length_le (Nat.le_of_eq L1.out), List.take_of_length_le (Nat.le_of_eq L2.out)] at ha
        rw [List.take_length, List.take_of_length_le (Nat.le_of_eq L2.out)] at hM
        rw [List.take_length, List.take_of_length_le (Nat.le_of_eq L1.out), List.take_of_length_le (Nat.le_of_eq L2.out)] at hR
        have M1 := fun W => money_calls M W
        have M2 := fun W => money_calls R W
        have HE2 : Hid (remE rows os ns = if (money M && money R) = false then 6 else 0) := by unfold Hid; rw [HE.out, ha.out, ← hM.out, ← hR.out]; rfl
        cases e0 : money M with
        | false =>
          have HE1 : Hid (remE rows os ns = 6) := by unfold Hid; rw [HE2.out, e0]; rfl
          have HEm : Hid (remMo rows os ns = 0) := by unfold Hid remMo; rw [HE1.out]; rfl
          have HEr : Hid (remRa rows os ns = 0) := by unfold Hid remRa; rw [HE1.out]; rfl
          rw [e0] at M1
          clear e0 HE2
          go_wp2_with (go_at_call 51; refine (M1 _).mono ?_; rintro e w' ⟨rfl, rfl⟩)
          exact bodyPost_ret (v := .tuple #[.agg #[.int .i64 0, .int .i64 0], .int .i64 6]) (by simp [results, Tryz.results121, go_sem, z0, z1]) rfl ⟨by rw [HE1.out, HEm.out, HEr.out], ((Env.cellset (by repeat (first | (with_reducible exact E) | (with_reducible apply Env.drew) | (with_reducible apply Env.drewN) | (with_reducible apply Env.alloc'))) 0 rfl 0 _).cellset 0 rfl 1 _).low⟩
        | true =>
        cases e1 : money R with
        | false =>
          have HE1 : Hid (remE rows os ns = 6) := by unfold Hid; rw [HE2.out, e0, e1]; rfl
          have HEm : Hid (remMo rows os ns = 0) := by unfold Hid remMo; rw [HE1.out]; rfl
          have HEr : Hid (remRa rows os ns = 0) := by unfold Hid remRa; rw [HE1.out]; rfl
          rw [e0] at M1
          rw [e1] at M2
          clear e0 e1 HE2
          go_wp2_with (first
            | (go_at_call 51; ((with_reducible refine (M1 _).mono ?_)); rintro e w' ⟨rfl, rfl⟩)
            | (go_at_call 51; ((with_reducible refine (M2 _).mono ?_)); rintro e w' ⟨rfl, rfl⟩))
          exact bodyPost_ret (v := .tuple #[.agg #[.int .i64 0, .int .i64 0], .int .i64 6]) (by simp [results, Tryz.results121, go_sem, z0, z1]) rfl ⟨by rw [HE1.out, HEm.out, HEr.out], ((Env.cellset (by repeat (first | (with_reducible exact E) | (with_reducible apply Env.drew) | (with_reducible apply Env.drewN) | (with_reducible apply Env.alloc'))) 0 rfl 0 _).cellset 0 rfl 1 _).low⟩
        | true =>
          have HE1 : Hid (remE rows os ns = 0) := by unfold Hid; rw [HE2.out, e0, e1]; rfl
          have HEm : Hid (remMo rows os ns = M) := by unfold Hid remMo; rw [HE1.out, if_pos rfl, ← hM.out]
          have HEr : Hid (remRa rows os ns = R) := by unfold Hid remRa; rw [HE1.out, if_pos rfl, ← hR.out]
          rw [e0] at M1
          rw [e1] at M2
          clear e0 e1 HE2
          go_wp2_with (first
            | (go_at_call 51; ((with_reducible refine (M1 _).mono ?_)); rintro e w' ⟨rfl, rfl⟩)
            | (go_at_call 51; ((with_reducible refine (M2 _).mono ?_)); rintro e w' ⟨rfl, rfl⟩))
          exact bodyPost_ret (v := .tuple #[.agg #[.int .i64 M, .int .i64 R], .int .i64 0]) (by simp [results, Tryz.results121, go_sem, z0, z1]) rfl ⟨by rw [HE1.out, HEm.out, HEr.out], ((Env.cellset (by repeat (first | (with_reducible exact E) | (with_reducible apply Env.drew) | (with_reducible apply Env.drewN) | (with_reducible apply Env.alloc'))) 0 rfl 0 _).cellset 0 rfl 1 _).low⟩
  · have HE : Hid (remE rows os ns = 1) := by unfold Hid remE; rw [if_pos (by omega)]
    have HM : Hid (remMo rows os ns = 0) := by unfold Hid remMo; rw [HE.out]; rfl
    have HR : Hid (remRa rows os ns = 0) := by unfold Hid remRa; rw [HE.out]; rfl
    by_cases l1 : os.length = rows.length
    · have t1 : ((os.length : Int) != (rows.length : Int)) = false := by simp [l1]
      have t2 : ((ns.length : Int) != (rows.length : Int)) = true := by simp; omega
      clear hlen l1
      go_wp2
      exact bodyPost_ret (v := .tuple #[.agg #[.int .i64 0, .int .i64 0], .int .i64 1]) (by simp [results, Tryz.results121, go_sem, z0, z1]) rfl ⟨by rw [HE.out, HM.out, HR.out], ((E2.cellset 0 rfl 0 _).cellset 0 rfl 1 _).low⟩
    · have t1 : ((os.length : Int) != (rows.length : Int)) = true := by simp; omega
      clear hlen l1
      go_wp2
      exact bodyPost_ret (v := .tuple #[.agg #[.int .i64 0, .int .i64 0], .int .i64 1]) (by simp [results, Tryz.results121, go_sem, z0, z1]) rfl ⟨by rw [HE.out, HM.out, HR.out], ((E2.cellset 0 rfl 0 _).cellset 0 rfl 1 _).low⟩
end Go.Proofs.YtnfedcaehkcffaaGreat
end
section
/- The walk of measure.Temp. -/
namespace Go.Proofs.YtnfedcaehkcffaaGreat
open Go.RowKit Go.Sl
set_option maxHeartbeats 2000000
set_option maxRecDepth 100000
theorem meaTemp_calls (A D : Option Addr) (ca cd : Nat) (xs : List STri) (rs : List Int) (h p : Hp) (w : World) (hs : h.sub w) (ps : p.sub w) (sx : Sl kTri h A ca xs) (so : Sl kInt p D cd rs) (hx : xs.length ≤ 1000) :
    Calls Tryz.prog 116 #[.slice A xs.length ca, .slice D rs.length cd] w fun e w' => e = .returned (.tuple #[.int .i64 (meaN xs rs), .int .i64 (meaE xs rs)]) ∧ Below w.heap.size w w' := by
  have m3 := so.small
  go_enter Tryz.func116, Tryz.ntmps116
  by_cases hlen : rs.length = xs.length
  · have L1 := Lib.hid hlen
    have t1 : ((rs.length : Int) != (xs.length : Int)) = false := by simp [hlen]
    have HE : Hid (meaE xs rs = if meaAll xs rs = false then 1 else if money (-meaS xs rs) = false then 6 else 0) := by
      unfold Hid meaE; rw [if_neg (by omega)]
    clear hlen
    go_wp2
    go_loopw [6, 18] (fun s i wr => ∃ (j : Nat) (M : Int), j ≤ xs.length ∧ i = .int .i64 j ∧ s = .int .i64 (-M) ∧ Hid (meaAll (xs.take j) (rs.take j) = true) ∧ Hid (M = meaS (xs.take j) (rs.take j)) ∧ Below w.heap.size w wr) (fun _ i _ => xs.length - (intOf i).toNat)
    case atStart => exact ⟨0, 0, by omega, rfl, rfl, rfl, rfl, Below.refl _ _⟩
    case round =>
      obtain ⟨j, M, hj, rfl, rfl, ha, hM, hb⟩ := hrel
      have hb1 := meaS_bd (xs.take j) (rs.take j)
      rw [← hM.out, List.length_take] at hb1
      have HB : -4000000000001000 ≤ M ∧ M ≤ 4000000000001000 := by omega
      clear hb1
      obtain ⟨q1, q2⟩ := HB
      by_cases hlt : j < xs.length
      · obtain ⟨x, hxx⟩ := some_of_lt hlt
        obtain ⟨r, hrr⟩ := some_of_lt (show j < rs.length by rw [L1.out]; exact hlt)
        obtain ⟨b1, o1, rfl, c1, c2, c3⟩ := sx.tri (hs.of_below hb) hxx
        obtain ⟨b2, o2, rfl, d1⟩ := so.int (ps.of_below hb) hrr
        have d1a := fun o => (cell_alloc (o := o) (World.block_lt_of_cell? _ _ d1)).trans d1
        have i1 : (0 : Int) ≤ (j : Int) := by omega
        have i2 : (j : Int) < (xs.length : Int) := by omega
        have i3 : (j : Int) < (rs.length : Int) := by rw [L1.out]; omega
        obtain ⟨q3, q4⟩ := ofVal_bd x.c r
        have hll : (xs.take j).length = (rs.take j).length := by rw [List.length_take, List.length_take, L1.out]
        have HTa : Hid (meaAll (xs.take (j + 1)) (rs.take (j + 1)) = meaOk x r) := by
          unfold Hid; rw [take_next hxx, take_next hrr, meaAll_snoc hll, ha.out]; rfl
        have HTm : Hid (meaS (xs.take (j + 1)) (rs.take (j + 1)) = M + ofVal x.c r) := by
          unfold Hid; rw [take_next hxx, take_next hrr, meaS_snoc hll, hM.out]
        clear hll
        have HNo : meaOk x r = false → Hid (meaE xs rs = 1) := fun h => by
          unfold Hid; rw [HE.out, if_pos (meaAll_no hxx.out hrr.out h)]
        have HO := fun W => of_calls x.c r W
        have RO := fun W => rateRight_calls r W
        have M1 := fun W => money_calls x.c W
        have HOK : meaOk x r = (rightRate r && money x.c) := rfl
        generalize ofVal x.c r = v1 at *
        generalize meaOk x r = ok at *
        cases e0 : rightRate r with
        | false =>
          have HE1 := HNo (by rw [HOK, e0]; rfl)
          have HN1 : Hid (meaN xs rs = 0) := by unfold Hid meaN; rw [HE1.out]; rfl
          rw [e0] at RO
          clear HNo HOK HTa HO e0
          go_wp2_with (first
            | (go_at_call 48; refine (RO _).mono ?_; rintro e w' ⟨rfl, rfl⟩)
            | (go_at_call 51; refine (M1 _).mono ?_; rintro e w' ⟨rfl, rfl⟩))
          go_ret2
          exact ⟨by rw [HE1.out, HN1.out]; rfl, hb.alloc hb.size _⟩
        | true =>
        cases e1 : money x.c with
        | false =>
          have HE1 := HNo (by rw [HOK, e0, e1]; rfl)
          have HN1 : Hid (meaN xs rs = 0) := by unfold Hid meaN; rw [HE1.out]; rfl
          rw [e0] at RO
          rw [e1] at M1
          clear HNo HOK HTa HO e0 e1
          go_wp2_with (first
            | (go_at_call 48; refine (RO _).mono ?_; rintro e w' ⟨rfl, rfl⟩)
            | (go_at_call 51; refine (M1 _).mono ?_; rintro e w' ⟨rfl, rfl⟩))
          go_ret2
          exact ⟨by rw [HE1.out, HN1.out]; rfl, hb.alloc hb.size _⟩
        | true =>
        have hf : ok = true := by rw [HOK, e0, e1]; rfl
        rw [e0] at RO
        rw [e1] at M1
        rw [hf] at HTa
        clear HNo HOK e0 e1 hf
        go_wp2_with (first
          | (go_at_call 48; refine (RO _).mono ?_; rintro e w' ⟨rfl, rfl⟩)
          | (go_at_call 51; refine (M1 _).mono ?_; rintro e w' ⟨rfl, rfl⟩))
        obtain ⟨W, hW⟩ : ∃ W : World, W = wr.alloc (.cells #[.int .i64 x.a, .int .i64 x.b, .int .i64 x.c] 97) := ⟨_, rfl⟩
        have q0 : W.cell? ⟨wr.heap.size, 0, none⟩ = some (.int .i64 x.a) := by rw [hW]; exact cell_new rfl
        have q1 : W.cell? ⟨wr.heap.size, 1, none⟩ = some (.int .i64 x.b) := by rw [hW]; exact cell_new rfl
        have q2 : W.cell? ⟨wr.heap.size, 2, none⟩ = some (.int .i64 x.c) := by rw [hW]; exact cell_new rfl
        have BW : Below wr.heap.size wr W := by rw [hW]; exact (Below.refl _ _).alloc (Nat.le_refl _) _
        rw [← hW]
        clear hW
        replace d1 := (BW.cell (World.block_lt_of_cell? _ _ d1)).trans d1
        have bW := hb.trans (BW.mono hb.size)
        go_quiet ((go_at_call 115; (first | exact quiet_one (HO _) | exact quiet_more (HO _))))
        go_wp2
        go_roundw
        case rel => exact ⟨j + 1, M + v1, by omega, by go_num, by go_num, HTa, HTm.symm, (by repeat (first | (with_reducible exact bW) | (with_reducible apply Below.drew) | (with_reducible apply Below.drN)))⟩
        case measure => simp [intOf]; omega
      · obtain rfl : j = xs.length := by omega
        rw [List.take_length, List.take_of_length_le (Nat.le_of_eq L1.out)] at ha hM
        have M1 := fun W => money_calls (-M) W
        have HE2 : Hid (meaE xs rs = if money (-M) = false then 6 else 0) := by unfold Hid; rw [HE.out, ha.out, ← hM.out]; rfl
        cases e1 : money (-M) with
        | false =>
          have HE1 : Hid (meaE xs rs = 6) := by unfold Hid; rw [HE2.out, e1]; rfl
          have HN1 : Hid (meaN xs rs = 0) := by unfold Hid meaN; rw [HE1.out]; rfl
          rw [e1] at M1
          clear e1 HE2
          go_wp2_with (go_at_call 51; refine (M1 _).mono ?_; rintro e w' ⟨rfl, rfl⟩)
          go_ret2
          exact ⟨by rw [HE1.out, HN1.out]; rfl, hb⟩
        | true =>
          have HE1 : Hid (meaE xs rs = 0) := by unfold Hid; rw [HE2.out, e1]; rfl
          have HN1 : Hid (meaN xs rs = -M) := by unfold Hid meaN; rw [HE1.out, if_pos rfl, ← hM.out]
          rw [e1] at M1
          clear e1 HE2
          go_wp2_with (go_at_call 51; refine (M1 _).mono ?_; rintro e w' ⟨rfl, rfl⟩)
          go_ret2
          exact ⟨by rw [HE1.out, HN1.out]; rfl, hb⟩
  · have HE : Hid (meaE xs rs = 1) := by unfold Hid meaE; rw [if_pos (by omega)]
    have HN : Hid (meaN xs rs = 0) := by unfold Hid meaN; rw [HE.out]; rfl
    have t1 : ((rs.length : Int) != (xs.length : Int)) = true := by simp; omega
    clear hlen
    go_wp2
    go_ret2
    exact ⟨by rw [HE.out, HN.out]; rfl, Below.refl _ _⟩
end Go.Proofs.YtnfedcaehkcffaaGreat
end
