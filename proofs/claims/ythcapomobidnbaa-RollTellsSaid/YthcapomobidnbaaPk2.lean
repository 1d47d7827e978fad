/- Walks and plain facts that the laws of this seat share, part 2: contracts of functions, each said at its theorem. -/
import Derived.Test.YthcapomobidnbaaPk1
import Derived.Deep.RegionHeld3
import Derived.Deep.QuietTactic
import Derived.BigQuiet
import Derived.BigRegion
import Derived.OwnWalk
section
/- law11.wakes: the document's example of chapter 11. -/
namespace Go.Proofs.Ythcapomobidnbaa
open Go.RowKit Go.Sl
set_option maxHeartbeats 1000000
set_option maxRecDepth 100000
/-- Forward, in a body's own memory. -/
theorem Rol.forward {w0 w : World} {l : List Hp} (E : Env w0 w l) {A B : Option Addr} {ca cb : Nat} {xs ys : List STri} {h k : Hp} (sx : Sl kTri h A ca xs) (hs : h.sub w) (sy : Sl kTri k B cb ys) (ks : k.sub w) (hx : xs.length ≤ 1000) (hy : ys.length ≤ 1000) (n m : Nat) (hn : xs.length = n) (hm : ys.length = m) {q : List SWay} (hq : fwd xs ys = q) :
    Calls Try.prog 17 #[.slice A n ca, .slice B m cb] w fun e w' => ∃ C cap h', e = .returned (.slice C q.length cap) ∧ Ow kWay h' C cap q ∧ Env w0 w' (l ++ [h']) := by
  subst hn
  subst hm
  subst hq
  exact (forward_calls A B ca cb xs ys h k w hs ks sx sy hx hy).mono fun _ _ ⟨C, cap, h', he, ho, u⟩ => ⟨C, cap, h', he, ho, E.new u⟩
theorem wakes11 (w : World) : Calls Try.prog 20 #[] w fun e w' => e = .returned (.bool true) ∧ Below w.heap.size w w' := by
  have E0 := Env.start w
  have H1 : Hid (fwd [⟨1, 2, 5⟩] [⟨1, 2, 7⟩] = [⟨1, 2, 5, 2, 7⟩]) := by unfold Hid; simp [fwd, fwdRaw, fO, fC, ups, setO, setC, fM, isort, put, wkey, ordPair, wrap64]
  have H2 : Hid (fwd [] [] = []) := rfl
  have HE := eq_row ⟨1, 2, 5, 2, 7⟩ ⟨1, 2, 5, 2, 7⟩
  have hb : eqB (⟨1, 2, 5, 2, 7⟩ : SWay) ⟨1, 2, 5, 2, 7⟩ = true := eqB_t rfl
  rw [hb] at HE
  clear hb
  go_enter Try.func20, Try.ntmps20
  go_wp2_with fail
  have E1 := (E0.alloc (.cells #[.int .i64 1, .int .i64 2, .int .i64 5] 40)).alloc (.cells #[.int .i64 1, .int .i64 2, .int .i64 7] 40)
  simp at E1
  refine (Rol.forward E1 (xs := [⟨1, 2, 5⟩]) (ys := [⟨1, 2, 7⟩]) (Sl.lit (Hp.one_self _ _) (by unfold maxLen; decide)) (E1.sub 0 rfl) (Sl.lit (Hp.one_self _ _) (by unfold maxLen; decide)) (E1.sub 1 (by simp; rfl)) (by decide) (by decide) 1 1 rfl rfl H1.out).mono ?_
  rintro e w2 ⟨C, cap, h2, rfl, o2, E2⟩
  obtain ⟨b2, of2, rfl, d1, d2, d3, d4, d5⟩ := o2.sl.way (E2.sub 2 rfl) (show Hid ([(⟨1, 2, 5, 2, 7⟩ : SWay)][0]? = some ⟨1, 2, 5, 2, 7⟩) from rfl)
  rw [Nat.zero_mul, Nat.add_zero] at d1 d2 d3 d4 d5
  go_wp2_with fail
  refine (Rol.forward E2 (xs := []) (ys := []) (Sl.none kTri Hp.none) (Hp.none_sub _) (Sl.none kTri Hp.none) (Hp.none_sub _) (by decide) (by decide) 0 0 rfl rfl H2.out).mono ?_
  rintro e w3 ⟨C3, cap3, h3, rfl, o3, E3⟩
  go_wp2
  go_ret
  exact ⟨rfl, E3.low⟩
end Go.Proofs.Ythcapomobidnbaa
end
section
/- The walk of the reference's register: set. -/
namespace Go.Sl
theorem setGo_skip {x y : STri} {d : Bool} {l : List STri} (h : rkey y = rkey x) : setGo ordPair rkey x d (y :: l) = setGo ordPair rkey x d l := by simp [setGo, h]
theorem setGo_keep {x y : STri} {d : Bool} {l : List STri} (h : rkey y ≠ rkey x) (h2 : d = true ∨ ordPair.lt (rkey x) (rkey y) = false) : setGo ordPair rkey x d (y :: l) = y :: setGo ordPair rkey x d l := by
  rw [setGo, if_neg h, if_neg]; rintro ⟨a, b⟩; rcases h2 with h2 | h2 <;> simp_all
theorem setGo_lay {x y : STri} {l : List STri} (h : ordPair.lt (rkey x) (rkey y) = true) : setGo ordPair rkey x false (y :: l) = x :: y :: setGo ordPair rkey x true l := by
  rw [setGo, if_neg (ordPair.ne h).symm, if_pos ⟨rfl, h⟩]
theorem app2 {α : Type} (l : List α) (x y : α) (r : List α) : l ++ x :: y :: r = (l ++ [x] ++ [y]) ++ r := by simp
theorem app1 {α : Type} (l : List α) (x : α) (r : List α) : l ++ x :: r = (l ++ [x]) ++ r := by simp
end Go.Sl
namespace Go.Proofs.Ythcapomobidnbaa
open Go.RowKit Go.Sl
set_option maxHeartbeats 2000000
set_option maxRecDepth 100000
theorem refSet_calls (b : Nat) (l : List STri) (c y n : Int) (h : Hp) (w : World) (hs : h.sub w) (hp : Pt kReg 30 h b l) (hl : l.length ≤ 1000) (hr : RisingR l) :
    Calls Try.prog 68 #[.pointer (some ⟨b, 0, none⟩), .int .i64 c, .int .i64 y, .int .i64 n] w fun e w' => ∃ h', e = .returned (.tuple #[]) ∧ Pt kReg 30 h' b (setB l c y n) ∧ Upd h h' w w' := by
  obtain ⟨cs, hb, A, ca, rfl, ow⟩ := hp
  have hbw := hs b _ hb
  have hlt := hs.lt (b := b) (by simp [hb])
  have hc : w.cell? ⟨b, 0, none⟩ = some (.slice A l.length ca) := by rw [cell_of_row w b 0 _ _ _ hbw]; rfl
  have hf : w.frozen? ⟨b, 0, none⟩ = false := frozen_of_row w b 0 _ _ hbw
  have sx := ow.sl
  have hd := hs.del b
  have m1 := sx.small
  obtain ⟨G, hG⟩ : ∃ G : Bool → List STri → List STri, G = setGo ordPair rkey ⟨c, y, n⟩ := ⟨_, rfl⟩
  have HG : Hid (setB l c y n = G (decide (n = 0)) l) := by unfold Hid; rw [hG, setGo_setB hr]
  have HE : ∀ d : Bool, Hid (G d [] = if d = true then [] else [⟨c, y, n⟩]) := fun d => by rw [hG]; exact rfl
  have GS : ∀ {x : STri} {d : Bool} {r : List STri}, x.a = c → x.b = y → G d (x :: r) = G d r := fun h1 h2 => by rw [hG]; exact setGo_skip (by simp [rkey, h1, h2])
  have GK : ∀ {x : STri} {d : Bool} {r : List STri}, ¬(x.a = c ∧ x.b = y) → (d = true ∨ ¬(c < x.a ∨ c = x.a ∧ y < x.b)) → G d (x :: r) = x :: G d r := fun h1 h2 => by
    rw [hG]; exact setGo_keep (by simpa [rkey] using h1) (h2.imp id fun h => by simpa [ordPair, rkey] using h)
  have GL : ∀ {x : STri} {r : List STri}, (c < x.a ∨ c = x.a ∧ y < x.b) → G false (x :: r) = ⟨c, y, n⟩ :: x :: G true r := fun h => by rw [hG]; exact setGo_lay (by simpa [ordPair, rkey] using h)
  have GLen : ∀ (d : Bool) (r : List STri), (G d r).length ≤ r.length + 1 := fun d r => by
    rw [hG]; clear hG HG HE GS GK GL
    induction r generalizing d with
    | nil => cases d <;> simp [setGo]
    | cons z r ih =>
      unfold setGo
      have i1 := ih d
      have i2 := ih true
      split
      · simp; omega
      · split
        · have : (setGo ordPair rkey ⟨c, y, n⟩ true r).length ≤ r.length := by rw [setGo_true]; exact del_le _ _
          simp; omega
        · simp; omega
  clear hG
  have hn0 : (n == 0) = decide (n = 0) := by rw [Bool.eq_iff_iff]; simp
  go_enter Try.func68, Try.ntmps68
  go_wp2
  rw [hn0] at *
  generalize decide (n = 0) = d0 at *
  go_loopw [8, 9, 19] (fun v d i wr => ∃ (j cap m : Nat) (dn : Bool) (C : Option Addr) (h' : Hp) (os : List STri), j ≤ l.length ∧ i = .int .i64 j ∧ d = .bool dn ∧ v = .slice C m cap ∧ Hid (os.length = m) ∧ Hid (G d0 l = os ++ G dn (l.drop j)) ∧ m ≤ 2 * j ∧ Ow kTri h' C cap os ∧ Upd Hp.none h' w wr) (fun _ _ i _ => l.length - (intOf i).toNat)
  case atStart => exact ⟨0, 0, 0, d0, none, Hp.none, [], by omega, rfl, rfl, rfl, rfl, by unfold Hid; simp, by omega, Ow.none _ _, Upd.of_below (Below.refl _ _)⟩
  case round =>
    obtain ⟨j, cap, m, dn, C, h', os, hj, rfl, rfl, rfl, hm, hg, hm2, ho, hu⟩ := hrel
    by_cases hlt2 : j < l.length
    · obtain ⟨x, hx⟩ := some_of_lt hlt2
      obtain ⟨b1, o1, rfl, c1, c2, c3⟩ := sx.tri (hd.of_below hu.below) hx
      have i1 : (0 : Int) ≤ (j : Int) := by omega
      have i2 : (j : Int) < (l.length : Int) := by omega
      have HD : Hid (G d0 l = os ++ G dn (x :: l.drop (j + 1))) := by unfold Hid; rw [hg.out, drop_next hx]
      clear hg
      by_cases hk : x.a = c ∧ x.b = y
      · have HN := Lib.hid (HD.out.trans (by rw [GS hk.1 hk.2]))
        have t1 : (x.a == c) = true := by simpa using hk.1
        have t2 : (x.b == y) = true := by simpa using hk.2
        clear hk GS GK GL HD HE GLen
        go_wp2
        go_roundw
        case rel => exact ⟨j + 1, cap, m, dn, C, h', os, by omega, by go_num, rfl, rfl, hm, HN, by omega, ho, hu.after (by repeat (first | exact Below.refl _ _ | apply Below.drew | refine Below.alloc ?_ (by simp) _))⟩
        case measure => simp [intOf]; omega
      · cases dn with
        | true =>
          by_cases ha : x.a = c
          · have hbb : x.b ≠ y := fun e => hk ⟨ha, e⟩
            have t1 : (x.a == c) = true := by simpa using ha
            have t2 : (x.b == y) = false := by simpa using hbb
            have HN : Hid (G d0 l = (os ++ [x]) ++ G true (l.drop (j + 1))) := by unfold Hid; rw [HD.out, GK hk (.inl rfl), app1]
            clear ha hbb
            clear hk GS GK GL HD HE GLen
            go_wp2_with (at_builtin; refine wpList_app1f (h := h') (xs := os) (y := x) Try.underlying28 info_bucket (by rfl) (by rfl) rfl m 1 (by rfl) (by rfl) hm.out ho (hu.sub.of_below (by repeat (first | exact Below.refl _ _ | apply Below.drew | refine Below.alloc ?_ (by simp) _))) (heap_new_at (by simp)) rfl (by omega) (by omega) ?_; intro C' cap' w1 h1 ho1 hu1)
            go_roundw
            case rel => exact ⟨j + 1, cap', m + 1, true, C', h1, os ++ [x], by omega, by go_num, rfl, rfl, by unfold Hid; rw [List.length_append, hm.out]; rfl, HN, by omega, ho1, hu.trans (hu1.before (by repeat (first | exact Below.refl _ _ | apply Below.drew | refine Below.alloc ?_ (by simp) _)))⟩
            case measure => simp [intOf]; omega
          · have t1 : (x.a == c) = false := by simpa using ha
            have HN : Hid (G d0 l = (os ++ [x]) ++ G true (l.drop (j + 1))) := by unfold Hid; rw [HD.out, GK hk (.inl rfl), app1]
            clear ha
            clear hk GS GK GL HD HE GLen
            go_wp2_with (at_builtin; refine wpList_app1f (h := h') (xs := os) (y := x) Try.underlying28 info_bucket (by rfl) (by rfl) rfl m 1 (by rfl) (by rfl) hm.out ho (hu.sub.of_below (by repeat (first | exact Below.refl _ _ | apply Below.drew | refine Below.alloc ?_ (by simp) _))) (heap_new_at (by simp)) rfl (by omega) (by omega) ?_; intro C' cap' w1 h1 ho1 hu1)
            go_roundw
            case rel => exact ⟨j + 1, cap', m + 1, true, C', h1, os ++ [x], by omega, by go_num, rfl, rfl, by unfold Hid; rw [List.length_append, hm.out]; rfl, HN, by omega, ho1, hu.trans (hu1.before (by repeat (first | exact Below.refl _ _ | apply Below.drew | refine Below.alloc ?_ (by simp) _)))⟩
            case measure => simp [intOf]; omega
        | false =>
          by_cases hlt3 : c < x.a ∨ c = x.a ∧ y < x.b
          · by_cases ha : x.a = c
            · have hbb : y < x.b := by omega
              have t1 : (x.a == c) = true := by simpa using ha
              have t2 : (x.b == y) = false := by simp; omega
              have t3 : decide (c < x.a) = false := by simp; omega
              have t4 : decide (y < x.b) = true := by simpa using hbb
              have HN : Hid (G d0 l = (os ++ [⟨c, y, n⟩] ++ [x]) ++ G true (l.drop (j + 1))) := by unfold Hid; rw [HD.out, GL hlt3, app2]
              clear ha hbb hlt3
              clear hk GS GK GL HD HE GLen
              have hm3 : Hid ((os ++ [(⟨c, y, n⟩ : STri)]).length = m + 1) := by unfold Hid; rw [List.length_append, hm.out]; rfl
              have hfree : Hid (h' wr.heap.size = none) := hu.sub.free (Nat.le_refl _)
              go_wp2_with (first | (at_builtin; refine wpList_app1f (h := h') (xs := os) (y := ⟨c, y, n⟩) Try.underlying28 info_bucket (by rfl) (by rfl) rfl m 1 (by rfl) (by rfl) hm.out ho (hu.sub.of_below (by repeat (first | exact Below.refl _ _ | apply Below.drew | refine Below.alloc ?_ (by simp) _))) (heap_new_at (by simp)) rfl (by omega) (by omega) ?_; intro C' cap' w1 h1 ho1 hu1; have k0 : w1.cell? ⟨wr.heap.size, 0, none⟩ = some (.int .i64 x.a) := hu1.cell (by simp) hfree.out; have k1 : w1.cell? ⟨wr.heap.size, 1, none⟩ = some (.int .i64 x.b) := hu1.cell (by simp) hfree.out; have k2 : w1.cell? ⟨wr.heap.size, 2, none⟩ = some (.int .i64 x.c) := hu1.cell (by simp) hfree.out) | (at_builtin; refine wpList_app1f (h := h1) (xs := os ++ [⟨c, y, n⟩]) (y := x) Try.underlying28 info_bucket (by rfl) (by rfl) rfl (m + 1) 1 (by rfl) (by rfl) hm3.out ho1 (hu1.sub.of_below (by repeat (first | exact Below.refl _ _ | apply Below.drew | refine Below.alloc ?_ (by simp) _))) (heap_new_at (by simp)) rfl (by omega) (by omega) ?_; intro C2 cap2 w2 h2 ho2 hu2))
              go_roundw
              case rel => exact ⟨j + 1, cap2, m + 1 + 1, true, C2, h2, os ++ [⟨c, y, n⟩] ++ [x], by omega, by go_num, rfl, rfl, by unfold Hid; rw [List.length_append, hm3.out]; rfl, HN, by omega, ho2, (hu.trans (hu1.before (by repeat (first | exact Below.refl _ _ | apply Below.drew | refine Below.alloc ?_ (by simp) _)))).trans (hu2.before (by repeat (first | exact Below.refl _ _ | apply Below.drew | refine Below.alloc ?_ (by simp) _)))⟩
              case measure => simp [intOf]; omega
            · have hbb : c < x.a := by omega
              have t1 : (x.a == c) = false := by simpa using ha
              have t3 : decide (c < x.a) = true := by simpa using hbb
              have HN : Hid (G d0 l = (os ++ [⟨c, y, n⟩] ++ [x]) ++ G true (l.drop (j + 1))) := by unfold Hid; rw [HD.out, GL hlt3, app2]
              clear ha hbb hlt3
              clear hk GS GK GL HD HE GLen
              have hm3 : Hid ((os ++ [(⟨c, y, n⟩ : STri)]).length = m + 1) := by unfold Hid; rw [List.length_append, hm.out]; rfl
              have hfree : Hid (h' wr.heap.size = none) := hu.sub.free (Nat.le_refl _)
              go_wp2_with (first | (at_builtin; refine wpList_app1f (h := h') (xs := os) (y := ⟨c, y, n⟩) Try.underlying28 info_bucket (by rfl) (by rfl) rfl m 1 (by rfl) (by rfl) hm.out ho (hu.sub.of_below (by repeat (first | exact Below.refl _ _ | apply Below.drew | refine Below.alloc ?_ (by simp) _))) (heap_new_at (by simp)) rfl (by omega) (by omega) ?_; intro C' cap' w1 h1 ho1 hu1; have k0 : w1.cell? ⟨wr.heap.size, 0, none⟩ = some (.int .i64 x.a) := hu1.cell (by simp) hfree.out; have k1 : w1.cell? ⟨wr.heap.size, 1, none⟩ = some (.int .i64 x.b) := hu1.cell (by simp) hfree.out; have k2 : w1.cell? ⟨wr.heap.size, 2, none⟩ = some (.int .i64 x.c) := hu1.cell (by simp) hfree.out) | (at_builtin; refine wpList_app1f (h := h1) (xs := os ++ [⟨c, y, n⟩]) (y := x) Try.underlying28 info_bucket (by rfl) (by rfl) rfl (m + 1) 1 (by rfl) (by rfl) hm3.out ho1 (hu1.sub.of_below (by repeat (first | exact Below.refl _ _ | apply Below.drew | refine Below.alloc ?_ (by simp) _))) (heap_new_at (by simp)) rfl (by omega) (by omega) ?_; intro C2 cap2 w2 h2 ho2 hu2))
              go_roundw
              case rel => exact ⟨j + 1, cap2, m + 1 + 1, true, C2, h2, os ++ [⟨c, y, n⟩] ++ [x], by omega, by go_num, rfl, rfl, by unfold Hid; rw [List.length_append, hm3.out]; rfl, HN, by omega, ho2, (hu.trans (hu1.before (by repeat (first | exact Below.refl _ _ | apply Below.drew | refine Below.alloc ?_ (by simp) _)))).trans (hu2.before (by repeat (first | exact Below.refl _ _ | apply Below.drew | refine Below.alloc ?_ (by simp) _)))⟩
              case measure => simp [intOf]; omega
          · by_cases ha : x.a = c
            · have hbb : x.b < y := by
                have : x.b ≠ y := fun e => hk ⟨ha, e⟩
                omega
              have t1 : (x.a == c) = true := by simpa using ha
              have t2 : (x.b == y) = false := by simp; omega
              have t3 : decide (c < x.a) = false := by simp; omega
              have t4 : decide (y < x.b) = false := by simp; omega
              have HN : Hid (G d0 l = (os ++ [x]) ++ G false (l.drop (j + 1))) := by unfold Hid; rw [HD.out, GK hk (.inr hlt3), app1]
              clear ha hbb hlt3
              clear hk GS GK GL HD HE GLen
              go_wp2_with (at_builtin; refine wpList_app1f (h := h') (xs := os) (y := x) Try.underlying28 info_bucket (by rfl) (by rfl) rfl m 1 (by rfl) (by rfl) hm.out ho (hu.sub.of_below (by repeat (first | exact Below.refl _ _ | apply Below.drew | refine Below.alloc ?_ (by simp) _))) (heap_new_at (by simp)) rfl (by omega) (by omega) ?_; intro C' cap' w1 h1 ho1 hu1)
              go_roundw
              case rel => exact ⟨j + 1, cap', m + 1, false, C', h1, os ++ [x], by omega, by go_num, rfl, rfl, by unfold Hid; rw [List.length_append, hm.out]; rfl, HN, by omega, ho1, hu.trans (hu1.before (by repeat (first | exact Below.refl _ _ | apply Below.drew | refine Below.alloc ?_ (by simp) _)))⟩
              case measure => simp [intOf]; omega
            · have hbb : x.a < c := by omega
              have t1 : (x.a == c) = false := by simpa using ha
              have t3 : decide (c < x.a) = false := by simp; omega
              have HN : Hid (G d0 l = (os ++ [x]) ++ G false (l.drop (j + 1))) := by unfold Hid; rw [HD.out, GK hk (.inr hlt3), app1]
              clear ha hbb hlt3
              clear hk GS GK GL HD HE GLen
              go_wp2_with (at_builtin; refine wpList_app1f (h := h') (xs := os) (y := x) Try.underlying28 info_bucket (by rfl) (by rfl) rfl m 1 (by rfl) (by rfl) hm.out ho (hu.sub.of_below (by repeat (first | exact Below.refl _ _ | apply Below.drew | refine Below.alloc ?_ (by simp) _))) (heap_new_at (by simp)) rfl (by omega) (by omega) ?_; intro C' cap' w1 h1 ho1 hu1)
              go_roundw
              case rel => exact ⟨j + 1, cap', m + 1, false, C', h1, os ++ [x], by omega, by go_num, rfl, rfl, by unfold Hid; rw [List.length_append, hm.out]; rfl, HN, by omega, ho1, hu.trans (hu1.before (by repeat (first | exact Below.refl _ _ | apply Below.drew | refine Below.alloc ?_ (by simp) _)))⟩
              case measure => simp [intOf]; omega
    · obtain rfl : j = l.length := by omega
      rw [List.drop_length] at hg
      have hcr := (hu.below.cell (p := ⟨b, 0, none⟩) hlt).trans hc
      have hfr := (hu.below.frozen (p := ⟨b, 0, none⟩) hlt).trans hf
      have hfree : Hid (h' b = none) := hu.new_none hlt
      cases dn with
      | true =>
        have HN : Hid (setB l c y n = os) := by unfold Hid; rw [HG.out, hg.out, (HE true).out, if_pos rfl, List.append_nil]
        clear GS GK GL HE GLen hg HG
        go_wp2
        obtain ⟨UF, hn3⟩ := Upd.field (v := .slice C m cap) 0 hb hs (Hp.none_le _) hu
        go_end0
        exact ⟨rfl, _, ⟨_, Hp.put_self, C, cap, by rw [HN.out, hm.out]; rfl, by rw [Hp.put_del hn3, HN.out]; exact ho⟩, UF⟩
      | false =>
        have HN : Hid (setB l c y n = os ++ [⟨c, y, n⟩]) := by unfold Hid; rw [HG.out, hg.out, (HE false).out, if_neg (by decide)]
        clear GS GK GL HE GLen hg HG
        go_wp2_with (at_builtin; refine wpList_app1f (h := h') (xs := os) (y := ⟨c, y, n⟩) Try.underlying28 info_bucket (by rfl) (by rfl) rfl m 1 (by rfl) (by rfl) hm.out ho (hu.sub.of_below (by repeat (first | exact Below.refl _ _ | apply Below.drew | refine Below.alloc ?_ (by simp) _))) (heap_new_at (by simp)) rfl (by omega) (by omega) ?_; intro C' cap' w1 h1 ho1 hu1; have g0 : w1.cell? ⟨b, 0, none⟩ = some (.slice A l.length ca) := hu1.cell ((cell_alloc (Nat.lt_of_lt_of_le hlt hu.size)).trans hcr) hfree.out; have gf : w1.frozen? ⟨b, 0, none⟩ = false := (hu1.frozen (p := ⟨b, 0, none⟩) (by simp; exact Nat.lt_of_lt_of_le hlt (Nat.le_trans hu.size (Nat.le_succ _))) hfree.out).trans ((frozen_alloc (Nat.lt_of_lt_of_le hlt hu.size)).trans hfr))
        obtain ⟨UF, hn3⟩ := Upd.field (v := .slice C' (m + 1) cap') 0 hb hs (Hp.none_le _) (hu.trans (hu1.before (by repeat (first | exact Below.refl _ _ | apply Below.drew | refine Below.alloc ?_ (by simp) _))))
        go_end0
        exact ⟨rfl, _, ⟨_, Hp.put_self, C', cap', by rw [HN.out, List.length_append, hm.out]; rfl, by rw [Hp.put_del hn3, HN.out]; exact ho1⟩, UF⟩
end Go.Proofs.Ythcapomobidnbaa
end
section
/- The walks of the reference's register: Copy, Move. -/
namespace Go.Proofs.Ythcapomobidnbaa
open Go.RowKit Go.Sl
set_option maxHeartbeats 2000000
set_option maxRecDepth 100000
theorem refCopyReg_calls (b : Nat) (l : List STri) (h : Hp) (w : World) (hs : h.sub w) (hp : Pt kReg 30 h b l) (hl : l.length ≤ 1000) :
    Calls Try.prog 67 #[.pointer (some ⟨b, 0, none⟩)] w fun e w' => ∃ h' b', e = .returned (.pointer (some ⟨b', 0, none⟩)) ∧ Pt kReg 30 h' b' l ∧ Upd Hp.none h' w w' := by
  obtain ⟨A, ca, hc, sx⟩ := hp.reg hs
  go_enter Try.func67, Try.ntmps67
  go_wp2_with (at_builtin; refine wpList_clone (B := none) Try.underlying28 info_bucket (by rfl) (by rfl) rfl l.length ca (by rfl) (by rfl) rfl kTri_flat sx hs (by omega) (by omega) ?_; intro C' cap' w1 h1 ho1 hu1)
  go_ret
  exact ⟨_, _, rfl, ⟨_, Hp.put_self, C', cap', rfl, by rw [Hp.put_del (hu1.sub.free (Nat.le_refl _))]; exact ho1⟩, hu1.put⟩
def MoveAns (b : Nat) (l : List STri) (c y n : Int) (h : Hp) (w : World) (e : Ending) (w' : World) : Prop :=
  ∃ h', e = .returned (.int .i64 (moveE l c y n)) ∧ Pt kReg 30 h' b (moveR l c y n) ∧ Upd h h' w w'
theorem MoveAns.no {b : Nat} {l : List STri} {c y n : Int} {h : Hp} {w w' : World} {E : Int} (hE : moveE l c y n = E) (h0 : E ≠ 0) (hp : Pt kReg 30 h b l) (hs : h.sub w) (hb : Below w.heap.size w w') :
    MoveAns b l c y n h w (.returned (.int .i64 E)) w' :=
  ⟨h, by rw [hE], by unfold moveR; rw [hE, if_neg h0]; exact hp, ⟨hb.os, hb.tape, hb.output, hb.size, fun q hq _ => hb.block q hq, hs.of_below hb, fun _ hq => .inl hq⟩⟩
theorem refMove_calls (b : Nat) (l : List STri) (c y n : Int) (h : Hp) (w : World) (hs : h.sub w) (hp : Pt kReg 30 h b l) (g : GoodR l) :
    Calls Try.prog 41 #[.pointer (some ⟨b, 0, none⟩), .int .i64 c, .int .i64 y, .int .i64 n] w (MoveAns b l c y n h w) := by
  obtain ⟨A, ca, hc, sx⟩ := hp.reg hs
  have hlt := World.block_lt_of_cell? w _ hc
  have hlen := g.len
  have BC := fun W : World => refBucket_calls c y W
  have MC := fun W : World => refMoney_calls n W
  cases hb : bucketOk c y with
  | false =>
    have HE : Hid (moveE l c y n = 1) := by unfold Hid moveE; rw [if_pos (by simp [hb])]
    rw [hb] at BC
    clear hb MC
    go_enter Try.func41, Try.ntmps41
    go_wp2_with (go_at_call 66; refine (BC _).mono ?_; rintro e w' ⟨rfl, rfl⟩)
    go_ret
    exact .no HE.out (by decide) hp hs (Below.refl _ _)
  | true =>
  cases hm : money n with
  | false =>
    have HE : Hid (moveE l c y n = 1) := by unfold Hid moveE; rw [if_pos (by simp [hm])]
    rw [hb] at BC
    rw [hm] at MC
    clear hb hm
    go_enter Try.func41, Try.ntmps41
    go_wp2_with (first
      | (go_at_call 66; refine (BC _).mono ?_; rintro e w' ⟨rfl, rfl⟩)
      | (go_at_call 49; refine (MC _).mono ?_; rintro e w' ⟨rfl, rfl⟩))
    go_ret
    exact .no HE.out (by decide) hp hs (Below.refl _ _)
  | true =>
  have hm' : -100000000000 ≤ n ∧ n ≤ 100000000000 := by simpa [money] using hm
  have hg := g.get c y
  have hsu := g.sum
  have GC := fun (W : World) (hW : Below w.heap.size w W) => refGet_calls b A ca l c y h W (hs.of_below hW) ((hW.cell (p := ⟨b, 0, none⟩) hlt).trans hc) sx
  have TC := fun (W : World) (hW : Below w.heap.size w W) => refTotal_calls b A ca l h W (hs.of_below hW) ((hW.cell (p := ⟨b, 0, none⟩) hlt).trans hc) sx (by omega) (mem_len g.mon)
  have CC := fun (W : World) (hW : Below w.heap.size w W) => refCopyReg_calls b l h W (hs.of_below hW) hp (by omega)
  have HM : Hid (moveE l c y n = if (money (getB l c y + n) && money (sumC l + n)) = false then 6 else if 12 < (setB l c y (getB l c y + n)).length then 5 else 0) := by
    unfold Hid moveE; rw [if_neg (by simp [hb, hm])]
  have HR : Hid (moveE l c y n = 0 → moveR l c y n = setB l c y (getB l c y + n)) := fun h => by unfold moveR; rw [if_pos h]
  have SC := fun (b' : Nat) (k : Hp) (W : World) (ks : k.sub W) (kp : Pt kReg 30 k b' l) => refSet_calls b' l c y (getB l c y + n) k W ks kp (by omega) g.rise
  rw [hb] at BC
  rw [hm] at MC
  clear hb hm
  generalize getB l c y = v at *
  generalize sumC l = s at *
  generalize setB l c y (v + n) = L at *
  have M1 := fun W : World => refMoney_calls (v + n) W
  have M2 := fun W : World => refMoney_calls (s + n) W
  cases h1 : money (v + n) with
  | false =>
    have HE : Hid (moveE l c y n = 6) := by unfold Hid; rw [HM.out, h1]; rfl
    rw [h1] at M1
    clear h1 HM HR SC M2 TC CC
    go_enter Try.func41, Try.ntmps41
    go_wp2_with fail
    refine (BC _).mono ?_
    rintro e w' ⟨rfl, rfl⟩
    go_wp2_with fail
    refine (MC _).mono ?_
    rintro e w' ⟨rfl, rfl⟩
    go_wp2_with fail
    refine (GC _ (Below.refl _ _)).mono ?_
    rintro e w1 ⟨rfl, b1⟩
    go_wp2_with fail
    refine (M1 _).mono ?_
    rintro e w' ⟨rfl, rfl⟩
    go_wp2
    go_ret
    exact .no HE.out (by decide) hp hs b1
  | true =>
  cases h2 : money (s + n) with
  | false =>
    have HE : Hid (moveE l c y n = 6) := by unfold Hid; rw [HM.out, h1, h2]; rfl
    rw [h1] at M1
    rw [h2] at M2
    clear h1 h2 HM HR SC CC
    go_enter Try.func41, Try.ntmps41
    go_wp2_with fail
    refine (BC _).mono ?_
    rintro e w' ⟨rfl, rfl⟩
    go_wp2_with fail
    refine (MC _).mono ?_
    rintro e w' ⟨rfl, rfl⟩
    go_wp2_with fail
    refine (GC _ (Below.refl _ _)).mono ?_
    rintro e w1 ⟨rfl, b1⟩
    go_wp2_with fail
    refine (M1 _).mono ?_
    rintro e w' ⟨rfl, rfl⟩
    go_wp2_with fail
    refine (TC _ b1).mono ?_
    rintro e w2 ⟨rfl, b2⟩
    have b12 := b1.trans (b2.mono b1.size)
    go_wp2_with fail
    refine (M2 _).mono ?_
    rintro e w' ⟨rfl, rfl⟩
    go_wp2
    go_ret
    exact .no HE.out (by decide) hp hs b12
  | true =>
  have HM2 : Hid (moveE l c y n = if 12 < L.length then 5 else 0) := by unfold Hid; rw [HM.out, h1, h2]; rfl
  rw [h1] at M1
  rw [h2] at M2
  clear h1 h2 HM
  go_enter Try.func41, Try.ntmps41
  go_wp2_with fail
  refine (BC _).mono ?_
  rintro e w' ⟨rfl, rfl⟩
  go_wp2_with fail
  refine (MC _).mono ?_
  rintro e w' ⟨rfl, rfl⟩
  go_wp2_with fail
  refine (GC _ (Below.refl _ _)).mono ?_
  rintro e w1 ⟨rfl, b1⟩
  go_wp2_with fail
  refine (M1 _).mono ?_
  rintro e w' ⟨rfl, rfl⟩
  go_wp2_with fail
  refine (TC _ b1).mono ?_
  rintro e w2 ⟨rfl, b2⟩
  have b12 := b1.trans (b2.mono b1.size)
  go_wp2_with fail
  refine (M2 _).mono ?_
  rintro e w' ⟨rfl, rfl⟩
  go_wp2_with fail
  refine (CC _ b12).mono ?_
  rintro e w3 ⟨h3, b3, rfl, p3, u3⟩
  have b13 := b12.trans (u3.below.mono b12.size)
  go_wp2_with fail
  refine (GC _ b13).mono ?_
  rintro e w4 ⟨rfl, b4⟩
  have b14 := b13.trans (b4.mono b13.size)
  go_wp2_with fail
  refine (SC b3 h3 w4 (u3.sub.of_below b4) p3).mono ?_
  rintro e w5 ⟨h5, rfl, ⟨cs5, k5, A5, c5, rfl, o5⟩, u5⟩
  have u35 : Upd Hp.none h5 w w5 := ((u3.before b12).after b4).trans u5
  have k5w := u35.sub _ _ k5
  have g5 : w5.cell? ⟨b3, 0, none⟩ = some (.slice A5 L.length c5) := by rw [cell_of_row w5 b3 0 _ _ _ k5w]; rfl
  clear k5w
  have m5 := o5.small
  by_cases h12 : 12 < L.length
  · have HE : Hid (moveE l c y n = 5) := by unfold Hid; rw [HM2.out, if_pos h12]
    have h12b : decide ((12 : Int) < (L.length : Int)) = true := by simp; omega
    clear h12 HR HM2
    go_wp2
    go_ret
    exact .no HE.out (by decide) hp hs u35.below
  · have HE : Hid (moveE l c y n = 0) := by unfold Hid; rw [HM2.out, if_neg h12]
    have h12b : decide ((12 : Int) < (L.length : Int)) = false := by simp; omega
    have HL := Lib.hid (HR.out HE.out)
    have gb : w5.cell? ⟨b, 0, none⟩ = some (.slice A l.length ca) := (u35.below.cell (p := ⟨b, 0, none⟩) hlt).trans hc
    obtain ⟨cs0, hb0, A0, ca0, rfl, ow0⟩ := hp
    have gf : w5.frozen? ⟨b, 0, none⟩ = false := (u35.below.frozen (p := ⟨b, 0, none⟩) hlt).trans (frozen_of_row w b 0 _ _ (hs b _ hb0))
    clear h12 HR HM2
    go_wp2
    obtain ⟨UF, hn3⟩ := Upd.field (v := .slice A5 L.length c5) 0 hb0 hs (Hp.none_le _) (u35.weaken (Hp.del_le h5 b3))
    go_ret
    exact ⟨_, by rw [HE.out]; rfl, ⟨_, Hp.put_self, A5, c5, by rw [HL.out]; rfl, by rw [Hp.put_del hn3, HL.out]; exact o5⟩, UF⟩
end Go.Proofs.Ythcapomobidnbaa
end
section
/- The walk of play.Register. -/
namespace Go.Sl
open Go Go.RowKit
theorem tdiv_bd {z k : Int} (hk : 0 < k) (hz : -9223372036854775808 ≤ z ∧ z ≤ 9223372036854775807) : -9223372036854775808 ≤ z.tdiv k ∧ z.tdiv k ≤ 9223372036854775807 := by
  have key : ∀ m : Int, 0 ≤ m → 0 ≤ m.tdiv k ∧ m.tdiv k ≤ m := fun m hm => by
    rw [Int.tdiv_eq_ediv_of_nonneg hm]
    exact ⟨Int.ediv_nonneg hm (by omega), Int.ediv_le_self _ hm⟩
  rcases Int.le_total 0 z with h | h
  · have := key z h; omega
  · have h2 := key (-z) (by omega)
    rw [Int.neg_tdiv] at h2; omega
theorem regOf_step {zs : List Int} {j : Nat} {z : Int} (hz : Hid (zs[j]? = some z)) : (zs.take (j + 1)).foldl regStep [] = regStep ((zs.take j).foldl regStep []) z := by
  rw [take_next hz, List.foldl_append]; rfl
end Go.Sl
namespace Go.Proofs.Ythcapomobidnbaa
open Go.RowKit Go.Sl
set_option maxHeartbeats 2000000
set_option maxRecDepth 100000
theorem playRegister_calls (A : Option Addr) (ca : Nat) (zs : List Int) (h : Hp) (w : World) (hs : h.sub w) (sx : Sl kInt h A ca zs) (hz : ∀ n ∈ zs, I64 n) :
    Calls Try.prog 15 #[.slice A zs.length ca] w fun e w' => ∃ h' b, e = .returned (.pointer (some ⟨b, 0, none⟩)) ∧ Pt kReg 30 h' b (regOf zs) ∧ Upd Hp.none h' w w' := by
  have m1 := sx.small
  have HZ := Lib.hid hz
  clear hz
  go_enter Try.func15, Try.ntmps15
  go_wp2
  go_loopw [4] (fun i wr => ∃ (j : Nat) (h' : Hp), j ≤ zs.length ∧ j ≤ 10 ∧ i = .int .i64 j ∧ Pt kReg 30 h' w.heap.size ((zs.take j).foldl regStep []) ∧ Upd Hp.none h' w wr) (fun i _ => 10 - (intOf i).toNat)
  case atStart => exact ⟨0, _, by omega, by omega, rfl, ⟨_, Hp.one_self _ _, none, 0, rfl, Ow.none _ _⟩, Upd.newBlock w _⟩
  case round =>
    obtain ⟨j, h', hj, hj2, rfl, hp, hu⟩ := hrel
    by_cases hlt : j < zs.length
    · by_cases hlt2 : j < 10
      · obtain ⟨z, hzz⟩ := some_of_lt hlt
        obtain ⟨b1, o1, rfl, c1⟩ := sx.int (hs.of_below hu.below) hzz
        obtain ⟨b1', o1', e', c0⟩ := sx.int hs hzz
        cases e'
        have hb1 : b1 < w.heap.size := World.block_lt_of_cell? w _ c0
        have hn : Hid (h' b1 = none) := hu.new_none hb1
        clear c0
        obtain ⟨z1, z2⟩ := HZ.out z (List.mem_of_getElem? hzz.out)
        have i1 : (0 : Int) ≤ (j : Int) := by omega
        have i2 : (j : Int) < (zs.length : Int) := by omega
        have a1 : -9223372036854775808 ≤ z.tdiv 3 ∧ z.tdiv 3 ≤ 9223372036854775807 := tdiv_bd (by omega) ⟨z1, z2⟩
        have a2 : -9223372036854775808 ≤ z.tdiv 15 ∧ z.tdiv 15 ≤ 9223372036854775807 := tdiv_bd (by omega) ⟨z1, z2⟩
        have w1 := within_lo z (n := 3) (by omega)
        have w2 := within_hi z (n := 3) (by omega)
        have hw1 : IntKind.i64.wrap (1 + within z 3) = 1 + within z 3 := by rw [IntKind.wrap_i64]; omega
        have hq3 : IntKind.i64.wrap (z.tdiv 3) = z.tdiv 3 := by rw [IntKind.wrap_i64]; omega
        have hq15 : IntKind.i64.wrap (z.tdiv 15) = z.tdiv 15 := by rw [IntKind.wrap_i64]; omega
        have HT := Lib.hid (regOf_step hzz)
        have hgood := GoodR.foldl (zs.take j) [] .nil
        generalize (zs.take j).foldl regStep [] = l at *
        have MV := fun (W : World) (hW : Below wr.heap.size wr W) => refMove_calls w.heap.size l (1 + within z 3) (within (z.tdiv 3) 5) (amount (z.tdiv 15)) h' W (hu.sub.of_below hW) hp hgood
        go_wp2
        go_region_held3 (fun w' => w'.cell? ⟨b1, o1 + j, none⟩ = some (.int .i64 z))
          (first | go_keep | (exact hkeep))
          (first
            | (go_at_call 21; ((with_reducible refine (within_calls _ _ _ (by omega) (by omega)).mono ?_)); rintro e w' ⟨rfl, rfl⟩)
            | (go_at_call 30; ((with_reducible refine (amount_calls _ a2 _).mono ?_)); rintro e w' ⟨rfl, rfl⟩)
            | (go_at_call 41; ((with_reducible refine (MV _ (by repeat (first | exact Below.refl _ _ | apply Below.drew | refine Below.alloc ?_ (by simp) _))).mono ?_)); rintro e w5 ⟨h5, rfl, p5, u5⟩; have hkeep : w5.cell? ⟨b1, o1 + j, none⟩ = some (.int .i64 z) := u5.cell (by simpa using c1) hn.out))
        go_wp2
        go_roundw
        case rel => exact ⟨j + 1, h5, by omega, by omega, by go_num, by rw [HT.out]; exact p5, hu.trans (u5.before (by repeat (first | exact Below.refl _ _ | apply Below.drew | refine Below.alloc ?_ (by simp) _)))⟩
        case measure => simp [intOf]; omega
      · have HF : Hid (regOf zs = (zs.take j).foldl regStep []) := by unfold Hid regOf; rw [show j = 10 by omega]
        go_wp2
        go_ret
        exact ⟨h', _, rfl, by rw [HF.out]; exact hp, hu⟩
    · have HF : Hid (regOf zs = (zs.take j).foldl regStep []) := by unfold Hid regOf; rw [List.take_of_length_le (l := zs) (i := 10) (by omega), List.take_of_length_le (l := zs) (i := j) (by omega)]
      go_wp2
      go_ret
      exact ⟨h', _, rfl, by rw [HF.out]; exact hp, hu⟩
end Go.Proofs.Ythcapomobidnbaa
end
section
/- append onto a slice in a body's own memory. No program is named here. -/
namespace Go.Sl
open Go Go.RowKit
section
variable {P : Program} {α : Type} {k : Kd α} {h hx : Hp} {A B : Option Addr} {cap : Nat} {xs ys : List α} {w0 w : World} {l : List Hp}
theorem Env.at_mem (E : Env w0 w l) {h : Hp} (m : h ∈ l) : h.sub w := E.own.mem h m
/-- One flat element. -/
theorem wpList_eapp {ops : Array Oper} {rest : List Oper} {op : Oper} {a : Act} {Q : Exit → Act → World → Prop} {sx xx : Operand} {t e : TypeId} {z : Value} {bytes : Nat} {cs : List Value} {T : TypeId} {fr : Nat × Nat} {b : Nat}
    (i : Nat) (y : α) (ht : P.underlying t = some (.slice e)) (hinfo : Info P e z k.size bytes) (E : Env w0 w l) (hi : l[i]? = some h) (o : Ow k h A cap xs) (n : Nat) (hn : xs.length = n)
    (hzs : z.cells.size = k.size) (hgd : Region.wanted op (yielded ops a.tmps) = true)
    (ho : op.op = .call { callee := .builtin .append, args := #[sx, xx], argTypes := #[t, t] }) (c : Nat) (hsv : a.eval sx = .slice A n cap) (hxv : a.eval xx = .slice (some ⟨b, 0, none⟩) 1 c)
    (hb : w.heap[b]? = some (.cells cs.toArray T fr)) (hK : k.K Hp.none y cs)
    (hm : n + 1 ≤ 1000000000) (hby : bytes ≤ 1000)
    (H : ∀ A' cap' w' h', Ow k h' A' cap' (xs ++ [y]) → Env w0 w' (l.set i h') → wpList P ops Q rest (a.put op.dst (.slice A' (n + 1) cap')) w') : wpList P ops Q (op :: rest) a w :=
  wpList_app1f ht hinfo hzs hgd ho n c hsv hxv hn o (E.sub i hi) hb hK hm hby fun A' cap' w' h' h1 h2 => H A' cap' w' h' h1 (E.upd i hi h2)
/-- A whole slice of flat elements. -/
theorem wpList_eappF {ops : Array Oper} {rest : List Oper} {op : Oper} {a : Act} {Q : Exit → Act → World → Prop} {sx xx : Operand} {t e : TypeId} {z : Value} {bytes cb : Nat}
    (i : Nat) (ht : P.underlying t = some (.slice e)) (hinfo : Info P e z k.size bytes) (E : Env w0 w l) (hi : l[i]? = some h) (o : Ow k h A cap xs) (sy : Sl k hx B cb ys) (sx' : hx.sub w) (n m : Nat) (hn : xs.length = n) (hm' : ys.length = m)
    (f : k.Flat) (hzs : z.cells.size = k.size) (hgd : Region.wanted op (yielded ops a.tmps) = true)
    (ho : op.op = .call { callee := .builtin .append, args := #[sx, xx], argTypes := #[t, t] }) (c : Nat) (hsv : a.eval sx = .slice A n cap) (hxv : a.eval xx = .slice B m c)
    (hm : n + m ≤ 1000000000) (hby : bytes ≤ 1000)
    (H : ∀ A' cap' w' h', Ow k h' A' cap' (xs ++ ys) → Env w0 w' (l.set i h') → wpList P ops Q rest (a.put op.dst (.slice A' (n + m) cap')) w') : wpList P ops Q (op :: rest) a w :=
  wpList_appF ht hinfo hzs hgd ho n m c hsv hxv hn hm' f o (E.sub i hi) sy sx' hm hby fun A' cap' w' h' h1 h2 => H A' cap' w' h' h1 (E.upd i hi h2)
end
end Go.Sl
end
section
/- keep.Same over roll.Row: the same things? -/
namespace Go.Proofs.Ythcapomobidnbaa
open Go.RowKit Go.Sl
set_option maxHeartbeats 1000000
set_option maxRecDepth 100000
theorem same_row (A B : Option Addr) (ca cb : Nat) (xs ys : List SWay) (h k : Hp) (w : World) (hs : h.sub w) (ks : k.sub w) (sx : Sl kWay h A ca xs) (sy : Sl kWay k B cb ys) :
    Calls Try.prog 23 #[.slice A xs.length ca, .slice B ys.length cb] w fun e w' => e = .returned (.bool (eqB xs ys)) ∧ Below w.heap.size w w' := by
  have m1 := sx.small
  have m2 := sy.small
  by_cases hl : xs.length = ys.length
  · have hl1 : ((xs.length : Int) == (ys.length : Int)) = true := by simp [hl]
    have hl2 : ((xs.length : Int) != (ys.length : Int)) = false := by simp [hl]
    have hL := Lib.hid hl
    clear hl
    go_enter Try.func23, Try.ntmps23
    go_wp2
    clear hl1 hl2
    go_loopw [5] (fun i wr => ∃ j : Nat, j ≤ xs.length ∧ i = .int .i64 j ∧ Hid (xs.take j = ys.take j) ∧ Below w.heap.size w wr) (fun i _ => xs.length - (intOf i).toNat)
    case atStart => exact ⟨0, by omega, rfl, rfl, Below.refl _ _⟩
    case round =>
      obtain ⟨j, hj, rfl, he, hb⟩ := hrel
      by_cases hlt : j < xs.length
      · have hlt2 : j < ys.length := by have := hL.out; omega
        obtain ⟨x, hx⟩ := some_of_lt hlt
        obtain ⟨y, hy⟩ := some_of_lt hlt2
        obtain ⟨b1, o1, rfl, c1, c2, c3, c4, c5⟩ := sx.way (hs.of_below hb) hx
        obtain ⟨b2, o2, rfl, d1, d2, d3, d4, d5⟩ := sy.way (ks.of_below hb) hy
        have hn := ne_row x y
        have i1 : (0 : Int) ≤ (j : Int) := by omega
        have i2 : (j : Int) < (xs.length : Int) := by omega
        have i3 : (j : Int) < (ys.length : Int) := by omega
        have hE := take_both hx hy
        by_cases hxy : x = y
        · have hd := neB_f hxy
          have hE2 := hE.2 ⟨he, hxy⟩
          clear hxy hE
          go_wp2
          go_region_held3 (fun w' => w'.cell? ⟨b1, o1 + j * 5, none⟩ = some (.int .i64 x.cls) ∧ w'.cell? ⟨b1, o1 + j * 5 + 1, none⟩ = some (.int .i64 x.yr) ∧ w'.cell? ⟨b1, o1 + j * 5 + 2, none⟩ = some (.int .i64 x.opn) ∧ w'.cell? ⟨b1, o1 + j * 5 + 3, none⟩ = some (.int .i64 x.mov) ∧ w'.cell? ⟨b1, o1 + j * 5 + 4, none⟩ = some (.int .i64 x.clo) ∧ w'.cell? ⟨b2, o2 + j * 5, none⟩ = some (.int .i64 y.cls) ∧ w'.cell? ⟨b2, o2 + j * 5 + 1, none⟩ = some (.int .i64 y.yr) ∧ w'.cell? ⟨b2, o2 + j * 5 + 2, none⟩ = some (.int .i64 y.opn) ∧ w'.cell? ⟨b2, o2 + j * 5 + 3, none⟩ = some (.int .i64 y.mov) ∧ w'.cell? ⟨b2, o2 + j * 5 + 4, none⟩ = some (.int .i64 y.clo)) (go_keep) (fail)
          go_wp2
          go_roundw
          case rel => exact ⟨j + 1, by omega, by go_num, hE2, hb.drew⟩
          case measure => simp [intOf]; omega
        · have hd := neB_t hxy
          have hne : Hid (xs ≠ ys) := fun e => hxy (by have := hx.out; rw [e, hy.out] at this; exact (Option.some.inj this).symm)
          clear hxy hE
          go_wp2
          go_region_held3 (fun w' => w'.cell? ⟨b1, o1 + j * 5, none⟩ = some (.int .i64 x.cls) ∧ w'.cell? ⟨b1, o1 + j * 5 + 1, none⟩ = some (.int .i64 x.yr) ∧ w'.cell? ⟨b1, o1 + j * 5 + 2, none⟩ = some (.int .i64 x.opn) ∧ w'.cell? ⟨b1, o1 + j * 5 + 3, none⟩ = some (.int .i64 x.mov) ∧ w'.cell? ⟨b1, o1 + j * 5 + 4, none⟩ = some (.int .i64 x.clo) ∧ w'.cell? ⟨b2, o2 + j * 5, none⟩ = some (.int .i64 y.cls) ∧ w'.cell? ⟨b2, o2 + j * 5 + 1, none⟩ = some (.int .i64 y.yr) ∧ w'.cell? ⟨b2, o2 + j * 5 + 2, none⟩ = some (.int .i64 y.opn) ∧ w'.cell? ⟨b2, o2 + j * 5 + 3, none⟩ = some (.int .i64 y.mov) ∧ w'.cell? ⟨b2, o2 + j * 5 + 4, none⟩ = some (.int .i64 y.clo)) (go_keep) (fail)
          go_wp2
          go_ret
          exact ⟨by rw [eqB_f hne.out]; rfl, hb.drew⟩
      · have hfin : Hid (xs = ys) := by
          have h1 := he.out
          have hjl : j = xs.length := by omega
          rw [hjl, List.take_length] at h1
          rw [h1, hL.out, List.take_length]; rfl
        go_wp2
        go_ret
        exact ⟨by rw [eqB_t hfin.out]; rfl, hb⟩
  · have hl1 : ((xs.length : Int) == (ys.length : Int)) = false := by simp; omega
    have hl2 : ((xs.length : Int) != (ys.length : Int)) = true := by simp; omega
    have hne : Hid (xs ≠ ys) := fun e => hl (by rw [e])
    clear hl
    go_enter Try.func23, Try.ntmps23
    go_wp2
    go_ret
    exact ⟨by rw [eqB_f hne.out]; rfl, Below.refl _ _⟩
end Go.Proofs.Ythcapomobidnbaa
end
section
/- The calls of chapter 11, in a body's own memory. -/
namespace Go.Proofs.Ythcapomobidnbaa
open Go.RowKit Go.Sl
set_option maxHeartbeats 1000000
set_option maxRecDepth 100000
/-- A register out of numbers: its parts, its slice. -/
theorem Rol.reg {w0 w : World} {l : List Hp} (E : Env w0 w l) {A : Option Addr} {ca : Nat} {zs : List Int} {h : Hp} (sx : Sl kInt h A ca zs) (hs : h.sub w) (hz : ∀ n ∈ zs, I64 n) :
    Calls Try.prog 15 #[.slice A zs.length ca] w fun e w' => ∃ h' b, e = .returned (.pointer (some ⟨b, 0, none⟩)) ∧ Pt kReg 30 h' b (regOf zs) ∧ Env w0 w' (l ++ [h']) :=
  (playRegister_calls A ca zs h w hs sx hz).mono fun _ _ ⟨h', b, he, hp, u⟩ => ⟨h', b, he, hp, E.new u⟩
theorem Rol.moved {w0 w : World} {l : List Hp} (E : Env w0 w l) {A B : Option Addr} {ca cb : Nat} {xs ys : List STri} {h k : Hp} (sx : Sl kTri h A ca xs) (hs : h.sub w) (sy : Sl kTri k B cb ys) (ks : k.sub w) (hx : xs.length ≤ 1000) (hy : ys.length ≤ 1000) (n m : Nat) (hn : xs.length = n) (hm : ys.length = m) {q : Int} (hq : movSum (fwd xs ys) = q) :
    Calls Try.prog 19 #[.slice A n ca, .slice B m cb] w fun e w' => e = .returned (.int .i64 q) ∧ Env w0 w' l := by
  subst hn
  subst hm
  subst hq
  exact (moved_calls A B ca cb xs ys h k w hs ks sx sy hx hy).mono fun _ _ ⟨he, b⟩ => ⟨he, E.below b⟩
theorem Rol.classes {w0 w : World} {l : List Hp} (E : Env w0 w l) {A : Option Addr} {ca : Nat} {xs : List SWay} {h : Hp} (sx : Sl kWay h A ca xs) (hs : h.sub w) (hx : xs.length ≤ 1000) (n : Nat) (hn : xs.length = n) {q : List SWay} (hq : classes xs = q) :
    Calls Try.prog 22 #[.slice A n ca] w fun e w' => ∃ C cap h', e = .returned (.slice C q.length cap) ∧ Ow kWay h' C cap q ∧ Env w0 w' (l ++ [h']) := by
  subst hn
  subst hq
  exact (classes_calls A ca xs h w hs sx hx).mono fun _ _ ⟨C, cap, h', he, ho, u⟩ => ⟨C, cap, h', he, ho, E.new u⟩
theorem Rol.total {w0 w : World} {l : List Hp} (E : Env w0 w l) {b : Nat} {xs : List STri} {h : Hp} (p : Pt kReg 30 h b xs) (hs : h.sub w) (g : GoodR xs) {q : Int} (hq : sumC xs = q) :
    Calls Try.prog 25 #[.pointer (some ⟨b, 0, none⟩)] w fun e w' => e = .returned (.int .i64 q) ∧ Env w0 w' l := by
  subst hq
  obtain ⟨A, ca, hc, sx⟩ := p.reg hs
  exact (refTotal_calls b A ca xs h w hs hc sx (by have := g.len; omega) (mem_len g.mon)).mono fun _ _ ⟨he, b⟩ => ⟨he, E.below b⟩
theorem Rol.get {w0 w : World} {l : List Hp} (E : Env w0 w l) {b : Nat} {xs : List STri} {h : Hp} (p : Pt kReg 30 h b xs) (hs : h.sub w) (c y : Int) {q : Int} (hq : getB xs c y = q) :
    Calls Try.prog 18 #[.pointer (some ⟨b, 0, none⟩), .int .i64 c, .int .i64 y] w fun e w' => e = .returned (.int .i64 q) ∧ Env w0 w' l := by
  subst hq
  obtain ⟨A, ca, hc, sx⟩ := p.reg hs
  exact (refGet_calls b A ca xs c y h w hs hc sx).mono fun _ _ ⟨he, b⟩ => ⟨he, E.below b⟩
theorem Rol.same {w0 w : World} {l : List Hp} (E : Env w0 w l) {A B : Option Addr} {ca cb : Nat} {xs ys : List SWay} {k k2 : Hp} (ks : k.sub w) (ks2 : k2.sub w) (sx : Sl kWay k A ca xs) (sy : Sl kWay k2 B cb ys) (n m : Nat) (hn : xs.length = n) (hm : ys.length = m) (he : xs = ys) :
    Calls Try.prog 23 #[.slice A n ca, .slice B m cb] w fun e w' => e = .returned (.bool true) ∧ Env w0 w' l := by
  subst hn
  subst hm
  exact (same_row A B ca cb xs ys k k2 w ks ks2 sx sy).mono fun _ _ ⟨e1, b⟩ => ⟨by rw [e1, eqB_t he], E.below b⟩
theorem Rol.classesN {w0 w : World} {l : List Hp} (E : Env w0 w l) {A : Option Addr} {ca : Nat} {xs : List SWay} {h : Hp} (sx : Sl kWay h A ca xs) (hs : h.sub w) (hx : xs.length ≤ 1000) (n : Nat) (hn : xs.length = n) {q : List SWay} (hq : Go.Sl.classes xs = q) (m : Nat) (hm : q.length = m) :
    Calls Try.prog 22 #[.slice A n ca] w fun e w' => ∃ C cap h', e = .returned (.slice C m cap) ∧ Ow kWay h' C cap q ∧ Env w0 w' (l ++ [h']) := by
  subst hm
  exact Rol.classes E sx hs hx n hn hq
end Go.Proofs.Ythcapomobidnbaa
end
section
/- '==' and '!=' of scutageref09.Way. -/
namespace Go.Proofs.Ythcapomobidnbaa
open Go.RowKit Go.Sl
set_option maxHeartbeats 1000000
set_option maxRecDepth 100000
theorem equalIn_way (d : Nat) (x0 y0 : Int) (x1 y1 : Int) (x2 y2 : Int) (x3 y3 : Int) (x4 y4 : Int) (w : World) : (Op.equalIn (d + 2) 44 (.agg #[.int .i64 x0, .int .i64 x1, .int .i64 x2, .int .i64 x3, .int .i64 x4]) (.agg #[.int .i64 y0, .int .i64 y1, .int .i64 y2, .int .i64 y3, .int .i64 y4])).run Try.prog w = .ok (x0 == y0 && (x1 == y1 && (x2 == y2 && (x3 == y3 && (x4 == y4 && (true)))))) w := by
  refine equalIn_struct (d := d + 1) Try.underlying44 (by kernel_rfl) ?_
  refine eqFields_cons (by rfl) (by go_simp; rfl) (by go_simp; rfl) (by go_simp) ?_
  refine eqFields_cons (by rfl) (by go_simp; rfl) (by go_simp; rfl) (by go_simp) ?_
  refine eqFields_cons (by rfl) (by go_simp; rfl) (by go_simp; rfl) (by go_simp) ?_
  refine eqFields_cons (by rfl) (by go_simp; rfl) (by go_simp; rfl) (by go_simp) ?_
  refine eqFields_cons (by rfl) (by go_simp; rfl) (by go_simp; rfl) (by go_simp) ?_
  exact eqFields_nil
theorem eqc_way (x y : SWay) : (x.cls == y.cls && (x.yr == y.yr && (x.opn == y.opn && (x.mov == y.mov && (x.clo == y.clo && (true)))))) = decide (x = y) := by
  rw [Bool.eq_iff_iff]; cases x; cases y; simp
theorem ne_way (x y : SWay) (w : World) : (binOp .neq 44 (.agg #[.int .i64 x.cls, .int .i64 x.yr, .int .i64 x.opn, .int .i64 x.mov, .int .i64 x.clo]) (.agg #[.int .i64 y.cls, .int .i64 y.yr, .int .i64 y.opn, .int .i64 y.mov, .int .i64 y.clo])).run Try.prog w = .ok (.bool (neB x y)) w := by
  have h := equalIn_way 9998 x.cls y.cls x.yr y.yr x.opn y.opn x.mov y.mov x.clo y.clo w
  simp only [Nat.reduceAdd] at h
  rw [neq_struct h, eqc_way]; rfl
theorem eq_way (x y : SWay) (w : World) : (binOp .eql 44 (.agg #[.int .i64 x.cls, .int .i64 x.yr, .int .i64 x.opn, .int .i64 x.mov, .int .i64 x.clo]) (.agg #[.int .i64 y.cls, .int .i64 y.yr, .int .i64 y.opn, .int .i64 y.mov, .int .i64 y.clo])).run Try.prog w = .ok (.bool (eqB x y)) w := by
  have h := equalIn_way 9998 x.cls y.cls x.yr y.yr x.opn y.opn x.mov y.mov x.clo y.clo w
  simp only [Nat.reduceAdd] at h
  rw [eql_struct h, eqc_way]; rfl
end Go.Proofs.Ythcapomobidnbaa
end
section
/- The walk of law11.RollTells. -/
namespace Go.Sl
open Go Go.RowKit
theorem fold_mov {l : List SWay} {j : Nat} {x : SWay} (h : Hid (l[j]? = some x)) : (l.take (j + 1)).foldl addMov 0 = wrap64 ((l.take j).foldl addMov 0 + x.mov) := by
  rw [take_next h, List.foldl_append]; rfl
/-- Classes so far, of rising rows. -/
theorem cls_upto : ∀ (l : List SWay), (∀ x ∈ l, (wrap64 x.opn = x.opn ∧ wrap64 x.mov = x.mov) ∧ wrap64 x.clo = x.clo) → Rising ordPair wkey l → ∀ (G : List SWay) (m : Int), ClsUpto G m → (∀ x ∈ l, m ≤ x.cls) → ∀ k : Int, (∀ x ∈ l, x.cls ≤ k) → m ≤ k → ClsUpto (l.foldl clsStep G) k
  | [], _, _, G, m, hG, _, k, _, hk => hG.mono hk
  | x :: l, hw, hr, G, m, hG, hm, k, hx, hk => by
    have hmx := hm x (by simp)
    have h1 : ClsUpto (clsStep G x) x.cls := by
      rcases List.eq_nil_or_concat G with rfl | ⟨G', g, rfl⟩
      · exact (clsStep_app hG hmx (fun g hg => by simp at hg) (hw x (by simp))).2
      · simp only [List.concat_eq_append] at hG ⊢
        by_cases hg : g.cls = x.cls
        · exact (clsStep_last hG hg).2
        · exact (clsStep_app hG hmx (fun g' hg' => by simp at hg'; subst hg'; exact hg) (hw x (by simp))).2
    rw [List.foldl_cons]
    refine cls_upto l (fun z hz => hw z (by simp [hz])) hr.tail (clsStep G x) x.cls h1 (fun z hz => ?_) k (fun z hz => hx z (by simp [hz])) (hx x (by simp))
    have := hr.head ordPair wkey z hz
    simp [ordPair, wkey] at this; omega
theorem rising_take {l : List SWay} (h : Rising ordPair wkey l) (j : Nat) : Rising ordPair wkey (l.take j) := List.Pairwise.sublist (List.take_sublist j l) h
theorem rising_le {l : List SWay} (h : Rising ordPair wkey l) {j : Nat} {x : SWay} (hx : l[j]? = some x) : ∀ y ∈ l.take j, y.cls ≤ x.cls := by
  intro y hy
  have hj := List.getElem?_eq_some_iff.1 hx
  have e : l = l.take j ++ x :: l.drop (j + 1) := by
    have := List.take_append_drop j l
    rw [List.drop_eq_getElem_cons hj.1, hj.2] at this; exact this.symm
  unfold Rising at h
  rw [e] at h
  have := (List.pairwise_append.1 h).2.2 y hy x (by simp)
  simp [ordPair, wkey] at this; omega
end Go.Sl
namespace Go.Proofs.Ythcapomobidnbaa
open Go.RowKit Go.Sl
set_option maxHeartbeats 4000000
set_option maxRecDepth 100000
theorem rollTells_calls (A B : Option Addr) (ca cb : Nat) (za zb : List Int) (h1 h2 : Hp) (w : World) (hs1 : h1.sub w) (hs2 : h2.sub w) (s1 : Sl kInt h1 A ca za) (s2 : Sl kInt h2 B cb zb) (w1 : ∀ n ∈ za, I64 n) (w2 : ∀ n ∈ zb, I64 n) :
    Calls Try.prog 5 #[.slice A za.length ca, .slice B zb.length cb] w fun e w' => e = .returned (.bool true) ∧ Below w.heap.size w w' := by
  have E0 := Env.start w
  have RX := fun W l (E : Env w W l) => Rol.reg E s1 (hs1.of_below E.low) w1
  have RY := fun W l (E : Env w W l) => Rol.reg E s2 (hs2.of_below E.low) w2
  have gx := regOf_good za
  have gy := regOf_good zb
  generalize regOf za = xs at *
  generalize regOf zb = ys at *
  clear hs1 hs2 s1 s2 w1 w2
  go_enter Try.func5, Try.ntmps5
  go_wp2_with fail
  refine (RX _ _ E0).mono ?_
  rintro e w1 ⟨hx, bx, rfl, px, E1⟩
  try simp at E1
  go_wp2_with fail
  refine (RY _ _ E1).mono ?_
  rintro e w2 ⟨hy, by', rfl, py, E2⟩
  try simp at E2
  clear RX RY
  obtain ⟨AX, cx, kx, sx⟩ := px.reg (E2.sub 0 rfl)
  obtain ⟨AY, cy, ky, sy⟩ := py.reg (E2.sub 1 rfl)
  have lx := gx.len
  have ly := gy.len
  have KX := fun (W : World) (hW : Below w2.heap.size w2 W) => And.intro ((hW.cell (p := ⟨bx, 0, none⟩) (World.block_lt_of_cell? w2 _ kx)).trans kx) ((hW.cell (p := ⟨by', 0, none⟩) (World.block_lt_of_cell? w2 _ ky)).trans ky)
  have HF := fwd_ref gx gy
  have lr := len_ref gx gy
  have HRise := Lib.hid (rising_ref xs ys)
  have HG : Hid (∀ x ∈ refFwd xs ys, ((wrap64 x.opn = x.opn ∧ wrap64 x.mov = x.mov) ∧ wrap64 x.clo = x.clo) ∧ 1 ≤ x.cls ∧ x.cls ≤ 9) := by
    intro x hx
    obtain ⟨⟨a1, a2⟩, ⟨b1, b2⟩, hm⟩ := row_good gx gy hx
    obtain ⟨_, _, _, _, h1, h2, _⟩ := row_of hx
    exact ⟨⟨⟨wrap64_small (by omega), wrap64_small (by omega)⟩, wrap64_small (by omega)⟩, h1, h2⟩
  have FR1 := fun (W : World) (s1 : hx.sub W) (s2 : hy.sub W) => refForward_calls AX AY cx cy xs ys hx hy W s1 s2 sx sy
  generalize refFwd xs ys = rows at *
  have FA0 := fun (W : World) (l : List Hp) (E : Env w2 W l) => Rol.forward E sx ((E2.sub 0 rfl).of_below E.low) sy ((E2.sub 1 rfl).of_below E.low) (by omega) (by omega) _ _ rfl rfl HF
  have FR0 : ∀ (W : World) (l : List Hp) (E : Env w2 W l), Calls Try.prog 24 #[.slice AX xs.length cx, .slice AY ys.length cy] W fun e w' => ∃ C cap h', e = .returned (.slice C rows.length cap) ∧ Ow kWay h' C cap rows ∧ Env w2 w' (l ++ [h']) :=
    fun W l E => (FR1 W ((E2.sub 0 rfl).of_below E.low) ((E2.sub 1 rfl).of_below E.low)).mono fun _ _ ⟨C, cap, h', he, ho, u⟩ => ⟨C, cap, h', he, ho, E.new u⟩
  have MA := fun (W : World) (l : List Hp) (E : Env w2 W l) => Rol.moved E sx ((E2.sub 0 rfl).of_below E.low) sy ((E2.sub 1 rfl).of_below E.low) (by omega) (by omega) _ _ rfl rfl (q := rows.foldl addMov 0) (congrArg movSum HF)
  clear HF FR1
  have B0 := Env.start w2
  go_wp2
  go_region_held3 (fun w' => w'.cell? ⟨bx, 0, none⟩ = some (.slice AX xs.length cx) ∧ w'.cell? ⟨by', 0, none⟩ = some (.slice AY ys.length cy))
    (first | go_keep | (exact hkeep))
    (first
      | (go_at_call 17; ((with_reducible refine (FA0 _ _ (by repeat (first | (with_reducible exact B0) | (with_reducible apply Env.drew) | (with_reducible apply Env.drewN) | (with_reducible apply Env.alloc')))).mono ?_)); rintro e w3 ⟨C3, n3, h3, rfl, o3, E3⟩; have hkeep := KX _ E3.low)
      | fail)
  obtain ⟨hk1, hk2⟩ := hkeep
  simp at E3
  go_wp2
  go_region_held3 (fun w' => w'.cell? ⟨bx, 0, none⟩ = some (.slice AX xs.length cx) ∧ w'.cell? ⟨by', 0, none⟩ = some (.slice AY ys.length cy))
    (first | go_keep | (exact hkeep))
    (first
      | (go_at_call 24; ((with_reducible refine (FR0 _ _ (by repeat (first | (with_reducible exact E3) | (with_reducible apply Env.drew) | (with_reducible apply Env.drewN) | (with_reducible apply Env.alloc')))).mono ?_)); rintro e w4 ⟨C4, n4, h4, rfl, o4, E4⟩; have hkeep := KX _ E4.low)
      | fail)
  simp at E4
  go_wp2
  go_loopw [9, 10, 44] (fun s v i wr => ∃ (j m cap : Nat) (G : Option Addr) (g : Hp), j ≤ rows.length ∧ i = .int .i64 j ∧ s = .int .i64 ((rows.take j).foldl addMov 0) ∧ v = .slice G m cap ∧ Hid (((rows.take j).foldl clsStep []).length = m) ∧ m ≤ j ∧ Ow kWay g G cap ((rows.take j).foldl clsStep []) ∧ Env w2 wr [h3, h4, g]) (fun _ _ i _ => rows.length - (intOf i).toNat)
  case atStart => exact ⟨0, 0, 0, none, Hp.none, by omega, rfl, rfl, rfl, rfl, by omega, Ow.none _ _, by simpa using E4.new (Upd.of_below (Below.refl _ _))⟩
  case round =>
    obtain ⟨j, m, cap, G, g, hj, rfl, rfl, rfl, hm, hmj, og, E⟩ := hrel
    by_cases hlt : j < rows.length
    · obtain ⟨x, hxx⟩ := some_of_lt hlt
      obtain ⟨b1, o1, rfl, c1, c2, c3, c4, c5⟩ := o3.sl.way (E.sub 0 rfl) hxx
      obtain ⟨b2, o2, rfl, d1, d2, d3, d4, d5⟩ := o4.sl.way (E.sub 1 rfl) hxx
      have i1 : (0 : Int) ≤ (j : Int) := by omega
      have i2 : (j : Int) < (rows.length : Int) := by omega
      have HTm := Lib.hid (fold_mov hxx)
      have HTc := Lib.hid (cls_next hxx)
      have HE := ne_way x x
      rw [neB_f rfl] at HE
      have HU : Hid (ClsUpto ((rows.take j).foldl clsStep []) x.cls) :=
        cls_upto (rows.take j) (fun z hz => (HG.out z (List.mem_of_mem_take hz)).1) (rising_take HRise.out j) [] 0 (ClsUpto.nil _) (fun z hz => by have := (HG.out z (List.mem_of_mem_take hz)).2.1; omega) x.cls (rising_le HRise.out hxx.out) (by have := (HG.out x (List.mem_of_getElem? hxx.out)).2.1; omega)
      have HW := HG.out x (List.mem_of_getElem? hxx.out)
      generalize (rows.take j).foldl addMov 0 = s at *
      generalize (rows.take j).foldl clsStep [] = L at *
      go_wp2
      obtain ⟨W, hW⟩ : ∃ W : World, W = wr.alloc (.cells #[.int .i64 x.cls, .int .i64 x.yr, .int .i64 x.opn, .int .i64 x.mov, .int .i64 x.clo] 36) := ⟨_, rfl⟩
      have q0 : W.cell? ⟨wr.heap.size, 0, none⟩ = some (.int .i64 x.cls) := by rw [hW]; exact cell_new rfl
      have q1 : W.cell? ⟨wr.heap.size, 1, none⟩ = some (.int .i64 x.yr) := by rw [hW]; exact cell_new rfl
      have q2 : W.cell? ⟨wr.heap.size, 2, none⟩ = some (.int .i64 x.opn) := by rw [hW]; exact cell_new rfl
      have q3 : W.cell? ⟨wr.heap.size, 3, none⟩ = some (.int .i64 x.mov) := by rw [hW]; exact cell_new rfl
      have q4 : W.cell? ⟨wr.heap.size, 4, none⟩ = some (.int .i64 x.clo) := by rw [hW]; exact cell_new rfl
      have BW : Below wr.heap.size wr W := by rw [hW]; exact (Below.refl _ _).alloc (Nat.le_refl _) _
      rw [← hW]
      clear hW
      clear c1 c2 c3 c4 c5
      replace d1 := (BW.cell (World.block_lt_of_cell? _ _ d1)).trans d1
      replace d2 := (BW.cell (World.block_lt_of_cell? _ _ d2)).trans d2
      replace d3 := (BW.cell (World.block_lt_of_cell? _ _ d3)).trans d3
      replace d4 := (BW.cell (World.block_lt_of_cell? _ _ d4)).trans d4
      replace d5 := (BW.cell (World.block_lt_of_cell? _ _ d5)).trans d5
      have EW := E.below BW
      go_quiet (fail)
      clear d1 d2 d3 d4 d5 HE
      rcases List.eq_nil_or_concat L with rfl | ⟨L', gl, rfl⟩
      · obtain rfl : m = 0 := hm.out.symm
        have HS := Lib.hid (clsStep_app HU.out (Int.le_refl _) (fun g hg => by simp at hg) HW.1).1
        go_wp2
        go_quiet (fail)
        go_wp2_with (at_builtin; refine wpList_eapp 2 ⟨x.cls, -1, x.opn, x.mov, x.clo⟩ Try.underlying26 info_row (by repeat (first | (with_reducible exact EW) | (with_reducible apply Env.drew) | (with_reducible apply Env.drewN) | (with_reducible apply Env.alloc'))) (by rfl) og 0 rfl (by rfl) (by rfl) rfl 1 (by rfl) (by rfl) (heap_new_at (by simp)) (by rfl) (by omega) (by omega) ?_; intro G5 n5 w5 g5 og5 E5)
        simp at E5
        go_roundw
        case rel => exact ⟨j + 1, 1, n5, G5, g5, by omega, by go_num, by rw [HTm.out], rfl, by rw [HTc.out, HS.out]; rfl, by omega, by rw [HTc.out, HS.out]; exact og5, E5⟩
        case measure => simp [intOf]; omega
      · simp only [List.concat_eq_append] at *
        obtain ⟨p, rfl⟩ : ∃ p, m = p + 1 := ⟨L'.length, by rw [← hm.out]; simp⟩
        have hp : L'.length = p := by have := hm.out; simp at this; exact this
        have hgl : Hid ((L' ++ [gl])[p]? = some gl) := by unfold Hid; rw [← hp]; simp
        obtain ⟨b3, o3', rfl, e1, e2, e3, e4, e5⟩ := og.sl.way (E.sub 2 rfl) hgl
        have hf := og.cell_free (E.sub 2 rfl) (by simp)
        have hlt3 := World.block_lt_of_cell? wr _ e1
        have hfW : ∀ n, W.frozen? ⟨b3, n, none⟩ = false := fun n => (BW.frozen (p := ⟨b3, n, none⟩) hlt3).trans (hf n)
        replace e1 := (BW.cell (World.block_lt_of_cell? _ _ e1)).trans e1
        replace e2 := (BW.cell (World.block_lt_of_cell? _ _ e2)).trans e2
        replace e3 := (BW.cell (World.block_lt_of_cell? _ _ e3)).trans e3
        replace e4 := (BW.cell (World.block_lt_of_cell? _ _ e4)).trans e4
        replace e5 := (BW.cell (World.block_lt_of_cell? _ _ e5)).trans e5
        have j1 : (0 : Int) ≤ (p : Int) := by omega
        have j2 : (p : Int) < (p : Int) + 1 := by omega
        have j3 : IntKind.i64.wrap ((p : Int) + 1 - 1) = p := by rw [IntKind.wrap_i64]; omega
        by_cases hg : gl.cls = x.cls
        · have HS := Lib.hid (clsStep_last HU.out hg).1
          have t1 : (gl.cls == x.cls) = true := by simpa using hg
          clear hg
          have REL : ∀ V : World, Env w2 V [h3, h4, g] → ∃ (j' m cap' : Nat) (G : Option Addr) (g' : Hp), j' ≤ rows.length ∧ Value.int .i64 ((j : Int) + 1) = .int .i64 j' ∧ Value.int .i64 (wrap64 (s + x.mov)) = .int .i64 ((rows.take j').foldl addMov 0) ∧ Value.slice (some ⟨b3, o3', none⟩) (p + 1) cap = .slice G m cap' ∧ Hid (((rows.take j').foldl clsStep []).length = m) ∧ m ≤ j' ∧ Ow kWay g' G cap' ((rows.take j').foldl clsStep []) ∧
              Env w2 (((V.setCell ⟨b3, o3' + p * 5 + 2, none⟩ (.int .i64 (wrap64 (gl.opn + x.opn)))).setCell ⟨b3, o3' + p * 5 + 3, none⟩ (.int .i64 (wrap64 (gl.mov + x.mov)))).setCell ⟨b3, o3' + p * 5 + 4, none⟩ (.int .i64 (wrap64 (gl.clo + x.clo)))) [h3, h4, g'] := fun V EV => by
            have hlp : p < (L' ++ [gl]).length := by simp; omega
            obtain ⟨k1, ok1, u1⟩ := Ow.set (x' := ⟨gl.cls, gl.yr, wrap64 (gl.opn + x.opn), gl.mov, gl.clo⟩) (v := .int .i64 (wrap64 (gl.opn + x.opn))) (j := 2) og (EV.sub 2 rfl) hgl.out (by decide) rfl
            obtain ⟨k2, ok2, u2⟩ := Ow.set (x' := ⟨gl.cls, gl.yr, wrap64 (gl.opn + x.opn), wrap64 (gl.mov + x.mov), gl.clo⟩) (v := .int .i64 (wrap64 (gl.mov + x.mov))) (j := 3) ok1 u1.sub (List.getElem?_set_self hlp) (by decide) rfl
            obtain ⟨k3, ok3, u3⟩ := Ow.set (x' := addR x gl) (v := .int .i64 (wrap64 (gl.clo + x.clo))) (j := 4) ok2 u2.sub (List.getElem?_set_self (by simpa using hlp)) (by decide) rfl
            rw [List.set_set, List.set_set] at ok3
            have eL : (L' ++ [gl]).set p (addR x gl) = L' ++ [addR x gl] := by rw [← hp]; simp
            rw [eL] at ok3
            refine ⟨j + 1, p + 1, cap, _, k3, by omega, by go_num, by rw [HTm.out], rfl, ?_, by omega, ?_, ?_⟩
            · unfold Hid; rw [HTc.out, HS.out, List.length_append, hp]; rfl
            · rw [HTc.out, HS.out]; exact ok3
            · simpa using EV.upd 2 rfl ((u1.trans u2).trans u3)
          go_wp2
          go_quiet (fail)
          go_wp2
          go_region
          go_wp2
          go_roundw
          case rel => exact REL _ (by repeat (first | (with_reducible exact EW) | (with_reducible apply Env.drew) | (with_reducible apply Env.drewN) | (with_reducible apply Env.alloc')))
          case measure => simp [intOf]; omega
        · have t1 : (gl.cls == x.cls) = false := by simpa using hg
          have HS := Lib.hid (clsStep_app HU.out (Int.le_refl _) (fun g' hg' => by simp at hg'; subst hg'; exact hg) HW.1).1
          clear hg
          go_wp2
          go_quiet (fail)
          go_wp2_with (at_builtin; refine wpList_eapp 2 ⟨x.cls, -1, x.opn, x.mov, x.clo⟩ Try.underlying26 info_row (by repeat (first | (with_reducible exact EW) | (with_reducible apply Env.drew) | (with_reducible apply Env.drewN) | (with_reducible apply Env.alloc'))) (by rfl) og (p+1) hm.out (by rfl) (by rfl) rfl 1 (by rfl) (by rfl) (heap_new_at (by simp)) (by rfl) (by omega) (by omega) ?_; intro G5 n5 w5 g5 og5 E5)
          simp at E5
          go_roundw
          case rel => exact ⟨j + 1, p + 2, n5, G5, g5, by omega, by go_num, by rw [HTm.out], rfl, by rw [HTc.out, HS.out, List.length_append, hm.out]; rfl, by omega, by rw [HTc.out, HS.out]; exact og5, E5⟩
          case measure => simp [intOf]; omega
    · obtain rfl : j = rows.length := by omega
      rw [List.take_length] at hm og ⊢
      have HCl : Hid (Go.Sl.classes rows = rows.foldl clsStep []) := isort_rising_id (cls_upto rows (fun z hz => (HG.out z hz).1) HRise.out [] 0 (ClsUpto.nil _) (fun z hz => by have := (HG.out z hz).2.1; omega) 9 (fun z hz => (HG.out z hz).2.2) (by omega)).rising
      generalize rows.foldl addMov 0 = s at *
      generalize rows.foldl clsStep [] = L at *
      obtain ⟨hk1, hk2⟩ := KX _ E.low
      go_wp2
      go_region_held3 (fun w' => w'.cell? ⟨bx, 0, none⟩ = some (.slice AX xs.length cx) ∧ w'.cell? ⟨by', 0, none⟩ = some (.slice AY ys.length cy))
        (first | go_keep | (exact hkeep))
        (first
          | (go_at_call 19; ((with_reducible refine (MA _ _ (by repeat (first | (with_reducible exact E) | (with_reducible apply Env.drew) | (with_reducible apply Env.drewN) | (with_reducible apply Env.alloc')))).mono ?_)); rintro e w6 ⟨rfl, E6⟩; have hkeep := KX _ E6.low)
          | (go_at_call 22; ((with_reducible refine (Rol.classesN (by repeat (first | (with_reducible exact E6) | (with_reducible apply Env.drew) | (with_reducible apply Env.drewN) | (with_reducible apply Env.alloc'))) o3.sl (E6.sub 0 rfl) (by omega) _ rfl HCl.out _ hm.out).mono ?_)); rintro e w7 ⟨C7, n7, h7, rfl, o7, E7⟩; have hkeep := KX _ E7.low)
          | (go_at_call 23; ((with_reducible refine (Rol.same (by repeat (first | (with_reducible exact E7) | (with_reducible apply Env.drew) | (with_reducible apply Env.drewN) | (with_reducible apply Env.alloc'))) (E7.sub 3 rfl) (E7.sub 2 rfl) o7.sl og.sl _ _ hm.out hm.out rfl).mono ?_)); rintro e w8 ⟨rfl, E8⟩; have hkeep := KX _ E8.low)
          | (go_at_call 20; ((with_reducible refine (wakes11 _).mono ?_)); rintro e w9 ⟨rfl, B9⟩; have hkeep := KX _ (Env.below (by repeat (first | (with_reducible exact E8) | (with_reducible apply Env.drew) | (with_reducible apply Env.drewN) | (with_reducible apply Env.alloc'))) B9).low)
          | fail)
      go_wp2
      go_ret
      exact ⟨rfl, by repeat (first | exact E2.low.trans ((Env.below (by repeat (first | (with_reducible exact E8) | (with_reducible apply Env.drew) | (with_reducible apply Env.drewN) | (with_reducible apply Env.alloc'))) B9).low.mono E2.low.size) | apply Below.drew)⟩
end Go.Proofs.Ythcapomobidnbaa
end
section
/- The walk of law11.RollSums. -/
namespace Go.Sl
open Go Go.RowKit
def addO (s : Int) (r : SWay) : Int := wrap64 (s + r.opn)
def addC (s : Int) (r : SWay) : Int := wrap64 (s + r.clo)
theorem fold_take {f : Int → SWay → Int} {l : List SWay} {j : Nat} {x : SWay} (h : Hid (l[j]? = some x)) : (l.take (j + 1)).foldl f 0 = f ((l.take j).foldl f 0) x := by
  rw [take_next h, List.foldl_append]; rfl
end Go.Sl
namespace Go.Proofs.Ythcapomobidnbaa
open Go.RowKit Go.Sl
set_option maxHeartbeats 4000000
set_option maxRecDepth 100000
theorem rollSums_calls (A B : Option Addr) (ca cb : Nat) (za zb : List Int) (h1 h2 : Hp) (w : World) (hs1 : h1.sub w) (hs2 : h2.sub w) (s1 : Sl kInt h1 A ca za) (s2 : Sl kInt h2 B cb zb) (w1 : ∀ n ∈ za, I64 n) (w2 : ∀ n ∈ zb, I64 n) :
    Calls Try.prog 6 #[.slice A za.length ca, .slice B zb.length cb] w fun e w' => e = .returned (.bool true) ∧ Below w.heap.size w w' := by
  have E0 := Env.start w
  have RX := fun W l (E : Env w W l) => Rol.reg E s1 (hs1.of_below E.low) w1
  have RY := fun W l (E : Env w W l) => Rol.reg E s2 (hs2.of_below E.low) w2
  have gx := regOf_good za
  have gy := regOf_good zb
  generalize regOf za = xs at *
  generalize regOf zb = ys at *
  clear hs1 hs2 s1 s2 w1 w2
  go_enter Try.func6, Try.ntmps6
  go_wp2_with fail
  refine (RX _ _ E0).mono ?_
  rintro e w1 ⟨hx, bx, rfl, px, E1⟩
  try simp at E1
  go_wp2_with fail
  refine (RY _ _ E1).mono ?_
  rintro e w2 ⟨hy, by', rfl, py, E2⟩
  try simp at E2
  clear RX RY
  obtain ⟨AX, cx, kx, sx⟩ := px.reg (E2.sub 0 rfl)
  obtain ⟨AY, cy, ky, sy⟩ := py.reg (E2.sub 1 rfl)
  have lx := gx.len
  have ly := gy.len
  obtain ⟨rows, HR0⟩ : ∃ rows, Hid (rows = refFwd xs ys) := ⟨_, rfl⟩
  obtain ⟨back, HB0⟩ : ∃ back, Hid (back = rows.map swapW) := ⟨_, rfl⟩
  have HFA : fwd xs ys = rows := (fwd_ref gx gy).trans HR0.out.symm
  have HFB : fwd ys xs = back := (fwd_ref gy gx).trans ((refFwd_swap xs ys).trans (by rw [HB0.out, HR0.out]))
  have HL : Hid (back.length = rows.length) := by unfold Hid; rw [HB0.out, List.length_map]
  have lr : rows.length ≤ 24 := by rw [HR0.out]; exact len_ref gx gy
  have FA := fun (W : World) (l : List Hp) (E : Env w2 W l) => Rol.forward E sx ((E2.sub 0 rfl).of_below E.low) sy ((E2.sub 1 rfl).of_below E.low) (by omega) (by omega) _ _ rfl rfl HFA
  have FB := fun (W : World) (l : List Hp) (E : Env w2 W l) => Rol.forward E sy ((E2.sub 1 rfl).of_below E.low) sx ((E2.sub 0 rfl).of_below E.low) (by omega) (by omega) _ _ rfl rfl HFB
  clear HFA HFB
  have B0 := Env.start w2
  go_wp2
  go_region_held3 (fun w' => w'.cell? ⟨bx, 0, none⟩ = some (.slice AX xs.length cx) ∧ w'.cell? ⟨by', 0, none⟩ = some (.slice AY ys.length cy))
    (first | go_keep | (exact hkeep))
    (first
      | (go_at_call 17; ((with_reducible refine (FA _ _ (by repeat (first | exact B0 | apply Env.drew))).mono ?_)); rintro e w3 ⟨C3, n3, h3, rfl, o3, E3⟩; have hkeep := And.intro ((E3.low.cell (p := ⟨bx, 0, none⟩) (World.block_lt_of_cell? w2 _ kx)).trans kx) ((E3.low.cell (p := ⟨by', 0, none⟩) (World.block_lt_of_cell? w2 _ ky)).trans ky))
      | (go_at_call 17; ((with_reducible refine (FB _ _ (by repeat (first | exact E3 | apply Env.drew))).mono ?_)); rintro e w4 ⟨C4, n4, h4, rfl, o4, E4⟩; have hkeep := And.intro ((E4.low.cell (p := ⟨bx, 0, none⟩) (World.block_lt_of_cell? w2 _ kx)).trans kx) ((E4.low.cell (p := ⟨by', 0, none⟩) (World.block_lt_of_cell? w2 _ ky)).trans ky))
      | fail)
  rw [HL.out]
  simp at E4
  have HG : Hid (∀ x ∈ rows, (x.opn ≠ 0 ∨ x.clo ≠ 0) ∧ (-100000000000 ≤ x.opn ∧ x.opn ≤ 100000000000) ∧ (-100000000000 ≤ x.clo ∧ x.clo ≤ 100000000000) ∧ x.mov = x.clo - x.opn) := by
    intro x hx
    rw [HR0.out] at hx
    exact ⟨(row_of hx).1, row_good gx gy hx⟩
  have m3 := o3.small
  go_wp2
  go_loopw [9, 10, 44] (fun so sc i wr => ∃ (j : Nat), j ≤ rows.length ∧ i = .int .i64 j ∧ so = .int .i64 ((rows.take j).foldl addO 0) ∧ sc = .int .i64 ((rows.take j).foldl addC 0) ∧ Env w2 wr [h3, h4]) (fun _ _ i _ => rows.length - (intOf i).toNat)
  case atStart => exact ⟨0, by omega, rfl, rfl, rfl, E4⟩
  case round =>
    obtain ⟨j, hj, rfl, rfl, rfl, E⟩ := hrel
    by_cases hlt : j < rows.length
    · obtain ⟨x, hxx⟩ := some_of_lt hlt
      obtain ⟨hne, ho, hc, hm⟩ := HG.out x (List.mem_of_getElem? hxx.out)
      obtain ⟨b1, o1, rfl, c1, c2, c3, c4, c5⟩ := o3.sl.way (E.sub 0 rfl) hxx
      have hyy : Hid (back[j]? = some ⟨x.cls, x.yr, x.clo, -x.mov, x.opn⟩) := by
        unfold Hid
        rw [HB0.out, List.getElem?_map, hxx.out]
        show some (swapW x) = _
        unfold swapW
        rw [wrap64_small (by omega), hm]; congr 2; omega
      obtain ⟨b2, o2, rfl, d1, d2, d3, d4, d5⟩ := o4.sl.way (E.sub 1 rfl) hyy
      dsimp only at d1 d2 d3 d4 d5
      have i1 : (0 : Int) ≤ (j : Int) := by omega
      have i2 : (j : Int) < (rows.length : Int) := by omega
      have HTo := Lib.hid (fold_take (f := addO) hxx)
      have HTc := Lib.hid (fold_take (f := addC) hxx)
      generalize (rows.take j).foldl addO 0 = so at *
      generalize (rows.take j).foldl addC 0 = sc at *
      have e1 : IntKind.i64.wrap (x.opn + x.mov) = x.clo := by rw [IntKind.wrap_i64]; omega
      have e2 : IntKind.i64.wrap (-x.mov) = -x.mov := by rw [IntKind.wrap_i64]; omega
      clear hm
      go_wp2
      obtain ⟨W, hW⟩ : ∃ W : World, W = wr.alloc (.cells #[.int .i64 x.cls, .int .i64 x.yr, .int .i64 x.opn, .int .i64 x.mov, .int .i64 x.clo] 36) := ⟨_, rfl⟩
      have q0 : W.cell? ⟨wr.heap.size, 0, none⟩ = some (.int .i64 x.cls) := by rw [hW]; exact cell_new rfl
      have q1 : W.cell? ⟨wr.heap.size, 1, none⟩ = some (.int .i64 x.yr) := by rw [hW]; exact cell_new rfl
      have q2 : W.cell? ⟨wr.heap.size, 2, none⟩ = some (.int .i64 x.opn) := by rw [hW]; exact cell_new rfl
      have q3 : W.cell? ⟨wr.heap.size, 3, none⟩ = some (.int .i64 x.mov) := by rw [hW]; exact cell_new rfl
      have q4 : W.cell? ⟨wr.heap.size, 4, none⟩ = some (.int .i64 x.clo) := by rw [hW]; exact cell_new rfl
      have BW : Below wr.heap.size wr W := by rw [hW]; exact (Below.refl _ _).alloc (Nat.le_refl _) _
      rw [← hW]
      clear hW
      have EW := E.below BW
      clear c1 c2 c3 c4 c5 d3 d5
      replace d1 := (BW.cell (World.block_lt_of_cell? _ _ d1)).trans d1
      replace d2 := (BW.cell (World.block_lt_of_cell? _ _ d2)).trans d2
      replace d4 := (BW.cell (World.block_lt_of_cell? _ _ d4)).trans d4
      go_region
      go_wp2
      have ht : ((x.opn == 0) = true ∧ (x.clo == 0) = false) ∨ (x.opn == 0) = false := by
        by_cases h0 : x.opn = 0
        · left; simp [h0] at hne ⊢; exact hne
        · right; simpa using h0
      clear hne
      rcases ht with ⟨t1, t2⟩ | t1
      all_goals
        go_quiet (fail)
        go_wp2
        go_roundw
        case rel => exact ⟨j + 1, by omega, by go_num, by rw [HTo.out]; rfl, by rw [HTc.out]; rfl, (by repeat (first | (with_reducible exact EW) | (with_reducible apply Env.drew) | (with_reducible apply Env.drewN) | (with_reducible apply Env.alloc')))⟩
        case measure => simp [intOf]; omega
    · obtain rfl : j = rows.length := by omega
      rw [List.take_length]
      have HSO : Hid (rows.foldl addO 0 = sumC xs) := by
        have h0 := gx.sum
        have h1 : (rows.map (·.opn)).sum = sumC xs := by rw [HR0.out]; exact sum_opn gx
        exact (fold_sum0 (·.opn) rows (by omega)).trans h1
      have HSC : Hid (rows.foldl addC 0 = sumC ys) := by
        have h0 := gy.sum
        have h1 : (rows.map (·.clo)).sum = sumC ys := by rw [HR0.out]; exact sum_clo gy
        exact (fold_sum0 (·.clo) rows (by omega)).trans h1
      rw [HSO.out, HSC.out]
      have CL := fun (W : World) (l : List Hp) (E : Env w2 W l) (s : h3.sub W) => Rol.classes E o3.sl s (by omega) _ rfl rfl
      have HC : Hid (∀ r ∈ classes rows, Closes r ∧ r.yr = -1) := closes_classes fun r hr => by
        obtain ⟨_, h1, h2, h3⟩ := HG.out r hr
        unfold Closes; rw [h3, wrap64_small (by omega)]; omega
      have HCl : (classes rows).length ≤ 24 := by
        have h1 := cls_len rows []
        have h2 := isort_len (cls_dist rows [] List.Pairwise.nil)
        unfold classes
        simp at h1; omega
      generalize classes rows = cls at *
      go_wp2_with fail
      refine (CL _ _ E (E.sub 0 rfl)).mono ?_
      rintro e w5 ⟨C5, n5, h5, rfl, o5, E5⟩
      simp at E5
      obtain ⟨wo, rfl⟩ : ∃ wo : World, wo = wr := ⟨_, rfl⟩
      have m5 := o5.small
      go_wp2
      go_loopw [110] (fun i wr => ∃ (j : Nat), j ≤ cls.length ∧ i = .int .i64 j ∧ Env w2 wr [h3, h4, h5]) (fun i _ => cls.length - (intOf i).toNat)
      case atStart => exact ⟨0, by omega, rfl, E5⟩
      case round =>
        clear E
        obtain ⟨j, hj, rfl, E⟩ := hrel
        by_cases hlt : j < cls.length
        · obtain ⟨x, hxx⟩ := some_of_lt hlt
          obtain ⟨hcx, hyx⟩ := HC.out x (List.mem_of_getElem? hxx.out)
          obtain ⟨b1, o1, rfl, c1, c2, c3, c4, c5⟩ := o5.sl.way (E.sub 2 rfl) hxx
          have i1 : (0 : Int) ≤ (j : Int) := by omega
          have i2 : (j : Int) < (cls.length : Int) := by omega
          have e1 : wrap64 (x.opn + x.mov) = x.clo := hcx
          rw [hyx] at c2
          clear hyx hcx
          go_wp2
          go_roundw
          case rel => exact ⟨j + 1, by omega, by go_num, (by repeat (first | (with_reducible exact E) | (with_reducible apply Env.drew) | (with_reducible apply Env.drewN) | (with_reducible apply Env.alloc')))⟩
          case measure => simp [intOf]; omega
        · obtain rfl : j = cls.length := by omega
          have KX := fun (W : World) (hW : Below w2.heap.size w2 W) => And.intro ((hW.cell (p := ⟨bx, 0, none⟩) (World.block_lt_of_cell? w2 _ kx)).trans kx) ((hW.cell (p := ⟨by', 0, none⟩) (World.block_lt_of_cell? w2 _ ky)).trans ky)
          have b1 := gx.sum
          have b2 := gy.sum
          have MA := fun (W : World) (l : List Hp) (E : Env w2 W l) => Rol.moved E sx ((E2.sub 0 rfl).of_below E.low) sy ((E2.sub 1 rfl).of_below E.low) (by omega) (by omega) _ _ rfl rfl ((congrArg movSum (fwd_ref gx gy)).trans (movSum_ref gx gy))
          have MX := fun (W : World) (l : List Hp) (E : Env w2 W l) => Rol.moved E sx ((E2.sub 0 rfl).of_below E.low) sx ((E2.sub 0 rfl).of_below E.low) (by omega) (by omega) _ _ rfl rfl (((congrArg movSum (fwd_ref gx gx)).trans (movSum_ref gx gx)).trans (Int.sub_self _))
          have TX := fun (W : World) (l : List Hp) (E : Env w2 W l) => Rol.total E px ((E2.sub 0 rfl).of_below E.low) gx rfl
          have TY := fun (W : World) (l : List Hp) (E : Env w2 W l) => Rol.total E py ((E2.sub 1 rfl).of_below E.low) gy rfl
          have HLX := Lib.hid ((congrArg List.length (fwd_ref gx gx)).trans (len_same gx))
          have FX := fun (W : World) (l : List Hp) (E : Env w2 W l) => Rol.forward E sx ((E2.sub 0 rfl).of_below E.low) sx ((E2.sub 0 rfl).of_below E.low) (by omega) (by omega) _ _ rfl rfl rfl
          rw [HLX.out] at FX
          generalize fwd xs xs = q at *
          clear HSO HSC HG HB0 HR0
          generalize sumC xs = zx at *
          generalize sumC ys = zy at *
          have e1 : IntKind.i64.wrap (zy - zx) = zy - zx := by rw [IntKind.wrap_i64]; omega
          obtain ⟨hk1, hk2⟩ := KX _ E.low
          go_wp2
          go_region_held3 (fun w' => w'.cell? ⟨bx, 0, none⟩ = some (.slice AX xs.length cx) ∧ w'.cell? ⟨by', 0, none⟩ = some (.slice AY ys.length cy))
            (first | go_keep | (exact hkeep))
            (first
              | (go_at_call 25; ((with_reducible refine (TX _ _ (by repeat (first | (with_reducible exact E) | (with_reducible apply Env.drew) | (with_reducible apply Env.drewN) | (with_reducible apply Env.alloc')))).mono ?_)); rintro e w6 ⟨rfl, E6⟩; have hkeep := KX _ E6.low)
              | (go_at_call 25; ((with_reducible refine (TY _ _ (by repeat (first | (with_reducible exact E6) | (with_reducible apply Env.drew) | (with_reducible apply Env.drewN) | (with_reducible apply Env.alloc')))).mono ?_)); rintro e w7 ⟨rfl, E7⟩; have hkeep := KX _ E7.low)
              | (go_at_call 19; ((with_reducible refine (MA _ _ (by repeat (first | (with_reducible exact E7) | (with_reducible apply Env.drew) | (with_reducible apply Env.drewN) | (with_reducible apply Env.alloc')))).mono ?_)); rintro e w8 ⟨rfl, E8⟩; have hkeep := KX _ E8.low)
              | (go_at_call 19; ((with_reducible refine (MX _ _ (by repeat (first | (with_reducible exact E8) | (with_reducible apply Env.drew) | (with_reducible apply Env.drewN) | (with_reducible apply Env.alloc')))).mono ?_)); rintro e w9 ⟨rfl, E9⟩; have hkeep := KX _ E9.low)
              | (go_at_call 17; ((with_reducible refine (FX _ _ (by repeat (first | (with_reducible exact E9) | (with_reducible apply Env.drew) | (with_reducible apply Env.drewN) | (with_reducible apply Env.alloc')))).mono ?_)); rintro e w10 ⟨C10, n10, h10, rfl, o10, E10⟩; have hkeep := KX _ E10.low)
              | (go_at_call 20; ((with_reducible refine (wakes11 _).mono ?_)); rintro e w11 ⟨rfl, B11⟩; have hkeep := KX _ (Env.below (by repeat (first | (with_reducible exact E10) | (with_reducible apply Env.drew) | (with_reducible apply Env.drewN) | (with_reducible apply Env.alloc'))) B11).low)
              | fail)
          go_wp2
          go_ret
          exact ⟨rfl, by repeat (first | exact E2.low.trans ((Env.below (by repeat (first | (with_reducible exact E10) | (with_reducible apply Env.drew) | (with_reducible apply Env.drewN) | (with_reducible apply Env.alloc'))) B11).low.mono E2.low.size) | apply Below.drew)⟩
end Go.Proofs.Ythcapomobidnbaa
end
section
/- The walk of law11.RollClasses. -/
namespace Go.Sl
open Go Go.RowKit
def rowN (zs : List Int) (i : Nat) (y : Int) : SWay := ⟨(i : Int) + 1, y, within (zs.getD i 0) 2001 - 1000, 5, within (zs.getD i 0) 2001 - 1000 + 5⟩
def rowsN (zs : List Int) : Nat → List SWay
  | 0 => []
  | n + 1 => rowsN zs n ++ [rowN zs n n]
def wantN (zs : List Int) : Nat → List SWay
  | 0 => []
  | n + 1 => wantN zs n ++ [rowN zs n (-1)]
def twice (r : SWay) : List SWay := [r, ⟨r.cls, 50, 1, -1, 0⟩]
def upW (r : SWay) : SWay := ⟨r.cls, r.yr, r.opn + 1, r.mov - 1, r.clo⟩
theorem rowsN_len (zs : List Int) : ∀ n, (rowsN zs n).length = n
  | 0 => rfl
  | n + 1 => by simp [rowsN, rowsN_len zs n]
theorem wantN_len (zs : List Int) : ∀ n, (wantN zs n).length = n
  | 0 => rfl
  | n + 1 => by simp [wantN, wantN_len zs n]
theorem rowN_bd (zs : List Int) (i : Nat) (y : Int) : (-1000 ≤ (rowN zs i y).opn ∧ (rowN zs i y).opn ≤ 1000) ∧ (rowN zs i y).mov = 5 ∧ (rowN zs i y).clo = (rowN zs i y).opn + 5 ∧ (rowN zs i y).cls = (i : Int) + 1 ∧ (rowN zs i y).yr = y := by
  have h1 := within_lo (zs.getD i 0) (n := 2001) (by omega)
  have h2 := within_hi (zs.getD i 0) (n := 2001) (by omega)
  refine ⟨⟨?_, ?_⟩, rfl, rfl, rfl, rfl⟩ <;> simp only [rowN] <;> omega
theorem wantN_upto (zs : List Int) : ∀ n, n ≤ 9 → ClsUpto (wantN zs n) n
  | 0, _ => ClsUpto.nil _
  | n + 1, h => by
    have ih := wantN_upto zs n (by omega)
    refine ⟨List.pairwise_append.2 ⟨ih.1, by simp, fun x hx y hy => ?_⟩, fun x hx => ?_⟩
    · simp at hy; subst hy
      have := (ih.2 x hx).1
      show x.cls < (n : Int) + 1; omega
    · rcases List.mem_append.1 hx with hx | hx
      · have := ih.2 x hx; exact ⟨by omega, this.2⟩
      · simp at hx; subst hx; exact ⟨by simp [rowN], rfl⟩
theorem fold_rowsN (zs : List Int) : ∀ n, n ≤ 9 → (rowsN zs n).foldl clsStep [] = wantN zs n
  | 0, _ => rfl
  | n + 1, h => by
    have b := rowN_bd zs n n
    have u := wantN_upto zs n (by omega)
    rw [rowsN, List.foldl_append, fold_rowsN zs n (by omega)]
    show clsStep (wantN zs n) (rowN zs n n) = _
    rw [(clsStep_app u (x := rowN zs n n) (by show (n : Int) ≤ (n : Int) + 1; omega) (fun g hg => by
      have := (u.2 g (List.mem_of_getLast? hg)).1
      show g.cls ≠ (n : Int) + 1; omega) ⟨⟨wrap64_small (by omega), wrap64_small (by omega)⟩, wrap64_small (by omega)⟩).1]
    rfl
theorem wantN_bd (zs : List Int) : ∀ n, n ≤ 9 → ∀ x ∈ wantN zs n, -1000 ≤ x.opn ∧ x.opn ≤ 1000 ∧ 0 ≤ x.mov ∧ x.mov ≤ 10
  | 0, _, x, hx => by simp [wantN] at hx
  | n + 1, h, x, hx => by
    rcases List.mem_append.1 hx with hx | hx
    · exact wantN_bd zs n (by omega) x hx
    · simp at hx; subst hx
      have b := rowN_bd zs n (-1)
      omega
theorem up_upto {G : List SWay} {m : Int} (h : ClsUpto G m) : ClsUpto (G.map upW) m := by
  refine ⟨?_, fun x hx => ?_⟩
  · rw [List.pairwise_map]; exact h.1
  · obtain ⟨y, hy, rfl⟩ := List.mem_map.1 hx; exact h.2 y hy
theorem fold_twice (zs : List Int) : ∀ n, n ≤ 9 → ((rowsN zs n).flatMap twice).foldl clsStep [] = (wantN zs n).map upW
  | 0, _ => rfl
  | n + 1, h => by
    have b := rowN_bd zs n n
    have u := up_upto (wantN_upto zs n (by omega))
    rw [rowsN, List.flatMap_append, List.foldl_append, fold_twice zs n (by omega)]
    have e1 := clsStep_app u (x := rowN zs n n) (by show (n : Int) ≤ (n : Int) + 1; omega) (fun g hg => by
      have := (u.2 g (List.mem_of_getLast? hg)).1
      show g.cls ≠ (n : Int) + 1; omega) ⟨⟨wrap64_small (by omega), wrap64_small (by omega)⟩, wrap64_small (by omega)⟩
    have e2 := e1.2
    rw [e1.1] at e2
    have e3 := (clsStep_last e2 (x := ⟨(n : Int) + 1, 50, 1, -1, 0⟩) rfl).1
    show clsStep (clsStep ((wantN zs n).map upW) (rowN zs n n)) ⟨(n : Int) + 1, 50, 1, -1, 0⟩ = _
    rw [e1.1, e3, wantN, List.map_append]
    congr 1
    show [addR ⟨(n : Int) + 1, 50, 1, -1, 0⟩ ⟨(rowN zs n n).cls, -1, (rowN zs n n).opn, (rowN zs n n).mov, (rowN zs n n).clo⟩] = [upW (rowN zs n (-1))]
    simp only [addR]
    rw [wrap64_small (by omega), wrap64_small (by omega), wrap64_small (by omega)]
    simp only [upW]
    congr 2
    rw [Int.add_zero]; rfl
theorem classes_rowsN (zs : List Int) (n : Nat) (h : n ≤ 9) : classes (rowsN zs n) = wantN zs n := by
  unfold classes; rw [fold_rowsN zs n h]; exact isort_rising_id (wantN_upto zs n h).rising
theorem classes_twice (zs : List Int) (n : Nat) (h : n ≤ 9) : classes ((rowsN zs n).flatMap twice) = (wantN zs n).map upW := by
  unfold classes; rw [fold_twice zs n h]; exact isort_rising_id (up_upto (wantN_upto zs n h)).rising
theorem flat_next {l : List SWay} {j : Nat} {x : SWay} (h : Hid (l[j]? = some x)) : (l.take (j + 1)).flatMap twice = (l.take j).flatMap twice ++ [x, ⟨x.cls, 50, 1, -1, 0⟩] := by
  rw [take_next h, List.flatMap_append]; rfl
theorem flat_len (l : List SWay) : (l.flatMap twice).length = 2 * l.length := by
  induction l with
  | nil => rfl
  | cons x l ih => simp only [List.flatMap_cons, List.length_append, ih, List.length_cons]; simp [twice]; omega
end Go.Sl
namespace Go.Proofs.Ythcapomobidnbaa
open Go.RowKit Go.Sl
set_option maxHeartbeats 4000000
set_option maxRecDepth 100000
theorem rollClasses_calls (A : Option Addr) (ca : Nat) (zs : List Int) (h : Hp) (w : World) (hs : h.sub w) (sx : Sl kInt h A ca zs) (hz : ∀ n ∈ zs, I64 n) :
    Calls Try.prog 4 #[.slice A zs.length ca] w fun e w' => e = .returned (.bool true) ∧ Below w.heap.size w w' := by
  have m1 := sx.small
  have HZ := Lib.hid hz
  clear hz
  go_enter Try.func4, Try.ntmps4
  go_wp2
  go_loopw [3, 4, 5, 6] (fun v u i n0 wr => ∃ (j ca cb : Nat) (C D : Option Addr) (h1 h2 : Hp), j ≤ zs.length ∧ j ≤ 9 ∧ i = .int .i64 j ∧ v = .slice C j ca ∧ u = .slice D j cb ∧ Ow kWay h1 C ca (rowsN zs j) ∧ Ow kWay h2 D cb (wantN zs j) ∧ Env w wr [h1, h2]) (fun _ _ i _ _ => 9 - (intOf i).toNat)
  case atStart => exact ⟨0, 0, 0, none, none, Hp.none, Hp.none, by omega, by omega, rfl, rfl, rfl, Ow.none _ _, Ow.none _ _, ⟨⟨Hp.none_sub _, fun _ _ _ e => absurd rfl e, Hp.none_sub _, fun _ h => (nomatch h), trivial⟩, fun k hk q hq => by simp at hk; subst hk; exact absurd rfl hq, Below.refl _ _⟩⟩
  case round =>
    obtain ⟨j, c1, c2, C, D, h1, h2, hj, hj9, rfl, rfl, rfl, oa, ob, E⟩ := hrel
    have hfin : Hid (j = zs.length ∨ j = 9 → True) := fun _ => trivial
    by_cases hlt : j < zs.length ∧ j < 9
    · obtain ⟨hlt1, hlt2⟩ := hlt
      obtain ⟨z, hzz⟩ := some_of_lt hlt1
      obtain ⟨b1, o1, rfl, d1⟩ := sx.int (hs.of_below E.low) hzz
      have l1 := within_lo z (n := 2001) (by omega)
      have l2 := within_hi z (n := 2001) (by omega)
      have hg : zs.getD j 0 = z := by rw [List.getD_eq_getElem?_getD, hzz.out]; rfl
      have hN1 : Hid (rowsN zs (j + 1) = rowsN zs j ++ [⟨(j : Int) + 1, j, within z 2001 - 1000, 5, within z 2001 - 1000 + 5⟩]) := by unfold Hid; rw [rowsN, rowN, hg]
      have hN2 : Hid (wantN zs (j + 1) = wantN zs j ++ [⟨(j : Int) + 1, -1, within z 2001 - 1000, 5, within z 2001 - 1000 + 5⟩]) := by unfold Hid; rw [wantN, rowN, hg]
      clear hg
      have i1 : (0 : Int) ≤ (j : Int) := by omega
      have i2 : (j : Int) < (zs.length : Int) := by omega
      have i3 : (j : Int) < 9 := by omega
      have L1 := rowsN_len zs j
      have L2 := wantN_len zs j
      generalize rowsN zs j = ra at *
      generalize wantN zs j = rb at *
      have L1 := Lib.hid L1
      have L2 := Lib.hid L2
      go_wp2_with fail
      refine (within_calls _ _ _ (by omega) (by omega)).mono ?_
      rintro e w' ⟨rfl, rfl⟩
      generalize within z 2001 = v at *
      go_wp2_with (first
        | (at_builtin; refine wpList_eapp 0 ⟨(j : Int) + 1, j, v - 1000, 5, v - 1000 + 5⟩ Try.underlying26 info_row (by repeat (first | (with_reducible exact E) | (with_reducible apply Env.drew) | (with_reducible apply Env.drewN) | (with_reducible apply Env.alloc'))) (by rfl) oa j L1.out (by rfl) (by rfl) rfl 1 (by rfl) (by rfl) (heap_new_at (by simp)) (by rfl) (by omega) (by omega) ?_; intro C1 n1 w1 k1 p1 E1)
        | (at_builtin; refine wpList_eapp 1 ⟨(j : Int) + 1, -1, v - 1000, 5, v - 1000 + 5⟩ Try.underlying26 info_row (by repeat (first | (with_reducible exact E1) | (with_reducible apply Env.drew) | (with_reducible apply Env.drewN) | (with_reducible apply Env.alloc'))) (by rfl) ob j L2.out (by rfl) (by rfl) rfl 1 (by rfl) (by rfl) (heap_new_at (by simp)) (by rfl) (by omega) (by omega) ?_; intro C2 n2 w2 k2 p2 E2))
      simp only [List.set_cons_zero, List.set_cons_succ] at E2
      go_roundw
      case rel => exact ⟨j + 1, n1, n2, C1, C2, k1, k2, by omega, by omega, by go_num, rfl, rfl, by rw [hN1.out]; exact p1, by rw [hN2.out]; exact p2, E2⟩
      case measure => simp [intOf]; omega
    · have L1 := Lib.hid (rowsN_len zs j)
      have L2 := Lib.hid (wantN_len zs j)
      have L3 := Lib.hid (flat_len (rowsN zs j))
      have HC := Lib.hid (classes_rowsN zs j hj9)
      have HD := Lib.hid (classes_twice zs j hj9)
      have hx : (zs.length = j ∨ j = 9) := by omega
      have hx2 : ¬ j < zs.length ∨ (j < zs.length ∧ ¬ j < 9) := by omega
      have HB : Hid (∀ x ∈ wantN zs j, -1000 ≤ x.opn ∧ x.opn ≤ 1000 ∧ 0 ≤ x.mov ∧ x.mov ≤ 10) := wantN_bd zs j hj9
      obtain ⟨rm, HM⟩ : ∃ rm, Hid (rm = (wantN zs j).map upW) := ⟨_, rfl⟩
      rw [← HM.out] at HD
      have HMl : Hid (rm.length = j) := by unfold Hid; rw [HM.out, List.length_map]; exact L2.out
      have HT0 : Hid ((rowsN zs j).flatMap twice = (rowsN zs j).flatMap twice) := rfl
      clear hx hlt
      generalize rowsN zs j = ra at *
      generalize wantN zs j = rb at *
      obtain ⟨wo, rfl⟩ : ∃ wo : World, wo = wr := ⟨_, rfl⟩
      have GO : True := trivial
      rcases hx2 with hx2 | ⟨hx2, hx3⟩
      all_goals
        go_wp2_with fail
        refine (Rol.classes E oa.sl (E.sub 0 rfl) (by rw [L1.out]; omega) j L1.out HC.out).mono ?_
        rintro e w1 ⟨C1, n1, k1, rfl, p1, E1⟩
        simp at E1
        rw [L2.out]
        go_wp2
        go_loopw [8, 53] (fun v i wr => ∃ (q m cap : Nat) (G : Option Addr) (g : Hp), q ≤ j ∧ i = .int .i64 q ∧ v = .slice G m cap ∧ Hid (((ra.take q).flatMap twice).length = m) ∧ m ≤ 18 ∧ Ow kWay g G cap ((ra.take q).flatMap twice) ∧ Env w wr [h1, h2, k1, g]) (fun _ i _ => j - (intOf i).toNat)
        case atStart => exact ⟨0, 0, 0, none, Hp.none, by omega, rfl, rfl, rfl, by omega, Ow.none _ _, by simpa using E1.new (Upd.of_below (Below.refl _ _))⟩
        case round =>
          clear E E1
          obtain ⟨q, m, cap, G, g, hq, rfl, rfl, hm, hm18, og, E⟩ := hrel
          by_cases hlt : q < j
          · obtain ⟨x, hxx⟩ := some_of_lt (show q < ra.length by rw [L1.out]; exact hlt)
            obtain ⟨b1, o1, rfl, c1, c2, c3, c4, c5⟩ := oa.sl.way (E.sub 0 rfl) hxx
            have i1 : (0 : Int) ≤ (q : Int) := by omega
            have i2 : (q : Int) < (j : Int) := by omega
            have HT := Lib.hid (flat_next hxx)
            have HL2 : Hid (((ra.take (q + 1)).flatMap twice).length ≤ 18) := by
              unfold Hid; rw [flat_len, List.length_take]; have := L1.out; omega
            have HL3 : Hid (((ra.take (q + 1)).flatMap twice).length = m + 2) := by
              unfold Hid; rw [HT.out, List.length_append, hm.out]; rfl
            have hm2 : m + 2 ≤ 18 := by have := HL2.out; rw [HL3.out] at this; exact this
            clear hx2
            go_wp2_with (at_builtin; refine wpList_eappF 3 Try.underlying26 info_row (ys := [x, ⟨x.cls, 50, 1, -1, 0⟩]) (by repeat (first | (with_reducible exact E) | (with_reducible apply Env.drew) | (with_reducible apply Env.drewN) | (with_reducible apply Env.alloc'))) (by rfl) og (Sl.lit (Hp.one_self (wr.heap.size + 1) _) (by unfold maxLen; simp)) (Hp.one_sub (heap_new_at (by simp))) m 2 hm.out (by rfl) kWay_flat (by rfl) (by rfl) rfl 2 (by rfl) (by rfl) (by omega) (by omega) ?_; intro G2 cap2 w2 g2 og2 E2)
            simp at E2
            go_roundw
            case rel => exact ⟨q + 1, m + 2, cap2, G2, g2, by omega, by go_num, rfl, HL3.out, hm2, by rw [HT.out]; exact og2, E2⟩
            case measure => simp [intOf]; omega
          · obtain rfl : q = j := by omega
            rw [List.take_of_length_le (by rw [L1.out]; omega)] at hm og
            obtain ⟨rt, HRT⟩ : ∃ rt, Hid (rt = ra.flatMap twice) := ⟨_, rfl⟩
            rw [← HRT.out] at hm og HD
            obtain ⟨wp, rfl⟩ : ∃ wp : World, wp = wr := ⟨_, rfl⟩
            go_wp2_with fail
            refine (Rol.classesN E og.sl (E.sub 3 rfl) (by rw [hm.out]; omega) m hm.out HD.out q HMl.out).mono ?_
            rintro e w3 ⟨C3, n3, k3, rfl, p3, E3⟩
            simp at E3
            go_wp2
            go_loopw [74] (fun i wr => ∃ (j : Nat), j ≤ q ∧ i = .int .i64 j ∧ Env w wr [h1, h2, k1, g, k3]) (fun i _ => q - (intOf i).toNat)
            case atStart => exact ⟨0, by omega, rfl, E3⟩
            case round =>
              clear E E3 hx2 hlt
              obtain ⟨j, hj, rfl, E⟩ := hrel
              by_cases hlt : j < q
              · obtain ⟨x, hxx⟩ := some_of_lt (show j < rb.length by rw [L2.out]; exact hlt)
                obtain ⟨bd1, bd2, bd3, bd4⟩ := HB.out x (List.mem_of_getElem? hxx.out)
                obtain ⟨b1, o1, rfl, c1, c2, c3, c4, c5⟩ := ob.sl.way (E.sub 1 rfl) hxx
                have hyy : Hid (rm[j]? = some ⟨x.cls, x.yr, x.opn + 1, x.mov - 1, x.clo⟩) := by
                  unfold Hid; rw [HM.out, List.getElem?_map, hxx.out]; rfl
                obtain ⟨b2, o2, rfl, d1, d2, d3, d4, d5⟩ := p3.sl.way (E.sub 4 rfl) hyy
                dsimp only at d1 d2 d3 d4 d5
                have i1 : (0 : Int) ≤ (j : Int) := by omega
                have i2 : (j : Int) < (q : Int) := by omega
                have HE := ne_row ⟨x.cls, x.yr, x.opn + 1, x.mov - 1, x.clo⟩ ⟨x.cls, x.yr, x.opn + 1, x.mov - 1, x.clo⟩
                rw [neB_f rfl] at HE
                dsimp only at HE
                go_wp2
                obtain ⟨W, hW⟩ : ∃ W : World, W = wr.alloc (.cells #[.int .i64 x.cls, .int .i64 x.yr, .int .i64 (x.opn + 1), .int .i64 (x.mov - 1), .int .i64 x.clo] 36) := ⟨_, rfl⟩
                have q0 : W.cell? ⟨wr.heap.size, 0, none⟩ = some (.int .i64 x.cls) := by rw [hW]; exact cell_new rfl
                have q1 : W.cell? ⟨wr.heap.size, 1, none⟩ = some (.int .i64 x.yr) := by rw [hW]; exact cell_new rfl
                have q2 : W.cell? ⟨wr.heap.size, 2, none⟩ = some (.int .i64 (x.opn + 1)) := by rw [hW]; exact cell_new rfl
                have q3 : W.cell? ⟨wr.heap.size, 3, none⟩ = some (.int .i64 (x.mov - 1)) := by rw [hW]; exact cell_new rfl
                have q4 : W.cell? ⟨wr.heap.size, 4, none⟩ = some (.int .i64 x.clo) := by rw [hW]; exact cell_new rfl
                have BW : Below wr.heap.size wr W := by rw [hW]; exact (Below.refl _ _).alloc (Nat.le_refl _) _
                rw [← hW]
                clear hW
                clear c1 c2 c3 c4 c5
                replace d1 := (BW.cell (World.block_lt_of_cell? _ _ d1)).trans d1
                replace d2 := (BW.cell (World.block_lt_of_cell? _ _ d2)).trans d2
                replace d3 := (BW.cell (World.block_lt_of_cell? _ _ d3)).trans d3
                replace d4 := (BW.cell (World.block_lt_of_cell? _ _ d4)).trans d4
                replace d5 := (BW.cell (World.block_lt_of_cell? _ _ d5)).trans d5
                have EW := E.below BW
                go_quiet (fail)
                go_wp2
                go_roundw
                case rel => exact ⟨j + 1, by omega, by go_num, (by repeat (first | (with_reducible exact EW) | (with_reducible apply Env.drew) | (with_reducible apply Env.drewN) | (with_reducible apply Env.alloc')))⟩
                case measure => simp [intOf]; omega
              · obtain rfl : j = q := by omega
                clear hlt
                have H1 : Hid (Go.Sl.classes [] = []) := rfl
                have H2 : Hid (fwd [] [⟨2, 3, -4⟩] = [⟨2, 3, 0, -4, -4⟩]) := by unfold Hid; simp [fwd, fwdRaw, fC, ups, setC, fM, isort, put, wkey, ordPair, wrap64]
                go_wp2_with fail
                refine (Rol.same E (E.sub 2 rfl) (E.sub 1 rfl) p1.sl ob.sl _ _ L2.out L2.out rfl).mono ?_
                rintro e w5 ⟨rfl, E5⟩
                go_wp2_with fail
                refine (Rol.classes E5 (Sl.none kWay Hp.none) (Hp.none_sub _) (by decide) 0 rfl H1.out).mono ?_
                rintro e w6 ⟨C6, n6, k6, rfl, o6, E6⟩
                go_wp2_with fail
                have E7 := E6.alloc (.cells #[.int .i64 2, .int .i64 3, .int .i64 (-4)] 40)
                simp at E7
                refine (Rol.forward E7 (xs := []) (ys := [⟨2, 3, -4⟩]) (Sl.none kTri Hp.none) (Hp.none_sub _) (Sl.lit (Hp.one_self _ _) (by unfold maxLen; simp)) (E7.sub 6 rfl) (by simp) (by simp) 0 1 rfl rfl H2.out).mono ?_
                rintro e w8 ⟨C8, n8, k8, rfl, o8, E8⟩
                go_wp2_with fail
                refine (wakes11 _).mono ?_
                rintro e w20 ⟨rfl, b20⟩
                go_wp2
                go_ret
                exact ⟨rfl, E8.low.trans (b20.mono E8.low.size)⟩
end Go.Proofs.Ythcapomobidnbaa
end
section
/- The walk of law11.RollChains. -/
namespace Go.Sl
open Go Go.RowKit

end Go.Sl
namespace Go.Proofs.Ythcapomobidnbaa
open Go.RowKit Go.Sl
set_option maxHeartbeats 4000000
set_option maxRecDepth 100000
theorem moved11_calls (A : Option Addr) (ca : Nat) (rows : List SWay) (cl yr : Int) (h : Hp) (w : World) (hs : h.sub w) (sx : Sl kWay h A ca rows) :
    Calls Try.prog 16 #[.slice A rows.length ca, .int .i64 cl, .int .i64 yr] w fun e w' => e = .returned (.int .i64 (mvAt rows cl yr)) ∧ Below w.heap.size w w' := by
  have m1 := sx.small
  go_enter Try.func16, Try.ntmps16
  go_wp2
  go_loopw [11] (fun i wr => ∃ (j : Nat), j ≤ rows.length ∧ i = .int .i64 j ∧ Hid (∀ z ∈ rows.take j, wkey z ≠ (cl, yr)) ∧ Below w.heap.size w wr) (fun i _ => rows.length - (intOf i).toNat)
  case atStart => exact ⟨0, by omega, rfl, by unfold Hid; simp, Below.refl _ _⟩
  case round =>
    obtain ⟨j, hj, rfl, hn, hb⟩ := hrel
    by_cases hlt : j < rows.length
    · obtain ⟨x, hx⟩ := some_of_lt hlt
      obtain ⟨b1, o1, rfl, c1, c2, c3, c4, c5⟩ := sx.way (hs.of_below hb) hx
      have i1 : (0 : Int) ≤ (j : Int) := by omega
      have i2 : (j : Int) < (rows.length : Int) := by omega
      have HN : wkey x ≠ (cl, yr) → Hid (∀ z ∈ rows.take (j + 1), wkey z ≠ (cl, yr)) := fun h z hz => by
        rw [take_next hx] at hz
        rcases List.mem_append.1 hz with hz | hz
        · exact hn.out z hz
        · simp at hz; rw [hz]; exact h
      by_cases ha : x.cls = cl
      · by_cases hbb : x.yr = yr
        · have HF : Hid (mvAt rows cl yr = x.mov) := by
            unfold Hid mvAt; rw [find_hit hn.out hx.out (by simp [wkey, ha, hbb])]
          have t1 : (x.cls == cl) = true := by simpa using ha
          have t2 : (x.yr == yr) = true := by simpa using hbb
          clear ha hbb HN
          go_wp2
          go_ret
          exact ⟨by rw [HF.out]; rfl, hb.alloc hb.size _⟩
        · have HN' := HN (by simp [wkey, hbb])
          have t1 : (x.cls == cl) = true := by simpa using ha
          have t2 : (x.yr == yr) = false := by simpa using hbb
          clear ha hbb HN
          go_wp2
          go_roundw
          case rel => exact ⟨j + 1, by omega, by go_num, HN', hb.alloc hb.size _⟩
          case measure => simp [intOf]; omega
      · have HN' := HN (by simp [wkey, ha])
        have t1 : (x.cls == cl) = false := by simpa using ha
        clear ha HN
        go_wp2
        go_roundw
        case rel => exact ⟨j + 1, by omega, by go_num, HN', hb.alloc hb.size _⟩
        case measure => simp [intOf]; omega
    · have HF : Hid (mvAt rows cl yr = 0) := by
        unfold Hid mvAt; rw [find_miss fun z hz => hn.out z (by rw [List.take_of_length_le (by omega)]; exact hz)]
      go_wp2
      go_ret
      exact ⟨by rw [HF.out]; rfl, hb⟩
theorem Rol.mv {w0 w : World} {l : List Hp} (E : Env w0 w l) {A : Option Addr} {ca : Nat} {xs : List SWay} {h : Hp} (sx : Sl kWay h A ca xs) (hs : h.sub w) (cl yr : Int) (n : Nat) (hn : xs.length = n) {q : Int} (hq : mvAt xs cl yr = q) :
    Calls Try.prog 16 #[.slice A n ca, .int .i64 cl, .int .i64 yr] w fun e w' => e = .returned (.int .i64 q) ∧ Env w0 w' l := by
  subst hn
  subst hq
  exact (moved11_calls A ca xs cl yr h w hs sx).mono fun _ _ ⟨he, b⟩ => ⟨he, E.below b⟩
theorem rollChains_calls (A B D : Option Addr) (ca cb cd : Nat) (za zb zd : List Int) (h1 h2 h3 : Hp) (w : World) (hs1 : h1.sub w) (hs2 : h2.sub w) (hs3 : h3.sub w) (s1 : Sl kInt h1 A ca za) (s2 : Sl kInt h2 B cb zb) (s3 : Sl kInt h3 D cd zd) (w1 : ∀ n ∈ za, I64 n) (w2 : ∀ n ∈ zb, I64 n) (w3 : ∀ n ∈ zd, I64 n) :
    Calls Try.prog 3 #[.slice A za.length ca, .slice B zb.length cb, .slice D zd.length cd] w fun e w' => e = .returned (.bool true) ∧ Below w.heap.size w w' := by
  have E0 := Env.start w
  have RX := fun W l (E : Env w W l) => Rol.reg E s1 (hs1.of_below E.low) w1
  have RY := fun W l (E : Env w W l) => Rol.reg E s2 (hs2.of_below E.low) w2
  have RZ := fun W l (E : Env w W l) => Rol.reg E s3 (hs3.of_below E.low) w3
  have gx := regOf_good za
  have gy := regOf_good zb
  have gz := regOf_good zd
  generalize regOf za = xs at *
  generalize regOf zb = ys at *
  generalize regOf zd = zs at *
  clear hs1 hs2 hs3 s1 s2 s3 w1 w2 w3
  go_enter Try.func3, Try.ntmps3
  go_wp2_with fail
  refine (RX _ _ E0).mono ?_
  rintro e w1 ⟨hx, bx, rfl, px, E1⟩
  try simp at E1
  go_wp2_with fail
  refine (RY _ _ E1).mono ?_
  rintro e w2 ⟨hy, by', rfl, py, E2⟩
  try simp at E2
  go_wp2_with fail
  refine (RZ _ _ E2).mono ?_
  rintro e w3 ⟨hz, bz, rfl, pz, E3⟩
  try simp at E3
  clear RX RY RZ
  obtain ⟨AX, cx, kx, sx⟩ := px.reg (E3.sub 0 rfl)
  obtain ⟨AY, cy, ky, sy⟩ := py.reg (E3.sub 1 rfl)
  obtain ⟨AZ, cz, kz, sz⟩ := pz.reg (E3.sub 2 rfl)
  have lx := gx.len
  have ly := gy.len
  have lz := gz.len
  obtain ⟨r1, q1⟩ : ∃ r, Hid (r = refFwd xs ys) := ⟨_, rfl⟩
  obtain ⟨r2, q2⟩ : ∃ r, Hid (r = refFwd ys zs) := ⟨_, rfl⟩
  obtain ⟨r3, q3⟩ : ∃ r, Hid (r = refFwd xs zs) := ⟨_, rfl⟩
  have f1 : fwd xs ys = r1 := (fwd_ref gx gy).trans q1.out.symm
  have f2 : fwd ys zs = r2 := (fwd_ref gy gz).trans q2.out.symm
  have f3 : fwd xs zs = r3 := (fwd_ref gx gz).trans q3.out.symm
  have FA := fun (W : World) (l : List Hp) (E : Env w3 W l) => Rol.forward E sx ((E3.sub 0 rfl).of_below E.low) sy ((E3.sub 1 rfl).of_below E.low) (by omega) (by omega) _ _ rfl rfl f1
  have FB := fun (W : World) (l : List Hp) (E : Env w3 W l) => Rol.forward E sy ((E3.sub 1 rfl).of_below E.low) sz ((E3.sub 2 rfl).of_below E.low) (by omega) (by omega) _ _ rfl rfl f2
  have FC := fun (W : World) (l : List Hp) (E : Env w3 W l) => Rol.forward E sx ((E3.sub 0 rfl).of_below E.low) sz ((E3.sub 2 rfl).of_below E.low) (by omega) (by omega) _ _ rfl rfl f3
  have hm1 : movSum (fwd xs ys) = sumC ys - sumC xs := by rw [f1, q1.out]; exact movSum_ref gx gy
  have hm2 : movSum (fwd ys zs) = sumC zs - sumC ys := by rw [f2, q2.out]; exact movSum_ref gy gz
  have hm3 : movSum (fwd xs zs) = sumC zs - sumC xs := by rw [f3, q3.out]; exact movSum_ref gx gz
  obtain ⟨n1, p1⟩ : ∃ n, Hid (n = sumC ys - sumC xs) := ⟨_, rfl⟩
  obtain ⟨n2, p2⟩ : ∃ n, Hid (n = sumC zs - sumC ys) := ⟨_, rfl⟩
  obtain ⟨n3, p3⟩ : ∃ n, Hid (n = sumC zs - sumC xs) := ⟨_, rfl⟩
  have MA := fun (W : World) (l : List Hp) (E : Env w3 W l) => Rol.moved E sx ((E3.sub 0 rfl).of_below E.low) sy ((E3.sub 1 rfl).of_below E.low) (by omega) (by omega) _ _ rfl rfl (hm1.trans p1.out.symm)
  have MB := fun (W : World) (l : List Hp) (E : Env w3 W l) => Rol.moved E sy ((E3.sub 1 rfl).of_below E.low) sz ((E3.sub 2 rfl).of_below E.low) (by omega) (by omega) _ _ rfl rfl (hm2.trans p2.out.symm)
  have MC := fun (W : World) (l : List Hp) (E : Env w3 W l) => Rol.moved E sx ((E3.sub 0 rfl).of_below E.low) sz ((E3.sub 2 rfl).of_below E.low) (by omega) (by omega) _ _ rfl rfl (hm3.trans p3.out.symm)
  have e1 : Hid (IntKind.i64.wrap (n1 + n2) = n3) := by
    have a := gx.sum
    have b := gy.sum
    have c := gz.sum
    have := p1.out
    have := p2.out
    have := p3.out
    unfold Hid; rw [IntKind.wrap_i64]; omega
  have KX := fun (W : World) (hW : Below w3.heap.size w3 W) => And.intro ((hW.cell (p := ⟨bx, 0, none⟩) (World.block_lt_of_cell? w3 _ kx)).trans kx) (And.intro ((hW.cell (p := ⟨by', 0, none⟩) (World.block_lt_of_cell? w3 _ ky)).trans ky) ((hW.cell (p := ⟨bz, 0, none⟩) (World.block_lt_of_cell? w3 _ kz)).trans kz))
  have GZ := fun (W : World) (l : List Hp) (E : Env w3 W l) (c y : Int) => Rol.get E pz ((E3.sub 2 rfl).of_below E.low) c y rfl
  have GX := fun (W : World) (l : List Hp) (E : Env w3 W l) (c y : Int) => Rol.get E px ((E3.sub 0 rfl).of_below E.low) c y rfl
  have HV : Hid (∀ (m y : Nat), m < 3 → y < 5 → mvAt r1 ((m : Int) + 1) y = getB ys ((m : Int) + 1) y - getB xs ((m : Int) + 1) y ∧ mvAt r2 ((m : Int) + 1) y = getB zs ((m : Int) + 1) y - getB ys ((m : Int) + 1) y ∧ mvAt r3 ((m : Int) + 1) y = getB zs ((m : Int) + 1) y - getB xs ((m : Int) + 1) y) := fun m y hm hy => by
    rw [q1.out, q2.out, q3.out]
    exact ⟨mvAt_ref gx gy _ _ (by omega), mvAt_ref gy gz _ _ (by omega), mvAt_ref gx gz _ _ (by omega)⟩
  clear f1 f2 f3 hm1 hm2 hm3
  have l1 : r1.length ≤ 24 := by rw [q1.out]; exact len_ref gx gy
  have l2 : r2.length ≤ 24 := by rw [q2.out]; exact len_ref gy gz
  have l3 : r3.length ≤ 24 := by rw [q3.out]; exact len_ref gx gz
  clear q1 q2 q3
  have B0 := Env.start w3
  go_wp2
  go_loopw [10, 11, 12, 13, 14] (fun c y0 a0 b0 d0 wr => ∃ (m : Nat) (l : List Hp), m ≤ 3 ∧ c = .int .i64 (m + 1) ∧ Env w3 wr l) (fun c _ _ _ _ _ => 4 - (intOf c).toNat)
  case atStart => exact ⟨0, [], by omega, rfl, B0⟩
  case round =>
    clear B0
    obtain ⟨m, l, hm, rfl, E⟩ := hrel
    by_cases hlt : m < 3
    · have i1 : (0 : Int) ≤ (m : Int) := by omega
      have i2 : (m : Int) < 3 := by omega
      have hdm : decide ((m : Int) + 1 ≤ 3) = true := by simp; omega
      obtain ⟨wo, rfl⟩ : ∃ wo : World, wo = wr := ⟨_, rfl⟩
      go_wp2
      go_loopw [11, 12, 13, 14] (fun yv a0 b0 d0 wr => ∃ (y : Nat) (l : List Hp), y ≤ 5 ∧ yv = .int .i64 y ∧ Env w3 wr l) (fun yv _ _ _ _ => 5 - (intOf yv).toNat)
      case atStart => exact ⟨0, l, by omega, rfl, E⟩
      case round =>
        clear E
        obtain ⟨y, l, hy, rfl, E⟩ := hrel
        by_cases hlt2 : y < 5
        · have i3 : (0 : Int) ≤ (y : Int) := by omega
          have i4 : (y : Int) < 5 := by omega
          obtain ⟨v1, v2, v3⟩ := HV.out m y hlt hlt2
          have b1 := gx.get ((m : Int) + 1) y
          have b2 := gy.get ((m : Int) + 1) y
          have b3 := gz.get ((m : Int) + 1) y
          have GZ' := fun (W : World) (l : List Hp) (E : Env w3 W l) => GZ W l E ((m : Int) + 1) y
          have GX' := fun (W : World) (l : List Hp) (E : Env w3 W l) => GX W l E ((m : Int) + 1) y
          obtain ⟨k1, k2, k3⟩ := KX _ E.low
          generalize getB xs ((m : Int) + 1) y = a at *
          generalize getB ys ((m : Int) + 1) y = b at *
          generalize getB zs ((m : Int) + 1) y = c at *
          obtain ⟨g1, G1⟩ : ∃ g, g = b - a := ⟨_, rfl⟩
          obtain ⟨g2, G2⟩ : ∃ g, g = c - b := ⟨_, rfl⟩
          obtain ⟨g3, G3⟩ : ∃ g, g = c - a := ⟨_, rfl⟩
          rw [← G1] at v1
          rw [← G2] at v2
          rw [← G3] at v3
          have t1 : (g1 + g2 != g3) = false := by simp; omega
          have t2 : (g3 != c - a) = false := by simp; omega
          have y1 : -1000000000000 ≤ g1 ∧ g1 ≤ 1000000000000 := by omega
          have y2 : -1000000000000 ≤ g2 ∧ g2 ≤ 1000000000000 := by omega
          obtain ⟨y11, y12⟩ := y1
          obtain ⟨y21, y22⟩ := y2
          obtain ⟨z11, z12⟩ := b1
          obtain ⟨z21, z22⟩ := b3
          clear G1 G2 G3 b2
          have V1 := Lib.hid v1
          have V2 := Lib.hid v2
          have V3 := Lib.hid v3
          clear v1 v2 v3
          go_wp2
          go_region_held3 (fun w' => w'.cell? ⟨bx, 0, none⟩ = some (.slice AX xs.length cx) ∧ w'.cell? ⟨by', 0, none⟩ = some (.slice AY ys.length cy) ∧ w'.cell? ⟨bz, 0, none⟩ = some (.slice AZ zs.length cz))
            (first | go_keep | (exact hkeep))
            (first
              | (go_at_call 17; ((with_reducible refine (FA _ _ (by repeat (first | (with_reducible exact E) | (with_reducible apply Env.drew) | (with_reducible apply Env.drewN) | (with_reducible apply Env.alloc')))).mono ?_)); rintro e w4 ⟨C4, n4, h4, rfl, o4, E4⟩; have hkeep := KX _ E4.low)
              | (go_at_call 16; ((with_reducible refine (Rol.mv (by repeat (first | (with_reducible exact E4) | (with_reducible apply Env.drew) | (with_reducible apply Env.drewN) | (with_reducible apply Env.alloc'))) o4.sl (E4.at_mem (by simp)) _ _ _ rfl V1.out).mono ?_)); rintro e w5 ⟨rfl, E5⟩; have hkeep := KX _ E5.low)
              | (go_at_call 17; ((with_reducible refine (FB _ _ (by repeat (first | (with_reducible exact E5) | (with_reducible apply Env.drew) | (with_reducible apply Env.drewN) | (with_reducible apply Env.alloc')))).mono ?_)); rintro e w6 ⟨C6, n6, h6, rfl, o6, E6⟩; have hkeep := KX _ E6.low)
              | (go_at_call 16; ((with_reducible refine (Rol.mv (by repeat (first | (with_reducible exact E6) | (with_reducible apply Env.drew) | (with_reducible apply Env.drewN) | (with_reducible apply Env.alloc'))) o6.sl (E6.at_mem (by simp)) _ _ _ rfl V2.out).mono ?_)); rintro e w7 ⟨rfl, E7⟩; have hkeep := KX _ E7.low)
              | (go_at_call 17; ((with_reducible refine (FC _ _ (by repeat (first | (with_reducible exact E7) | (with_reducible apply Env.drew) | (with_reducible apply Env.drewN) | (with_reducible apply Env.alloc')))).mono ?_)); rintro e w8 ⟨C8, n8, h8, rfl, o8, E8⟩; have hkeep := KX _ E8.low)
              | (go_at_call 16; ((with_reducible refine (Rol.mv (by repeat (first | (with_reducible exact E8) | (with_reducible apply Env.drew) | (with_reducible apply Env.drewN) | (with_reducible apply Env.alloc'))) o8.sl (E8.at_mem (by simp)) _ _ _ rfl V3.out).mono ?_)); rintro e w9 ⟨rfl, E9⟩; have hkeep := KX _ E9.low)
              | fail)
          go_wp2_with fail
          refine (GZ' _ _ (by repeat (first | (with_reducible exact E9) | (with_reducible apply Env.drew) | (with_reducible apply Env.drewN) | (with_reducible apply Env.alloc')))).mono ?_
          rintro e w10 ⟨rfl, E10⟩
          go_wp2_with fail
          refine (GX' _ _ E10).mono ?_
          rintro e w11 ⟨rfl, E11⟩
          go_wp2
          go_roundw
          case rel => exact ⟨y + 1, _, by omega, by go_num, E11⟩
          case measure => simp [intOf]; omega
        · obtain rfl : y = 5 := by omega
          go_wp2
          go_roundw
          case rel => exact ⟨m + 1, l, by omega, by go_num, E⟩
          case measure => simp [intOf]; omega
    · obtain rfl : m = 3 := by omega
      have e2 := e1.out
      obtain ⟨k1, k2, k3⟩ := KX _ E.low
      go_wp2
      go_region_held3 (fun w' => w'.cell? ⟨bx, 0, none⟩ = some (.slice AX xs.length cx) ∧ w'.cell? ⟨by', 0, none⟩ = some (.slice AY ys.length cy) ∧ w'.cell? ⟨bz, 0, none⟩ = some (.slice AZ zs.length cz))
        (first | go_keep | (exact hkeep))
        (first
          | (go_at_call 19; ((with_reducible refine (MA _ _ (by repeat (first | (with_reducible exact E) | (with_reducible apply Env.drew) | (with_reducible apply Env.drewN) | (with_reducible apply Env.alloc')))).mono ?_)); rintro e w4 ⟨rfl, E4⟩; have hkeep := KX _ E4.low)
          | (go_at_call 19; ((with_reducible refine (MB _ _ (by repeat (first | (with_reducible exact E4) | (with_reducible apply Env.drew) | (with_reducible apply Env.drewN) | (with_reducible apply Env.alloc')))).mono ?_)); rintro e w5 ⟨rfl, E5⟩; have hkeep := KX _ E5.low)
          | (go_at_call 19; ((with_reducible refine (MC _ _ (by repeat (first | (with_reducible exact E5) | (with_reducible apply Env.drew) | (with_reducible apply Env.drewN) | (with_reducible apply Env.alloc')))).mono ?_)); rintro e w6 ⟨rfl, E6⟩; have hkeep := KX _ E6.low)
          | (go_at_call 20; ((with_reducible refine (wakes11 _).mono ?_)); rintro e w7 ⟨rfl, B7⟩; have hkeep := KX _ (Env.below (by repeat (first | (with_reducible exact E6) | (with_reducible apply Env.drew) | (with_reducible apply Env.drewN) | (with_reducible apply Env.alloc'))) B7).low)
          | fail)
      go_wp2
      go_ret
      exact ⟨rfl, by repeat (first | exact E3.low.trans ((Env.below (by repeat (first | (with_reducible exact E6) | (with_reducible apply Env.drew) | (with_reducible apply Env.drewN) | (with_reducible apply Env.alloc'))) B7).low.mono E3.low.size) | apply Below.drew)⟩
end Go.Proofs.Ythcapomobidnbaa
end
