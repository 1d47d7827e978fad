/- Walks and plain facts that the laws of this seat share, part 6: contracts of functions, each said at its theorem. -/
import Derived.Test.YtdcfojohgcmpcaaPk5
import Derived.Deep.RegionHeld3
section
/- keep.Same over api.Bucket: the same things? -/
namespace Go.Proofs.Ytdcfojohgcmpcaa
open Go.RowKit Go.Sl
set_option maxHeartbeats 1000000
set_option maxRecDepth 100000
theorem same_bucket (A B : Option Addr) (ca cb : Nat) (xs ys : List STri) (h k : Hp) (w : World) (hs : h.sub w) (ks : k.sub w) (sx : Sl kTri h A ca xs) (sy : Sl kTri k B cb ys) :
    Calls Try.prog 38 #[.slice A xs.length ca, .slice B ys.length cb] w fun e w' => e = .returned (.bool (eqB xs ys)) ∧ Below w.heap.size w w' := by
  have m1 := sx.small
  have m2 := sy.small
  by_cases hl : xs.length = ys.length
  · have hl1 : ((xs.length : Int) == (ys.length : Int)) = true := by simp [hl]
    have hl2 : ((xs.length : Int) != (ys.length : Int)) = false := by simp [hl]
    have hL := Lib.hid hl
    clear hl
    go_enter Try.func38, Try.ntmps38
    go_wp2
    clear hl1 hl2
    go_loopw [5] (fun i wr => ∃ j : Nat, j ≤ xs.length ∧ i = .int .i64 j ∧ Hid (xs.take j = ys.take j) ∧ Below w.heap.size w wr) (fun i _ => xs.length - (intOf i).toNat)
    case atStart => exact ⟨0, by omega, rfl, rfl, Below.refl _ _⟩
    case round =>
      obtain ⟨j, hj, rfl, he, hb⟩ := hrel
      by_cases hlt : j < xs.length
      · have hlt2 : j < ys.length := by have := hL.out; omega
        obtain ⟨x, hx⟩ := some_of_lt hlt
        obtain ⟨y, hy⟩ := some_of_lt hlt2
        obtain ⟨b1, o1, rfl, c1, c2, c3⟩ := sx.tri (hs.of_below hb) hx
        obtain ⟨b2, o2, rfl, d1, d2, d3⟩ := sy.tri (ks.of_below hb) hy
        have hn := ne_bucket x y
        have i1 : (0 : Int) ≤ (j : Int) := by omega
        have i2 : (j : Int) < (xs.length : Int) := by omega
        have i3 : (j : Int) < (ys.length : Int) := by omega
        have hE := take_both hx hy
        by_cases hxy : x = y
        · have hd := neB_f hxy
          have hE2 := hE.2 ⟨he, hxy⟩
          clear hxy hE
          go_wp2
          go_region_held3 (fun w' => w'.cell? ⟨b1, o1 + j * 3, none⟩ = some (.int .i64 x.a) ∧ w'.cell? ⟨b1, o1 + j * 3 + 1, none⟩ = some (.int .i64 x.b) ∧ w'.cell? ⟨b1, o1 + j * 3 + 2, none⟩ = some (.int .i64 x.c) ∧ w'.cell? ⟨b2, o2 + j * 3, none⟩ = some (.int .i64 y.a) ∧ w'.cell? ⟨b2, o2 + j * 3 + 1, none⟩ = some (.int .i64 y.b) ∧ w'.cell? ⟨b2, o2 + j * 3 + 2, none⟩ = some (.int .i64 y.c)) (go_keep) (fail)
          go_wp2
          go_roundw
          case rel => exact ⟨j + 1, by omega, by go_num, hE2, hb.drew⟩
          case measure => simp [intOf]; omega
        · have hd := neB_t hxy
          have hne : Hid (xs ≠ ys) := fun e => hxy (by have := hx.out; rw [e, hy.out] at this; exact (Option.some.inj this).symm)
          clear hxy hE
          go_wp2
          go_region_held3 (fun w' => w'.cell? ⟨b1, o1 + j * 3, none⟩ = some (.int .i64 x.a) ∧ w'.cell? ⟨b1, o1 + j * 3 + 1, none⟩ = some (.int .i64 x.b) ∧ w'.cell? ⟨b1, o1 + j * 3 + 2, none⟩ = some (.int .i64 x.c) ∧ w'.cell? ⟨b2, o2 + j * 3, none⟩ = some (.int .i64 y.a) ∧ w'.cell? ⟨b2, o2 + j * 3 + 1, none⟩ = some (.int .i64 y.b) ∧ w'.cell? ⟨b2, o2 + j * 3 + 2, none⟩ = some (.int .i64 y.c)) (go_keep) (fail)
          go_wp2
          go_ret
          exact ⟨by rw [eqB_f hne.out]; rfl, hb.drew⟩
      · have hfin : Hid (xs = ys) := by
          have h1 := he.out
          have hjl : j = xs.length := by omega
          rw [hjl, List.take_length] at h1
          rw [h1, hL.out, List.take_length]; rfl
        go_wp2
        go_ret
        exact ⟨by rw [eqB_t hfin.out]; rfl, hb⟩
  · have hl1 : ((xs.length : Int) == (ys.length : Int)) = false := by simp; omega
    have hl2 : ((xs.length : Int) != (ys.length : Int)) = true := by simp; omega
    have hne : Hid (xs ≠ ys) := fun e => hl (by rw [e])
    clear hl
    go_enter Try.func38, Try.ntmps38
    go_wp2
    go_ret
    exact ⟨by rw [eqB_f hne.out]; rfl, Below.refl _ _⟩
end Go.Proofs.Ytdcfojohgcmpcaa
end
section
/- The walk of the reference's register: set. -/
namespace Go.Sl
theorem setGo_skip {x y : STri} {d : Bool} {l : List STri} (h : rkey y = rkey x) : setGo ordPair rkey x d (y :: l) = setGo ordPair rkey x d l := by simp [setGo, h]
theorem setGo_keep {x y : STri} {d : Bool} {l : List STri} (h : rkey y ≠ rkey x) (h2 : d = true ∨ ordPair.lt (rkey x) (rkey y) = false) : setGo ordPair rkey x d (y :: l) = y :: setGo ordPair rkey x d l := by
  rw [setGo, if_neg h, if_neg]; rintro ⟨a, b⟩; rcases h2 with h2 | h2 <;> simp_all
theorem setGo_lay {x y : STri} {l : List STri} (h : ordPair.lt (rkey x) (rkey y) = true) : setGo ordPair rkey x false (y :: l) = x :: y :: setGo ordPair rkey x true l := by
  rw [setGo, if_neg (ordPair.ne h).symm, if_pos ⟨rfl, h⟩]
theorem app2 {α : Type} (l : List α) (x y : α) (r : List α) : l ++ x :: y :: r = (l ++ [x] ++ [y]) ++ r := by simp
theorem app1 {α : Type} (l : List α) (x : α) (r : List α) : l ++ x :: r = (l ++ [x]) ++ r := by simp
end Go.Sl
namespace Go.Proofs.Ytdcfojohgcmpcaa
open Go.RowKit Go.Sl
set_option maxHeartbeats 2000000
set_option maxRecDepth 100000
theorem refSet_calls (b : Nat) (l : List STri) (c y n : Int) (h : Hp) (w : World) (hs : h.sub w) (hp : Pt kReg 87 h b l) (hl : l.length ≤ 1000) (hr : RisingR l) :
    Calls Try.prog 95 #[.pointer (some ⟨b, 0, none⟩), .int .i64 c, .int .i64 y, .int .i64 n] w fun e w' => ∃ h', e = .returned (.tuple #[]) ∧ Pt kReg 87 h' b (setB l c y n) ∧ Upd h h' w w' := by
  obtain ⟨cs, hb, A, ca, rfl, ow⟩ := hp
  have hbw := hs b _ hb
  have hlt := hs.lt (b := b) (by simp [hb])
  have hc : w.cell? ⟨b, 0, none⟩ = some (.slice A l.length ca) := by rw [cell_of_row w b 0 _ _ _ hbw]; rfl
  have hf : w.frozen? ⟨b, 0, none⟩ = false := frozen_of_row w b 0 _ _ hbw
  have sx := ow.sl
  have hd := hs.del b
  have m1 := sx.small
  obtain ⟨G, hG⟩ : ∃ G : Bool → List STri → List STri, G = setGo ordPair rkey ⟨c, y, n⟩ := ⟨_, rfl⟩
  have HG : Hid (setB l c y n = G (decide (n = 0)) l) := by unfold Hid; rw [hG, setGo_setB hr]
  have HE : ∀ d : Bool, Hid (G d [] = if d = true then [] else [⟨c, y, n⟩]) := fun d => by rw [hG]; exact rfl
  have GS : ∀ {x : STri} {d : Bool} {r : List STri}, x.a = c → x.b = y → G d (x :: r) = G d r := fun h1 h2 => by rw [hG]; exact setGo_skip (by simp [rkey, h1, h2])
  have GK : ∀ {x : STri} {d : Bool} {r : List STri}, ¬(x.a = c ∧ x.b = y) → (d = true ∨ ¬(c < x.a ∨ c = x.a ∧ y < x.b)) → G d (x :: r) = x :: G d r := fun h1 h2 => by
    rw [hG]; exact setGo_keep (by simpa [rkey] using h1) (h2.imp id fun h => by simpa [ordPair, rkey] using h)
  have GL : ∀ {x : STri} {r : List STri}, (c < x.a ∨ c = x.a ∧ y < x.b) → G false (x :: r) = ⟨c, y, n⟩ :: x :: G true r := fun h => by rw [hG]; exact setGo_lay (by simpa [ordPair, rkey] using h)
  have GLen : ∀ (d : Bool) (r : List STri), (G d r).length ≤ r.length + 1 := fun d r => by
    rw [hG]; clear hG HG HE GS GK GL
    induction r generalizing d with
    | nil => cases d <;> simp [setGo]
    | cons z r ih =>
      unfold setGo
      have i1 := ih d
      have i2 := ih true
      split
      · simp; omega
      · split
        · have : (setGo ordPair rkey ⟨c, y, n⟩ true r).length ≤ r.length := by rw [setGo_true]; exact del_le _ _
          simp; omega
        · simp; omega
  clear hG
  have hn0 : (n == 0) = decide (n = 0) := by rw [Bool.eq_iff_iff]; simp
  go_enter Try.func95, Try.ntmps95
  go_wp2
  rw [hn0] at *
  generalize decide (n = 0) = d0 at *
  go_loopw [8, 9, 19] (fun v d i wr => ∃ (j cap m : Nat) (dn : Bool) (C : Option Addr) (h' : Hp) (os : List STri), j ≤ l.length ∧ i = .int .i64 j ∧ d = .bool dn ∧ v = .slice C m cap ∧ Hid (os.length = m) ∧ Hid (G d0 l = os ++ G dn (l.drop j)) ∧ m ≤ 2 * j ∧ Ow kTri h' C cap os ∧ Upd Hp.none h' w wr) (fun _ _ i _ => l.length - (intOf i).toNat)
  case atStart => exact ⟨0, 0, 0, d0, none, Hp.none, [], by omega, rfl, rfl, rfl, rfl, by unfold Hid; simp, by omega, Ow.none _ _, Upd.of_below (Below.refl _ _)⟩
  case round =>
    obtain ⟨j, cap, m, dn, C, h', os, hj, rfl, rfl, rfl, hm, hg, hm2, ho, hu⟩ := hrel
    by_cases hlt2 : j < l.length
    · obtain ⟨x, hx⟩ := some_of_lt hlt2
      obtain ⟨b1, o1, rfl, c1, c2, c3⟩ := sx.tri (hd.of_below hu.below) hx
      have i1 : (0 : Int) ≤ (j : Int) := by omega
      have i2 : (j : Int) < (l.length : Int) := by omega
      have HD : Hid (G d0 l = os ++ G dn (x :: l.drop (j + 1))) := by unfold Hid; rw [hg.out, drop_next hx]
      clear hg
      by_cases hk : x.a = c ∧ x.b = y
      · have HN := Lib.hid (HD.out.trans (by rw [GS hk.1 hk.2]))
        have t1 : (x.a == c) = true := by simpa using hk.1
        have t2 : (x.b == y) = true := by simpa using hk.2
        clear hk GS GK GL HD HE GLen
        go_wp2
        go_roundw
        case rel => exact ⟨j + 1, cap, m, dn, C, h', os, by omega, by go_num, rfl, rfl, hm, HN, by omega, ho, hu.after (by repeat (first | exact Below.refl _ _ | apply Below.drew | refine Below.alloc ?_ (by simp) _))⟩
        case measure => simp [intOf]; omega
      · cases dn with
        | true =>
          by_cases ha : x.a = c
          · have hbb : x.b ≠ y := fun e => hk ⟨ha, e⟩
            have t1 : (x.a == c) = true := by simpa using ha
            have t2 : (x.b == y) = false := by simpa using hbb
            have HN : Hid (G d0 l = (os ++ [x]) ++ G true (l.drop (j + 1))) := by unfold Hid; rw [HD.out, GK hk (.inl rfl), app1]
            clear ha hbb
            clear hk GS GK GL HD HE GLen
            go_wp2_with (at_builtin; refine wpList_app1f (h := h') (xs := os) (y := x) Try.underlying77 info_bucket (by rfl) (by rfl) rfl m 1 (by rfl) (by rfl) hm.out ho (hu.sub.of_below (by repeat (first | exact Below.refl _ _ | apply Below.drew | refine Below.alloc ?_ (by simp) _))) (heap_new_at (by simp)) rfl (by omega) (by omega) ?_; intro C' cap' w1 h1 ho1 hu1)
            go_roundw
            case rel => exact ⟨j + 1, cap', m + 1, true, C', h1, os ++ [x], by omega, by go_num, rfl, rfl, by unfold Hid; rw [List.length_append, hm.out]; rfl, HN, by omega, ho1, hu.trans (hu1.before (by repeat (first | exact Below.refl _ _ | apply Below.drew | refine Below.alloc ?_ (by simp) _)))⟩
            case measure => simp [intOf]; omega
          · have t1 : (x.a == c) = false := by simpa using ha
            have HN : Hid (G d0 l = (os ++ [x]) ++ G true (l.drop (j + 1))) := by unfold Hid; rw [HD.out, GK hk (.inl rfl), app1]
            clear ha
            clear hk GS GK GL HD HE GLen
            go_wp2_with (at_builtin; refine wpList_app1f (h := h') (xs := os) (y := x) Try.underlying77 info_bucket (by rfl) (by rfl) rfl m 1 (by rfl) (by rfl) hm.out ho (hu.sub.of_below (by repeat (first | exact Below.refl _ _ | apply Below.drew | refine Below.alloc ?_ (by simp) _))) (heap_new_at (by simp)) rfl (by omega) (by omega) ?_; intro C' cap' w1 h1 ho1 hu1)
            go_roundw
            case rel => exact ⟨j + 1, cap', m + 1, true, C', h1, os ++ [x], by omega, by go_num, rfl, rfl, by unfold Hid; rw [List.length_append, hm.out]; rfl, HN, by omega, ho1, hu.trans (hu1.before (by repeat (first | exact Below.refl _ _ | apply Below.drew | refine Below.alloc ?_ (by simp) _)))⟩
            case measure => simp [intOf]; omega
        | false =>
          by_cases hlt3 : c < x.a ∨ c = x.a ∧ y < x.b
          · by_cases ha : x.a = c
            · have hbb : y < x.b := by omega
              have t1 : (x.a == c) = true := by simpa using ha
              have t2 : (x.b == y) = false := by simp; omega
              have t3 : decide (c < x.a) = false := by simp; omega
              have t4 : decide (y < x.b) = true := by simpa using hbb
              have HN : Hid (G d0 l = (os ++ [⟨c, y, n⟩] ++ [x]) ++ G true (l.drop (j + 1))) := by unfold Hid; rw [HD.out, GL hlt3, app2]
              clear ha hbb hlt3
              clear hk GS GK GL HD HE GLen
              have hm3 : Hid ((os ++ [(⟨c, y, n⟩ : STri)]).length = m + 1) := by unfold Hid; rw [List.length_append, hm.out]; rfl
              have hfree : Hid (h' wr.heap.size = none) := hu.sub.free (Nat.le_refl _)
              go_wp2_with (first | (at_builtin; refine wpList_app1f (h := h') (xs := os) (y := ⟨c, y, n⟩) Try.underlying77 info_bucket (by rfl) (by rfl) rfl m 1 (by rfl) (by rfl) hm.out ho (hu.sub.of_below (by repeat (first | exact Below.refl _ _ | apply Below.drew | refine Below.alloc ?_ (by simp) _))) (heap_new_at (by simp)) rfl (by omega) (by omega) ?_; intro C' cap' w1 h1 ho1 hu1; have k0 : w1.cell? ⟨wr.heap.size, 0, none⟩ = some (.int .i64 x.a) := hu1.cell (by simp) hfree.out; have k1 : w1.cell? ⟨wr.heap.size, 1, none⟩ = some (.int .i64 x.b) := hu1.cell (by simp) hfree.out; have k2 : w1.cell? ⟨wr.heap.size, 2, none⟩ = some (.int .i64 x.c) := hu1.cell (by simp) hfree.out) | (at_builtin; refine wpList_app1f (h := h1) (xs := os ++ [⟨c, y, n⟩]) (y := x) Try.underlying77 info_bucket (by rfl) (by rfl) rfl (m + 1) 1 (by rfl) (by rfl) hm3.out ho1 (hu1.sub.of_below (by repeat (first | exact Below.refl _ _ | apply Below.drew | refine Below.alloc ?_ (by simp) _))) (heap_new_at (by simp)) rfl (by omega) (by omega) ?_; intro C2 cap2 w2 h2 ho2 hu2))
              go_roundw
              case rel => exact ⟨j + 1, cap2, m + 1 + 1, true, C2, h2, os ++ [⟨c, y, n⟩] ++ [x], by omega, by go_num, rfl, rfl, by unfold Hid; rw [List.length_append, hm3.out]; rfl, HN, by omega, ho2, (hu.trans (hu1.before (by repeat (first | exact Below.refl _ _ | apply Below.drew | refine Below.alloc ?_ (by simp) _)))).trans (hu2.before (by repeat (first | exact Below.refl _ _ | apply Below.drew | refine Below.alloc ?_ (by simp) _)))⟩
              case measure => simp [intOf]; omega
            · have hbb : c < x.a := by omega
              have t1 : (x.a == c) = false := by simpa using ha
              have t3 : decide (c < x.a) = true := by simpa using hbb
              have HN : Hid (G d0 l = (os ++ [⟨c, y, n⟩] ++ [x]) ++ G true (l.drop (j + 1))) := by unfold Hid; rw [HD.out, GL hlt3, app2]
              clear ha hbb hlt3
              clear hk GS GK GL HD HE GLen
              have hm3 : Hid ((os ++ [(⟨c, y, n⟩ : STri)]).length = m + 1) := by unfold Hid; rw [List.length_append, hm.out]; rfl
              have hfree : Hid (h' wr.heap.size = none) := hu.sub.free (Nat.le_refl _)
              go_wp2_with (first | (at_builtin; refine wpList_app1f (h := h') (xs := os) (y := ⟨c, y, n⟩) Try.underlying77 info_bucket (by rfl) (by rfl) rfl m 1 (by rfl) (by rfl) hm.out ho (hu.sub.of_below (by repeat (first | exact Below.refl _ _ | apply Below.drew | refine Below.alloc ?_ (by simp) _))) (heap_new_at (by simp)) rfl (by omega) (by omega) ?_; intro C' cap' w1 h1 ho1 hu1; have k0 : w1.cell? ⟨wr.heap.size, 0, none⟩ = some (.int .i64 x.a) := hu1.cell (by simp) hfree.out; have k1 : w1.cell? ⟨wr.heap.size, 1, none⟩ = some (.int .i64 x.b) := hu1.cell (by simp) hfree.out; have k2 : w1.cell? ⟨wr.heap.size, 2, none⟩ = some (.int .i64 x.c) := hu1.cell (by simp) hfree.out) | (at_builtin; refine wpList_app1f (h := h1) (xs := os ++ [⟨c, y, n⟩]) (y := x) Try.underlying77 info_bucket (by rfl) (by rfl) rfl (m + 1) 1 (by rfl) (by rfl) hm3.out ho1 (hu1.sub.of_below (by repeat (first | exact Below.refl _ _ | apply Below.drew | refine Below.alloc ?_ (by simp) _))) (heap_new_at (by simp)) rfl (by omega) (by omega) ?_; intro C2 cap2 w2 h2 ho2 hu2))
              go_roundw
              case rel => exact ⟨j + 1, cap2, m + 1 + 1, true, C2, h2, os ++ [⟨c, y, n⟩] ++ [x], by omega, by go_num, rfl, rfl, by unfold Hid; rw [List.length_append, hm3.out]; rfl, HN, by omega, ho2, (hu.trans (hu1.before (by repeat (first | exact Below.refl _ _ | apply Below.drew | refine Below.alloc ?_ (by simp) _)))).trans (hu2.before (by repeat (first | exact Below.refl _ _ | apply Below.drew | refine Below.alloc ?_ (by simp) _)))⟩
              case measure => simp [intOf]; omega
          · by_cases ha : x.a = c
            · have hbb : x.b < y := by
                have : x.b ≠ y := fun e => hk ⟨ha, e⟩
                omega
              have t1 : (x.a == c) = true := by simpa using ha
              have t2 : (x.b == y) = false := by simp; omega
              have t3 : decide (c < x.a) = false := by simp; omega
              have t4 : decide (y < x.b) = false := by simp; omega
              have HN : Hid (G d0 l = (os ++ [x]) ++ G false (l.drop (j + 1))) := by unfold Hid; rw [HD.out, GK hk (.inr hlt3), app1]
              clear ha hbb hlt3
              clear hk GS GK GL HD HE GLen
              go_wp2_with (at_builtin; refine wpList_app1f (h := h') (xs := os) (y := x) Try.underlying77 info_bucket (by rfl) (by rfl) rfl m 1 (by rfl) (by rfl) hm.out ho (hu.sub.of_below (by repeat (first | exact Below.refl _ _ | apply Below.drew | refine Below.alloc ?_ (by simp) _))) (heap_new_at (by simp)) rfl (by omega) (by omega) ?_; intro C' cap' w1 h1 ho1 hu1)
              go_roundw
              case rel => exact ⟨j + 1, cap', m + 1, false, C', h1, os ++ [x], by omega, by go_num, rfl, rfl, by unfold Hid; rw [List.length_append, hm.out]; rfl, HN, by omega, ho1, hu.trans (hu1.before (by repeat (first | exact Below.refl _ _ | apply Below.drew | refine Below.alloc ?_ (by simp) _)))⟩
              case measure => simp [intOf]; omega
            · have hbb : x.a < c := by omega
              have t1 : (x.a == c) = false := by simpa using ha
              have t3 : decide (c < x.a) = false := by simp; omega
              have HN : Hid (G d0 l = (os ++ [x]) ++ G false (l.drop (j + 1))) := by unfold Hid; rw [HD.out, GK hk (.inr hlt3), app1]
              clear ha hbb hlt3
              clear hk GS GK GL HD HE GLen
              go_wp2_with (at_builtin; refine wpList_app1f (h := h') (xs := os) (y := x) Try.underlying77 info_bucket (by rfl) (by rfl) rfl m 1 (by rfl) (by rfl) hm.out ho (hu.sub.of_below (by repeat (first | exact Below.refl _ _ | apply Below.drew | refine Below.alloc ?_ (by simp) _))) (heap_new_at (by simp)) rfl (by omega) (by omega) ?_; intro C' cap' w1 h1 ho1 hu1)
              go_roundw
              case rel => exact ⟨j + 1, cap', m + 1, false, C', h1, os ++ [x], by omega, by go_num, rfl, rfl, by unfold Hid; rw [List.length_append, hm.out]; rfl, HN, by omega, ho1, hu.trans (hu1.before (by repeat (first | exact Below.refl _ _ | apply Below.drew | refine Below.alloc ?_ (by simp) _)))⟩
              case measure => simp [intOf]; omega
    · obtain rfl : j = l.length := by omega
      rw [List.drop_length] at hg
      have hcr := (hu.below.cell (p := ⟨b, 0, none⟩) hlt).trans hc
      have hfr := (hu.below.frozen (p := ⟨b, 0, none⟩) hlt).trans hf
      have hfree : Hid (h' b = none) := hu.new_none hlt
      cases dn with
      | true =>
        have HN : Hid (setB l c y n = os) := by unfold Hid; rw [HG.out, hg.out, (HE true).out, if_pos rfl, List.append_nil]
        clear GS GK GL HE GLen hg HG
        go_wp2
        obtain ⟨UF, hn3⟩ := Upd.field (v := .slice C m cap) 0 hb hs (Hp.none_le _) hu
        go_end0
        exact ⟨rfl, _, ⟨_, Hp.put_self, C, cap, by rw [HN.out, hm.out]; rfl, by rw [Hp.put_del hn3, HN.out]; exact ho⟩, UF⟩
      | false =>
        have HN : Hid (setB l c y n = os ++ [⟨c, y, n⟩]) := by unfold Hid; rw [HG.out, hg.out, (HE false).out, if_neg (by decide)]
        clear GS GK GL HE GLen hg HG
        go_wp2_with (at_builtin; refine wpList_app1f (h := h') (xs := os) (y := ⟨c, y, n⟩) Try.underlying77 info_bucket (by rfl) (by rfl) rfl m 1 (by rfl) (by rfl) hm.out ho (hu.sub.of_below (by repeat (first | exact Below.refl _ _ | apply Below.drew | refine Below.alloc ?_ (by simp) _))) (heap_new_at (by simp)) rfl (by omega) (by omega) ?_; intro C' cap' w1 h1 ho1 hu1; have g0 : w1.cell? ⟨b, 0, none⟩ = some (.slice A l.length ca) := hu1.cell ((cell_alloc (Nat.lt_of_lt_of_le hlt hu.size)).trans hcr) hfree.out; have gf : w1.frozen? ⟨b, 0, none⟩ = false := (hu1.frozen (p := ⟨b, 0, none⟩) (by simp; exact Nat.lt_of_lt_of_le hlt (Nat.le_trans hu.size (Nat.le_succ _))) hfree.out).trans ((frozen_alloc (Nat.lt_of_lt_of_le hlt hu.size)).trans hfr))
        obtain ⟨UF, hn3⟩ := Upd.field (v := .slice C' (m + 1) cap') 0 hb hs (Hp.none_le _) (hu.trans (hu1.before (by repeat (first | exact Below.refl _ _ | apply Below.drew | refine Below.alloc ?_ (by simp) _))))
        go_end0
        exact ⟨rfl, _, ⟨_, Hp.put_self, C', cap', by rw [HN.out, List.length_append, hm.out]; rfl, by rw [Hp.put_del hn3, HN.out]; exact ho1⟩, UF⟩
end Go.Proofs.Ytdcfojohgcmpcaa
end
section
/- The walks of the reference's register: Copy, Move. -/
namespace Go.Proofs.Ytdcfojohgcmpcaa
open Go.RowKit Go.Sl
set_option maxHeartbeats 2000000
set_option maxRecDepth 100000
theorem refCopyReg_calls (b : Nat) (l : List STri) (h : Hp) (w : World) (hs : h.sub w) (hp : Pt kReg 87 h b l) (hl : l.length ≤ 1000) :
    Calls Try.prog 94 #[.pointer (some ⟨b, 0, none⟩)] w fun e w' => ∃ h' b', e = .returned (.pointer (some ⟨b', 0, none⟩)) ∧ Pt kReg 87 h' b' l ∧ Upd Hp.none h' w w' := by
  obtain ⟨A, ca, hc, sx⟩ := hp.reg hs
  go_enter Try.func94, Try.ntmps94
  go_wp2_with (at_builtin; refine wpList_clone (B := none) Try.underlying77 info_bucket (by rfl) (by rfl) rfl l.length ca (by rfl) (by rfl) rfl kTri_flat sx hs (by omega) (by omega) ?_; intro C' cap' w1 h1 ho1 hu1)
  go_ret
  exact ⟨_, _, rfl, ⟨_, Hp.put_self, C', cap', rfl, by rw [Hp.put_del (hu1.sub.free (Nat.le_refl _))]; exact ho1⟩, hu1.put⟩
def MoveAns (b : Nat) (l : List STri) (c y n : Int) (h : Hp) (w : World) (e : Ending) (w' : World) : Prop :=
  ∃ h', e = .returned (.int .i64 (moveE l c y n)) ∧ Pt kReg 87 h' b (moveR l c y n) ∧ Upd h h' w w'
theorem MoveAns.no {b : Nat} {l : List STri} {c y n : Int} {h : Hp} {w w' : World} {E : Int} (hE : moveE l c y n = E) (h0 : E ≠ 0) (hp : Pt kReg 87 h b l) (hs : h.sub w) (hb : Below w.heap.size w w') :
    MoveAns b l c y n h w (.returned (.int .i64 E)) w' :=
  ⟨h, by rw [hE], by unfold moveR; rw [hE, if_neg h0]; exact hp, ⟨hb.os, hb.tape, hb.output, hb.size, fun q hq _ => hb.block q hq, hs.of_below hb, fun _ hq => .inl hq⟩⟩
theorem refMove_calls (b : Nat) (l : List STri) (c y n : Int) (h : Hp) (w : World) (hs : h.sub w) (hp : Pt kReg 87 h b l) (g : GoodR l) :
    Calls Try.prog 44 #[.pointer (some ⟨b, 0, none⟩), .int .i64 c, .int .i64 y, .int .i64 n] w (MoveAns b l c y n h w) := by
  obtain ⟨A, ca, hc, sx⟩ := hp.reg hs
  have hlt := World.block_lt_of_cell? w _ hc
  have hlen := g.len
  have BC := fun W : World => refBucket_calls c y W
  have MC := fun W : World => refMoney_calls n W
  cases hb : bucketOk c y with
  | false =>
    have HE : Hid (moveE l c y n = 1) := by unfold Hid moveE; rw [if_pos (by simp [hb])]
    rw [hb] at BC
    clear hb MC
    go_enter Try.func44, Try.ntmps44
    go_wp2_with (go_at_call 93; refine (BC _).mono ?_; rintro e w' ⟨rfl, rfl⟩)
    go_ret
    exact .no HE.out (by decide) hp hs (Below.refl _ _)
  | true =>
  cases hm : money n with
  | false =>
    have HE : Hid (moveE l c y n = 1) := by unfold Hid moveE; rw [if_pos (by simp [hm])]
    rw [hb] at BC
    rw [hm] at MC
    clear hb hm
    go_enter Try.func44, Try.ntmps44
    go_wp2_with (first
      | (go_at_call 93; refine (BC _).mono ?_; rintro e w' ⟨rfl, rfl⟩)
      | (go_at_call 84; refine (MC _).mono ?_; rintro e w' ⟨rfl, rfl⟩))
    go_ret
    exact .no HE.out (by decide) hp hs (Below.refl _ _)
  | true =>
  have hm' : -100000000000 ≤ n ∧ n ≤ 100000000000 := by simpa [money] using hm
  have hg := g.get c y
  have hsu := g.sum
  have GC := fun (W : World) (hW : Below w.heap.size w W) => refGet_calls b A ca l c y h W (hs.of_below hW) ((hW.cell (p := ⟨b, 0, none⟩) hlt).trans hc) sx
  have TC := fun (W : World) (hW : Below w.heap.size w W) => refTotal_calls b A ca l h W (hs.of_below hW) ((hW.cell (p := ⟨b, 0, none⟩) hlt).trans hc) sx (by omega) (mem_len g.mon)
  have CC := fun (W : World) (hW : Below w.heap.size w W) => refCopyReg_calls b l h W (hs.of_below hW) hp (by omega)
  have HM : Hid (moveE l c y n = if (money (getB l c y + n) && money (sumC l + n)) = false then 6 else if 12 < (setB l c y (getB l c y + n)).length then 5 else 0) := by
    unfold Hid moveE; rw [if_neg (by simp [hb, hm])]
  have HR : Hid (moveE l c y n = 0 → moveR l c y n = setB l c y (getB l c y + n)) := fun h => by unfold moveR; rw [if_pos h]
  have SC := fun (b' : Nat) (k : Hp) (W : World) (ks : k.sub W) (kp : Pt kReg 87 k b' l) => refSet_calls b' l c y (getB l c y + n) k W ks kp (by omega) g.rise
  rw [hb] at BC
  rw [hm] at MC
  clear hb hm
  generalize getB l c y = v at *
  generalize sumC l = s at *
  generalize setB l c y (v + n) = L at *
  have M1 := fun W : World => refMoney_calls (v + n) W
  have M2 := fun W : World => refMoney_calls (s + n) W
  cases h1 : money (v + n) with
  | false =>
    have HE : Hid (moveE l c y n = 6) := by unfold Hid; rw [HM.out, h1]; rfl
    rw [h1] at M1
    clear h1 HM HR SC M2 TC CC
    go_enter Try.func44, Try.ntmps44
    go_wp2_with fail
    refine (BC _).mono ?_
    rintro e w' ⟨rfl, rfl⟩
    go_wp2_with fail
    refine (MC _).mono ?_
    rintro e w' ⟨rfl, rfl⟩
    go_wp2_with fail
    refine (GC _ (Below.refl _ _)).mono ?_
    rintro e w1 ⟨rfl, b1⟩
    go_wp2_with fail
    refine (M1 _).mono ?_
    rintro e w' ⟨rfl, rfl⟩
    go_wp2
    go_ret
    exact .no HE.out (by decide) hp hs b1
  | true =>
  cases h2 : money (s + n) with
  | false =>
    have HE : Hid (moveE l c y n = 6) := by unfold Hid; rw [HM.out, h1, h2]; rfl
    rw [h1] at M1
    rw [h2] at M2
    clear h1 h2 HM HR SC CC
    go_enter Try.func44, Try.ntmps44
    go_wp2_with fail
    refine (BC _).mono ?_
    rintro e w' ⟨rfl, rfl⟩
    go_wp2_with fail
    refine (MC _).mono ?_
    rintro e w' ⟨rfl, rfl⟩
    go_wp2_with fail
    refine (GC _ (Below.refl _ _)).mono ?_
    rintro e w1 ⟨rfl, b1⟩
    go_wp2_with fail
    refine (M1 _).mono ?_
    rintro e w' ⟨rfl, rfl⟩
    go_wp2_with fail
    refine (TC _ b1).mono ?_
    rintro e w2 ⟨rfl, b2⟩
    have b12 := b1.trans (b2.mono b1.size)
    go_wp2_with fail
    refine (M2 _).mono ?_
    rintro e w' ⟨rfl, rfl⟩
    go_wp2
    go_ret
    exact .no HE.out (by decide) hp hs b12
  | true =>
  have HM2 : Hid (moveE l c y n = if 12 < L.length then 5 else 0) := by unfold Hid; rw [HM.out, h1, h2]; rfl
  rw [h1] at M1
  rw [h2] at M2
  clear h1 h2 HM
  go_enter Try.func44, Try.ntmps44
  go_wp2_with fail
  refine (BC _).mono ?_
  rintro e w' ⟨rfl, rfl⟩
  go_wp2_with fail
  refine (MC _).mono ?_
  rintro e w' ⟨rfl, rfl⟩
  go_wp2_with fail
  refine (GC _ (Below.refl _ _)).mono ?_
  rintro e w1 ⟨rfl, b1⟩
  go_wp2_with fail
  refine (M1 _).mono ?_
  rintro e w' ⟨rfl, rfl⟩
  go_wp2_with fail
  refine (TC _ b1).mono ?_
  rintro e w2 ⟨rfl, b2⟩
  have b12 := b1.trans (b2.mono b1.size)
  go_wp2_with fail
  refine (M2 _).mono ?_
  rintro e w' ⟨rfl, rfl⟩
  go_wp2_with fail
  refine (CC _ b12).mono ?_
  rintro e w3 ⟨h3, b3, rfl, p3, u3⟩
  have b13 := b12.trans (u3.below.mono b12.size)
  go_wp2_with fail
  refine (GC _ b13).mono ?_
  rintro e w4 ⟨rfl, b4⟩
  have b14 := b13.trans (b4.mono b13.size)
  go_wp2_with fail
  refine (SC b3 h3 w4 (u3.sub.of_below b4) p3).mono ?_
  rintro e w5 ⟨h5, rfl, ⟨cs5, k5, A5, c5, rfl, o5⟩, u5⟩
  have u35 : Upd Hp.none h5 w w5 := ((u3.before b12).after b4).trans u5
  have k5w := u35.sub _ _ k5
  have g5 : w5.cell? ⟨b3, 0, none⟩ = some (.slice A5 L.length c5) := by rw [cell_of_row w5 b3 0 _ _ _ k5w]; rfl
  clear k5w
  have m5 := o5.small
  by_cases h12 : 12 < L.length
  · have HE : Hid (moveE l c y n = 5) := by unfold Hid; rw [HM2.out, if_pos h12]
    have h12b : decide ((12 : Int) < (L.length : Int)) = true := by simp; omega
    clear h12 HR HM2
    go_wp2
    go_ret
    exact .no HE.out (by decide) hp hs u35.below
  · have HE : Hid (moveE l c y n = 0) := by unfold Hid; rw [HM2.out, if_neg h12]
    have h12b : decide ((12 : Int) < (L.length : Int)) = false := by simp; omega
    have HL := Lib.hid (HR.out HE.out)
    have gb : w5.cell? ⟨b, 0, none⟩ = some (.slice A l.length ca) := (u35.below.cell (p := ⟨b, 0, none⟩) hlt).trans hc
    obtain ⟨cs0, hb0, A0, ca0, rfl, ow0⟩ := hp
    have gf : w5.frozen? ⟨b, 0, none⟩ = false := (u35.below.frozen (p := ⟨b, 0, none⟩) hlt).trans (frozen_of_row w b 0 _ _ (hs b _ hb0))
    clear h12 HR HM2
    go_wp2
    obtain ⟨UF, hn3⟩ := Upd.field (v := .slice A5 L.length c5) 0 hb0 hs (Hp.none_le _) (u35.weaken (Hp.del_le h5 b3))
    go_ret
    exact ⟨_, by rw [HE.out]; rfl, ⟨_, Hp.put_self, A5, c5, by rw [HL.out]; rfl, by rw [Hp.put_del hn3, HL.out]; exact o5⟩, UF⟩
end Go.Proofs.Ytdcfojohgcmpcaa
end
