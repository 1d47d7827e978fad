/- Walks and plain facts that the laws of this seat share, part 5: contracts of functions, each said at its theorem. -/
import Derived.Test.YtbaklmlnfdlmmaaPk4
import Derived.Deep.QuietTactic
import Derived.BigQuiet
set_option linter.all false
section
/- The walks of the document's Money, Account, Reverse, Merge, All, Check of lines. -/
namespace Go.Proofs.Ytbaklmlnfdlmmaa
open Go.RowKit Go.Sl
set_option maxHeartbeats 400000
set_option maxRecDepth 100000
theorem refAccount_calls (a : Int) (w : World) : Calls Try.prog 38 #[.int .i64 a] w fun e w' => e = .returned (.bool (isB a)) ∧ w = w' := by
  go_enter Try.func38, Try.ntmps38
  go_wp2
  all_goals
    go_ret
    exact ⟨by simp [isB]; omega, rfl⟩
theorem refReverse_calls (A : Option Addr) (ca : Nat) (xs : List SItem) (h : Hp) (w : World) (hs : h.sub w) (sx : Sl kItem h A ca xs) (hl : xs.length ≤ 1000000) :
    Calls Try.prog 7 #[.slice A xs.length ca] w fun e w' => ∃ C cap h', e = .returned (.slice C xs.length cap) ∧ Ow kItem h' C cap (reverseL xs) ∧ Upd Hp.none h' w w' := by
  obtain ⟨i0, hi, hz0, hz1, hz2⟩ := info_parts Try.infoLine
  have m1 := sx.small
  go_enter Try.func7, Try.ntmps7
  go_wp2
  go_loopw [3, 8] (fun v i wr => ∃ (j cap : Nat) (C : Option Addr) (h' : Hp), j ≤ xs.length ∧ i = .int .i64 j ∧ v = .slice C j cap ∧ Hid (Ow kItem h' C cap (reverseTo xs j)) ∧ Upd Hp.none h' w wr) (fun _ i _ => xs.length - (intOf i).toNat)
  case atStart => exact ⟨0, 0, none, Hp.none, by omega, rfl, rfl, Ow.none _ _, Upd.of_below (Below.refl _ _)⟩
  case round =>
    obtain ⟨j, cap, C, h', hj, rfl, rfl, ho, hu⟩ := hrel
    have HL : Hid ((reverseTo xs j).length = j) := by unfold Hid; simp [reverseTo, reverseL]; omega
    by_cases hlt : j < xs.length
    · obtain ⟨x, hx⟩ := some_of_lt hlt
      obtain ⟨b1, o1, rfl, c1, c2⟩ := sx.item (hs.of_below hu.below) hx
      have i1 : (0 : Int) ≤ (j : Int) := by omega
      have i2 : (j : Int) < (xs.length : Int) := by omega
      have HT : Hid (reverseTo xs (j + 1) = reverseTo xs j ++ [⟨x.kind, wrap64 (-x.amt)⟩]) := by unfold Hid reverseTo reverseL; rw [take_next hx]; simp
      go_wp2_with (at_builtin; refine wpList_append (k := kItem) (h := h') (hx := Hp.none) (A := C) (cap := cap) (B := some ⟨wr.heap.size + 1, 0, none⟩) (xs := reverseTo xs j) (ys := [⟨x.kind, wrap64 (-x.amt)⟩]) (by rfl) (.tmp 12) (.tmp 19) 34 (by rfl) 43 i0 (.agg #[.int .i64 0, .int .i64 0]) Try.underlying34 hi hz0 hz1 (by rfl) 16 hz2 j 1 1 HL.out rfl (by rfl) (by rfl) ho.out (hu.sub.of_below (by repeat (first | exact Below.refl _ _ | apply Below.drew | refine Below.alloc ?_ (by simp) _))) (Src.new (heap_new_at (by simp)) rfl) (Hp.none_sub _) (Hp.apart_none _) (by unfold maxLen; omega) (by omega) ?_; intro C' cap' w1 h1 ho1 hu1)
      go_roundw
      case rel => exact ⟨j + 1, cap', C', h1, by omega, by go_num, rfl, by rw [HT.out]; exact ho1, hu.trans (hu1.flat.before (by repeat (first | exact Below.refl _ _ | apply Below.drew | refine Below.alloc ?_ (by simp) _)))⟩
      case measure => simp [intOf]; omega
    · obtain rfl : j = xs.length := by omega
      have hp : reverseTo xs xs.length = reverseL xs := by unfold reverseTo; rw [List.take_length]
      rw [hp] at ho
      clear hp
      go_wp2
      go_ret
      exact ⟨C, cap, h', rfl, ho.out, hu⟩
theorem refMerge_calls (A : Option Addr) (ca : Nat) (xs : List SItem) (h : Hp) (w : World) (hs : h.sub w) (sx : Sl kItem h A ca xs) (ht : Tame xs) :
    Calls Try.prog 28 #[.slice A xs.length ca] w fun e w' => ∃ C cap h', e = .returned (.slice C (merge xs).length cap) ∧ Ow kItem h' C cap (merge xs) ∧ Upd Hp.none h' w w' := by
  obtain ⟨i0, hi, hz0, hz1, hz2⟩ := info_parts Try.infoLine
  have m1 := sx.small
  go_enter Try.func28, Try.ntmps28
  go_wp2
  go_loopw [3, 4] (fun v i wr => ∃ (j cap n : Nat) (C : Option Addr) (h' : Hp), j ≤ 7 ∧ i = .int .i64 ((j : Int) + 1) ∧ v = .slice C n cap ∧ Hid (n = (mergeTo xs j).length) ∧ Hid (Ow kItem h' C cap (mergeTo xs j)) ∧ Upd Hp.none h' w wr) (fun _ i _ => 8 - (intOf i).toNat)
  case atStart => exact ⟨0, 0, 0, none, Hp.none, by omega, rfl, rfl, rfl, Ow.none _ _, Upd.of_below (Below.refl _ _)⟩
  case round =>
    obtain ⟨j, cap, n, C, h', hj, rfl, rfl, hn, ho, hu⟩ := hrel
    by_cases hlt : j < 7
    · have i1 : (0 : Int) ≤ (j : Int) := by omega
      have i2 : (j : Int) + 1 ≤ 7 := by omega
      have hlen := mergeTo_len xs j
      have hn2 : n ≤ 7 := by rw [hn.out]; omega
      obtain ⟨wo, rfl⟩ : ∃ wo : World, wo = wr := ⟨_, rfl⟩
      go_wp2
      go_loopw [5, 14] (fun s i wr => ∃ (m : Nat), m ≤ xs.length ∧ i = .int .i64 m ∧ s = .int .i64 (accSum ((j : Int) + 1) (xs.take m)) ∧ Below wo.heap.size wo wr) (fun _ i _ => xs.length - (intOf i).toNat)
      case atStart => exact ⟨0, by omega, rfl, rfl, Below.refl _ _⟩
      case round =>
        obtain ⟨m, hm, rfl, rfl, hb⟩ := hrel
        by_cases hmt : m < xs.length
        · obtain ⟨x, hx⟩ := some_of_lt hmt
          obtain ⟨b1, o1, rfl, c1, c2⟩ := sx.item ((hs.of_below hu.below).of_below hb) hx
          have i1 : (0 : Int) ≤ (m : Int) := by omega
          have i2 : (m : Int) < (xs.length : Int) := by omega
          obtain ⟨q1, q2⟩ := (ht.take m).acc ((j : Int) + 1)
          obtain ⟨q3, q4⟩ := ht.amt x (List.mem_of_getElem? hx.out)
          by_cases hk : x.kind = (j : Int) + 1
          · have hkb : (x.kind == (j : Int) + 1) = true := by simpa using hk
            have HT : Hid (accSum ((j : Int) + 1) (xs.take (m + 1)) = accSum ((j : Int) + 1) (xs.take m) + x.amt) := by unfold Hid; rw [take_next hx, accSum_snoc, if_pos hk]
            clear hk
            go_wp2
            go_roundw
            case rel => exact ⟨m + 1, by omega, by go_num, by rw [HT.out], hb.alloc hb.size _⟩
            case measure => simp [intOf]; omega
          · have hkb : (x.kind == (j : Int) + 1) = false := by simpa using hk
            have HT : Hid (accSum ((j : Int) + 1) (xs.take (m + 1)) = accSum ((j : Int) + 1) (xs.take m)) := by unfold Hid; rw [take_next hx, accSum_snoc, if_neg hk, Int.add_zero]
            clear hk
            go_wp2
            go_roundw
            case rel => exact ⟨m + 1, by omega, by go_num, by rw [HT.out], hb.alloc hb.size _⟩
            case measure => simp [intOf]; omega
        · obtain rfl : m = xs.length := by omega
          rw [List.take_length]
          generalize hg : accSum ((j : Int) + 1) xs = s at *
          by_cases h0 : s = 0
          · have hbz : (s != 0) = false := by simpa using h0
            have HT : Hid (mergeTo xs (j + 1) = mergeTo xs j) := mergeTo_no (by rw [hg]; exact h0)
            clear h0 hg
            go_wp2
            go_roundw
            case rel => exact ⟨j + 1, cap, n, C, h', by omega, by go_num, rfl, by rw [HT.out]; exact hn, by rw [HT.out]; exact ho, hu.after hb⟩
            case measure => simp [intOf]; omega
          · have hbz : (s != 0) = true := by simpa using h0
            have HT : Hid (mergeTo xs (j + 1) = mergeTo xs j ++ [⟨(j : Int) + 1, s⟩]) := by unfold Hid; rw [← hg]; exact mergeTo_yes (by rw [hg]; exact h0)
            clear h0 hg
            go_wp2_with (at_builtin; refine wpList_append (k := kItem) (h := h') (hx := Hp.none) (A := C) (cap := cap) (B := some ⟨wr.heap.size, 0, none⟩) (xs := mergeTo xs j) (ys := [⟨(j : Int) + 1, s⟩]) (by rfl) (.tmp 29) (.tmp 33) 34 (by rfl) 43 i0 (.agg #[.int .i64 0, .int .i64 0]) Try.underlying34 hi hz0 hz1 (by rfl) 16 hz2 n 1 1 hn.out.symm rfl (by rfl) (by rfl) ho.out ((hu.sub.of_below hb).of_below (by repeat (first | exact Below.refl _ _ | apply Below.drew | refine Below.alloc ?_ (by simp) _))) (Src.new (heap_new_at (by simp)) rfl) (Hp.none_sub _) (Hp.apart_none _) (by unfold maxLen; omega) (by omega) ?_; intro C' cap' w4 h1 ho1 hu1)
            go_roundw
            case rel => exact ⟨j + 1, cap', n + 1, C', h1, by omega, by go_num, rfl, by rw [HT.out]; unfold Hid; rw [List.length_append, ← hn.out]; rfl, by rw [HT.out]; exact ho1, (hu.after hb).trans (hu1.flat.before (by repeat (first | exact Below.refl _ _ | apply Below.drew | refine Below.alloc ?_ (by simp) _)))⟩
            case measure => simp [intOf]; omega
    · obtain rfl : j = 7 := by omega
      go_wp2
      go_ret
      exact ⟨C, cap, h', by rw [hn.out]; rfl, ho.out, hu⟩
end Go.Proofs.Ytbaklmlnfdlmmaa
end
section
/- The walk of play.Right: merged lines that come to nothing. -/
namespace Go.Proofs.Ytbaklmlnfdlmmaa
open Go.RowKit Go.Sl
set_option maxHeartbeats 400000
set_option maxRecDepth 100000
def rawLine (p : Int × Int) : SItem := ⟨1 + within p.1 7, (if money (amount p.2) = true then amount p.2 else 5).tmod 1000000⟩
def rawLines (ks ams : List Int) (n : Nat) : List SItem := ((ks.zip ams).take n).map rawLine
def rightL (ks ams : List Int) : List SItem := merge (merge (rawLines ks ams 12) ++ [⟨2, -sumAmt (merge (rawLines ks ams 12))⟩])
theorem tmod_bd (n : Int) : -1000000 < n.tmod 1000000 ∧ n.tmod 1000000 < 1000000 := ⟨Int.lt_tmod_of_pos n (by omega), Int.tmod_lt_of_pos n (by omega)⟩
theorem rawLines_len (ks ams : List Int) (n : Nat) : (rawLines ks ams n).length ≤ n := by simp [rawLines]; omega
theorem rawLines_amt {ks ams : List Int} {n : Nat} {x : SItem} (h : x ∈ rawLines ks ams n) : -1000000 ≤ x.amt ∧ x.amt ≤ 1000000 := by
  obtain ⟨p, _, rfl⟩ := List.mem_map.1 h
  have := tmod_bd (if money (amount p.2) = true then amount p.2 else 5)
  simp only [rawLine]; omega
theorem rawLines_tame (ks ams : List Int) : Tame (rawLines ks ams 12) := ⟨by have := rawLines_len ks ams 12; omega, fun x hx => by have := rawLines_amt hx; omega⟩
theorem raw_acc (ks ams : List Int) (a : Int) : -12000000 ≤ accSum a (rawLines ks ams 12) ∧ accSum a (rawLines ks ams 12) ≤ 12000000 := by
  have h1 := accSum_bd (b := 1000000) (by omega) a (rawLines ks ams 12) (fun x hx => rawLines_amt hx)
  have h2 := rawLines_len ks ams 12
  omega
theorem merge_len (xs : List SItem) : (merge xs).length ≤ 7 := mergeTo_len xs 7
theorem raw_merge_tame (ks ams : List Int) : Tame (merge (rawLines ks ams 12)) := Tame.merge fun a => by have := raw_acc ks ams a; omega
theorem raw_merge_amt {ks ams : List Int} {x : SItem} (h : x ∈ merge (rawLines ks ams 12)) : -12000000 ≤ x.amt ∧ x.amt ≤ 12000000 := by
  have h1 := mergeTo_mem h
  rw [h1.2.2.1]; exact raw_acc ks ams _
theorem raw_sum (ks ams : List Int) (n : Nat) : -84000000 ≤ sumAmt ((merge (rawLines ks ams 12)).take n) ∧ sumAmt ((merge (rawLines ks ams 12)).take n) ≤ 84000000 := by
  have h1 := sumAmt_bd (b := 12000000) (by omega) ((merge (rawLines ks ams 12)).take n) (fun x hx => raw_merge_amt (List.mem_of_mem_take hx))
  have h2 := merge_len (rawLines ks ams 12)
  rw [List.length_take] at h1
  omega
theorem right_tame (ks ams : List Int) : Tame (merge (rawLines ks ams 12) ++ [⟨2, -sumAmt (merge (rawLines ks ams 12))⟩]) := by
  have h1 := raw_sum ks ams 7
  rw [List.take_of_length_le (merge_len _)] at h1
  exact Tame.append (raw_merge_tame ks ams) ⟨by simp, by simp; omega⟩ (by have := merge_len (rawLines ks ams 12); simp; omega)
theorem raw_kinds (ks ams : List Int) (n : Nat) : Kinds7 (rawLines ks ams n) := fun x hx => by
  obtain ⟨p, _, rfl⟩ := List.mem_map.1 hx
  have h1 := within_lo p.1 (n := 7) (by omega)
  have h2 := within_hi p.1 (n := 7) (by omega)
  simp only [rawLine]; omega
theorem right_fine (ks ams : List Int) : Fine (rightL ks ams) := by
  have hk : Kinds7 (merge (rawLines ks ams 12) ++ [⟨2, -sumAmt (merge (rawLines ks ams 12))⟩]) := kinds7_append (kinds7_merge _) (by intro x hx; simp at hx; subst hx; simp)
  have hs := raw_sum ks ams 7
  rw [List.take_of_length_le (merge_len _)] at hs
  have hb : ∀ x ∈ merge (rawLines ks ams 12) ++ [⟨2, -sumAmt (merge (rawLines ks ams 12))⟩], -84000000 ≤ x.amt ∧ x.amt ≤ 84000000 := fun x hx => by
    rcases List.mem_append.1 hx with hx | hx
    · have := raw_merge_amt hx; omega
    · simp at hx; subst hx; simp; omega
  have hacc : ∀ a, -100000000 ≤ accSum a (merge (rawLines ks ams 12) ++ [⟨2, -sumAmt (merge (rawLines ks ams 12))⟩]) ∧ accSum a (merge (rawLines ks ams 12) ++ [⟨2, -sumAmt (merge (rawLines ks ams 12))⟩]) ≤ 100000000 := fun a => by
    rw [accSum_append]
    have h1 : -12000000 ≤ accSum a (merge (rawLines ks ams 12)) ∧ accSum a (merge (rawLines ks ams 12)) ≤ 12000000 := by
      by_cases h : 1 ≤ a ∧ a ≤ 7
      · rw [accSum_merge h.1 h.2]; exact raw_acc ks ams a
      · rw [accSum_merge_out (by omega)]; omega
    have h2 : -84000000 ≤ accSum a [(⟨2, -sumAmt (merge (rawLines ks ams 12))⟩ : SItem)] ∧ accSum a [(⟨2, -sumAmt (merge (rawLines ks ams 12))⟩ : SItem)] ≤ 84000000 := by
      simp only [accSum]; split <;> omega
    omega
  refine ⟨merge_merge _, kinds7_merge _, merge_len _, fun x hx => ?_, fun x hx => (mergeTo_mem hx).2.2.2, ?_⟩
  · have := mergeTo_mem hx; rw [this.2.2.1]; exact hacc _
  · unfold rightL; rw [sumAmt_merge hk, sumAmt_snoc]; dsimp only; omega
theorem playRight_calls (A B : Option Addr) (ca cb : Nat) (ks ams : List Int) (h k : Hp) (w : World) (hs : h.sub w) (qs : k.sub w) (sx : Sl kInt h A ca ks) (sy : Sl kInt k B cb ams)
    (hw : ∀ n ∈ ams, I64 n) :
    Calls Try.prog 20 #[.slice A ks.length ca, .slice B ams.length cb] w fun e w' => ∃ C cap h', e = .returned (.slice C (rightL ks ams).length cap) ∧ Ow kItem h' C cap (rightL ks ams) ∧ Upd Hp.none h' w w' := by
  obtain ⟨i0, hi, hz0, hz1, hz2⟩ := info_parts Try.infoLine
  have m1 := sx.small
  have m2 := sy.small
  go_enter Try.func20, Try.ntmps20
  go_wp2
  go_loopw [5, 6] (fun v i wr => ∃ (j cap : Nat) (C : Option Addr) (h' : Hp), j ≤ ks.length ∧ j ≤ ams.length ∧ j ≤ 12 ∧ i = .int .i64 j ∧ v = .slice C j cap ∧ Hid (Ow kItem h' C cap (rawLines ks ams j)) ∧ Upd Hp.none h' w wr) (fun _ i _ => ks.length - (intOf i).toNat)
  case atStart => exact ⟨0, 0, none, Hp.none, by omega, by omega, by omega, rfl, rfl, Ow.none _ _, Upd.of_below (Below.refl _ _)⟩
  case round =>
    obtain ⟨j, cap, C, h', l1, l2, l3, rfl, rfl, ho, hu⟩ := hrel
    have HL : Hid ((rawLines ks ams j).length = j) := by unfold Hid; simp [rawLines]; omega
    by_cases hlt : j < ks.length ∧ j < ams.length ∧ j < 12
    · obtain ⟨t1, t2, t3⟩ := hlt
      obtain ⟨x, hx⟩ := some_of_lt t1
      obtain ⟨y, hy⟩ := some_of_lt t2
      obtain ⟨b1, o1, rfl, c1⟩ := sx.int (hs.of_below hu.below) hx
      obtain ⟨b2, o2, rfl, d1⟩ := sy.int (qs.of_below hu.below) hy
      have hyw := hw y (List.mem_of_getElem? hy.out)
      have i1 : (0 : Int) ≤ (j : Int) := by omega
      have i2 : (j : Int) < (ks.length : Int) := by omega
      have i3 : (j : Int) < (ams.length : Int) := by omega
      have i4 : (j : Int) < 12 := by omega
      have r1 := within_lo x (n := 7) (by omega)
      have r2 := within_hi x (n := 7) (by omega)
      have HT : Hid (rawLines ks ams (j + 1) = rawLines ks ams j ++ [rawLine (x, y)]) := by
        unfold Hid rawLines
        rw [take_next (x := (x, y)) (List.getElem?_zip_eq_some.2 ⟨hx.out, hy.out⟩), List.map_append]
        rfl
      by_cases hm : money (amount y) = true
      · have HR : Hid (rawLine (x, y) = ⟨1 + within x 7, (amount y).tmod 1000000⟩) := by unfold Hid rawLine; rw [if_pos hm]
        go_wp2_with (first
          | (go_at_call 5; refine (within_calls _ _ _ (by omega) (by omega)).mono ?_; rintro e w' ⟨rfl, rfl⟩)
          | (go_at_call 19; refine (amount_calls _ hyw _).mono ?_; rintro e w' ⟨rfl, rfl⟩)
          | (go_at_call 30; refine (refMoney_calls _ _).mono ?_; rintro e w' ⟨rfl, rfl⟩)
          | (at_builtin; refine wpList_append (k := kItem) (h := h') (hx := Hp.none) (A := C) (cap := cap) (B := some ⟨wr.heap.size, 0, none⟩) (xs := rawLines ks ams j) (ys := [⟨1 + within x 7, (amount y).tmod 1000000⟩]) (by rfl) (.tmp 35) (.tmp 45) 34 (by rfl) 43 i0 (.agg #[.int .i64 0, .int .i64 0]) Try.underlying34 hi hz0 hz1 (by rfl) 16 hz2 j 1 1 HL.out rfl (by rfl) (by rfl) ho.out (hu.sub.of_below (by repeat (first | exact Below.refl _ _ | apply Below.drew | refine Below.alloc ?_ (by simp) _))) (Src.new (heap_new_at (by simp)) rfl) (Hp.none_sub _) (Hp.apart_none _) (by unfold maxLen; omega) (by omega) ?_; intro C' cap' w1 h1 ho1 hu1))
        go_roundw
        case rel => exact ⟨j + 1, cap', C', h1, by omega, by omega, by omega, by go_num, rfl, by rw [HT.out, HR.out]; exact ho1, hu.trans (hu1.flat.before (by repeat (first | exact Below.refl _ _ | apply Below.drew | refine Below.alloc ?_ (by simp) _)))⟩
        case measure => simp [intOf]; omega
      · have hm' : money (amount y) = false := by simpa using hm
        have HR : Hid (rawLine (x, y) = ⟨1 + within x 7, 5⟩) := by unfold Hid rawLine; rw [if_neg hm]; rfl
        clear hm
        go_wp2_with (first
          | (go_at_call 5; refine (within_calls _ _ _ (by omega) (by omega)).mono ?_; rintro e w' ⟨rfl, rfl⟩)
          | (go_at_call 19; refine (amount_calls _ hyw _).mono ?_; rintro e w' ⟨rfl, rfl⟩)
          | (go_at_call 30; refine (refMoney_calls _ _).mono ?_; rintro e w' ⟨rfl, rfl⟩)
          | (at_builtin; refine wpList_append (k := kItem) (h := h') (hx := Hp.none) (A := C) (cap := cap) (B := some ⟨wr.heap.size, 0, none⟩) (xs := rawLines ks ams j) (ys := [⟨1 + within x 7, 5⟩]) (by rfl) (.tmp 35) (.tmp 45) 34 (by rfl) 43 i0 (.agg #[.int .i64 0, .int .i64 0]) Try.underlying34 hi hz0 hz1 (by rfl) 16 hz2 j 1 1 HL.out rfl (by rfl) (by rfl) ho.out (hu.sub.of_below (by repeat (first | exact Below.refl _ _ | apply Below.drew | refine Below.alloc ?_ (by simp) _))) (Src.new (heap_new_at (by simp)) rfl) (Hp.none_sub _) (Hp.apart_none _) (by unfold maxLen; omega) (by omega) ?_; intro C' cap' w1 h1 ho1 hu1))
        go_roundw
        case rel => exact ⟨j + 1, cap', C', h1, by omega, by omega, by omega, by go_num, rfl, by rw [HT.out, HR.out]; exact ho1, hu.trans (hu1.flat.before (by repeat (first | exact Below.refl _ _ | apply Below.drew | refine Below.alloc ?_ (by simp) _)))⟩
        case measure => simp [intOf]; omega
    · have hfin : rawLines ks ams j = rawLines ks ams 12 := by
        unfold rawLines
        congr 1
        by_cases h3 : j < 12
        · rw [List.take_of_length_le (by simp; omega), List.take_of_length_le (by simp; omega)]
        · have : j = 12 := by omega
          rw [this]
      rw [hfin] at ho HL
      have RM := refMerge_calls C cap (rawLines ks ams 12) h' wr hu.sub ho.out.sl (rawLines_tame ks ams)
      rw [HL.out] at RM
      have hRT := right_tame ks ams
      have hML := merge_len (rawLines ks ams 12)
      have hMS := raw_sum ks ams
      have hMA := fun x hx => raw_merge_amt (ks := ks) (ams := ams) (x := x) hx
      have HRL : Hid (rightL ks ams = merge (merge (rawLines ks ams 12) ++ [⟨2, -sumAmt (merge (rawLines ks ams 12))⟩])) := rfl
      have hMA' := Lib.hid hMA
      have hMS' := Lib.hid hMS
      clear hfin hMA hMS
      generalize merge (rawLines ks ams 12) = L at *
      have hex : ¬ j < ks.length ∨ (j < ks.length ∧ ¬ j < ams.length) ∨ (j < ks.length ∧ j < ams.length ∧ ¬ (j : Int) < 12) := by omega
      clear hlt
      rcases hex with t1 | ⟨t1, t2⟩ | ⟨t1, t2, t3⟩
      all_goals
        go_wp2_with fail
        refine RM.mono ?_
        rintro e w1 ⟨C1, cap1, h1, rfl, o1, u1⟩
        have U1 : Upd Hp.none h1 w w1 := u1.before hu.below
        go_wp2
        go_loopw [8, 51] (fun s i wr => ∃ (j : Nat), j ≤ L.length ∧ i = .int .i64 j ∧ s = .int .i64 (sumAmt (L.take j)) ∧ Below w1.heap.size w1 wr) (fun _ i _ => L.length - (intOf i).toNat)
        case atStart => exact ⟨0, by omega, rfl, rfl, Below.refl _ _⟩
        case round =>
          obtain ⟨m, hm, rfl, rfl, hb⟩ := hrel
          obtain ⟨q1, q2⟩ := hMS'.out m
          by_cases hmt : m < L.length
          · obtain ⟨x, hx⟩ := some_of_lt hmt
            obtain ⟨b1, o1', e1, c1, c2⟩ := o1.sl.item (u1.sub.of_below hb) hx
            subst e1
            obtain ⟨q3, q4⟩ := hMA'.out x (List.mem_of_getElem? hx.out)
            have i1 : (0 : Int) ≤ (m : Int) := by omega
            have i2 : (m : Int) < (L.length : Int) := by omega
            have HT := Lib.hid (take_next hx)
            go_wp2
            go_roundw
            case rel => exact ⟨m + 1, by omega, by go_num, by rw [HT.out, sumAmt_snoc], hb.alloc hb.size _⟩
            case measure => simp [intOf]; omega
          · obtain rfl : m = L.length := by omega
            rw [List.take_length] at q1 q2 ⊢
            go_wp2_with (at_builtin; refine wpList_append (k := kItem) (h := h1) (hx := Hp.none) (A := C1) (cap := cap1) (B := some ⟨wr.heap.size, 0, none⟩) (xs := L) (ys := [⟨2, -sumAmt L⟩]) (by rfl) (.tmp 60) (.tmp 64) 34 (by rfl) 43 i0 (.agg #[.int .i64 0, .int .i64 0]) Try.underlying34 hi hz0 hz1 (by rfl) 16 hz2 L.length 1 1 rfl rfl (by rfl) (by rfl) o1 ((u1.sub.of_below hb).of_below (by repeat (first | exact Below.refl _ _ | apply Below.drew | refine Below.alloc ?_ (by simp) _))) (Src.new (heap_new_at (by simp)) rfl) (Hp.none_sub _) (Hp.apart_none _) (by unfold maxLen; omega) (by omega) ?_; intro C' cap' w2 h2 ho2 hu2)
            have U2 : Upd Hp.none h2 w w2 := (U1.after hb).trans (hu2.flat.before (by repeat (first | exact Below.refl _ _ | apply Below.drew | refine Below.alloc ?_ (by simp) _)))
            have RM2 := refMerge_calls C' cap' (L ++ [⟨2, -sumAmt L⟩]) h2 w2 U2.sub ho2.sl hRT
            rw [List.length_append, List.length_singleton] at RM2
            refine RM2.mono ?_
            rintro e w3 ⟨C3, cap3, h3, rfl, o3, u3⟩
            go_wp2
            go_ret
            exact ⟨C3, cap3, h3, by rw [HRL.out]; rfl, by rw [HRL.out]; exact o3, u3.before U2.below⟩
end Go.Proofs.Ytbaklmlnfdlmmaa
end
section
/- Plain facts about posts. -/
namespace Go.Sl
open Go.RowKit Go.Proofs.Ytbaklmlnfdlmmaa
theorem wrapNeg {n : Int} (h : -100000000000 ≤ n ∧ n ≤ 100000000000) : wrap64 (-n) = -n := by unfold wrap64; omega
theorem strNe {a b : List UInt8} (h : a ≠ b) : ¬ (ByteArray.toList ⟨a.toArray⟩ = ByteArray.toList ⟨b.toArray⟩) := by
  rw [tl_data, tl_data]; simpa using h
theorem argsBad_prov {ent : ByteArray} {p : Int} (he : ent.toList ≠ []) (hp : 0 ≤ p ∧ p ≤ 399) : argsBad ent p 1 0 = false := by
  simp [argsBad, he, hp]
theorem argsBad_rev {ent : ByteArray} {p of : Int} (he : ent.toList ≠ []) (hp : 0 ≤ p ∧ p ≤ 399) : argsBad ent p 2 of = false := by
  simp [argsBad, he, hp]
theorem linesE_prov (js : List SJ) (ent : ByteArray) (p of : Int) (xs : List SItem) : linesE js ent p 1 of xs = checkE xs := by simp [linesE]
section
variable {js : List SJ} {ent : ByteArray} {p of : Int} {xs : List SItem}
theorem postE_good {kind : Int} (ha : argsBad ent p kind of = false) (hL : linesE js ent p kind of xs = 0) (hl : js.length < 200) (hb : ∀ x ∈ xs, money (balance js ent x.kind 399 + x.amt) = true) : postE js ent p kind of xs = 0 := by
  have h3 : xs.any (overX js ent) = false := by rw [List.any_eq_false]; intro x hx; simp [overX, hb x hx]
  unfold postE
  rw [if_neg (by rw [ha]; decide), hL, if_neg (by decide), if_neg (by omega), h3, if_neg (by decide)]
theorem postE_prov (he : ent.toList ≠ []) (hp : 0 ≤ p ∧ p ≤ 399) (hc : checkE xs = 0) (hl : js.length < 200) (hb : ∀ x ∈ xs, money (balance js ent x.kind 399 + x.amt) = true) : postE js ent p 1 0 xs = 0 :=
  postE_good (argsBad_prov he hp) (by rw [linesE_prov]; exact hc) hl hb
theorem postE_args {kind : Int} (h : argsBad ent p kind of = true) : postE js ent p kind of xs = 1 := by unfold postE; rw [if_pos h]
theorem postE_lines {kind q : Int} (ha : argsBad ent p kind of = false) (hL : linesE js ent p kind of xs = q) (h0 : q ≠ 0) : postE js ent p kind of xs = q := by
  unfold postE; rw [if_neg (by rw [ha]; decide), hL, if_pos h0]
theorem postE_limit {kind : Int} (ha : argsBad ent p kind of = false) (hL : linesE js ent p kind of xs = 0) (hl : 200 ≤ js.length) : postE js ent p kind of xs = 5 := by
  unfold postE; rw [if_neg (by rw [ha]; decide), hL, if_neg (by decide), if_pos hl]
theorem postE_over {kind : Int} (ha : argsBad ent p kind of = false) (hL : linesE js ent p kind of xs = 0) (hl : js.length < 200) {x : SItem} (hx : x ∈ xs) (hb : money (balance js ent x.kind 399 + x.amt) = false) : postE js ent p kind of xs = 6 := by
  unfold postE
  rw [if_neg (by rw [ha]; decide), hL, if_neg (by decide), if_neg (by omega), if_pos (List.any_eq_true.2 ⟨x, hx, by simp [overX, hb]⟩)]
theorem linesE_rev {q : Int} (h : revE js ent p of = q) (h0 : q ≠ 0) : linesE js ent p 2 of xs = q := by unfold linesE; rw [if_pos rfl, h, if_pos h0]
theorem linesE_revOk {x : SJ} (h : revE js ent p of = 0) (hx : revX js of = some x) (hc : checkE xs = 0) (e : xs = reverseL x.lines) : linesE js ent p 2 of xs = 0 := by
  unfold linesE; rw [if_pos rfl, h, if_neg (by decide), hc, if_neg (by decide), hx]; simp [eqB, e]
theorem linesE_revForm {x : SJ} (h : revE js ent p of = 0) (hx : revX js of = some x) (hc : checkE xs = 0) (e : xs ≠ reverseL x.lines) : linesE js ent p 2 of xs = 2 := by
  unfold linesE; rw [if_pos rfl, h, if_neg (by decide), hc, if_neg (by decide), hx]; simp [eqB, e]
end
theorem balance_nil (ent : ByteArray) (a upto : Int) : balance [] ent a upto = 0 := rfl
theorem share_in {ent : ByteArray} {a upto : Int} {x : SJ} (h : x.ent.toList = ent.toList) (hp : x.period ≤ upto) : share ent a upto x = netF x.lines a := if_pos ⟨h, hp⟩
theorem share_out {ent : ByteArray} {a upto : Int} {x : SJ} (h : x.ent.toList ≠ ent.toList) : share ent a upto x = 0 := if_neg fun e => h e.1
theorem share_late {ent : ByteArray} {a upto : Int} {x : SJ} (h : upto < x.period) : share ent a upto x = 0 := if_neg fun e => by omega
theorem trialTo_congr {f g : Int → Int} : ∀ n : Nat, (∀ k : Int, 1 ≤ k → k ≤ n → f k = g k) → trialTo f n = trialTo g n
  | 0, _ => rfl
  | n + 1, h => by
    have h1 := h (n + 1) (by omega) (by omega)
    simp only [trialTo, h1, trialTo_congr n fun k a b => h k a (by omega)]
/-- A trial balance that is known account by account. -/
theorem trial_merge {js : List SJ} {ent : ByteArray} {upto : Int} {z : List SItem} (h : ∀ k, 1 ≤ k → k ≤ 7 → balance js ent k upto = accSum k z) : trial js ent upto = merge z := by
  unfold trial merge
  rw [mergeTo_trial]
  exact trialTo_congr 7 h
theorem trial_none {js : List SJ} {ent : ByteArray} {upto : Int} (h : ∀ k, 1 ≤ k → k ≤ 7 → balance js ent k upto = 0) : trial js ent upto = [] := by
  rw [trial_merge (z := []) (fun k a b => by rw [h k a b]; rfl)]; rfl
theorem check_of {xs : List SItem} (h : checkB xs = true) : checkE xs = 0 := by unfold checkE; rw [if_pos h]
theorem Fine.checkE {xs : List SItem} (f : Fine xs) : checkE xs = 0 := check_of f.check
theorem Fine.net {xs : List SItem} (f : Fine xs) (a : Int) : netF xs a = accSum a xs := by unfold netF; rw [if_pos f.few]
theorem accSum_reverse {xs : List SItem} (h : ∀ x ∈ xs, -100000000000 ≤ x.amt ∧ x.amt ≤ 100000000000) (a : Int) : accSum a (reverseL xs) = -accSum a xs := by
  induction xs with
  | nil => rfl
  | cons x xs ih =>
    have h1 := ih fun y hy => h y (by simp [hy])
    have h2 := wrapNeg (h x (by simp))
    simp only [reverseL, List.map_cons, accSum] at h1 ⊢
    rw [h1, h2]
    split <;> omega
end Go.Sl
end
section
/- The walk of the document's Check of lines. -/
namespace Go.Proofs.Ytbaklmlnfdlmmaa
open Go.RowKit Go.Sl
set_option maxHeartbeats 4000000
set_option maxRecDepth 100000
def refCheckB (xs : List SItem) : Bool := decide (xs.length ≤ 20) && risingB 0 xs && decide (sumAmt xs = 0)
theorem rising_on {a : Int} {x : SItem} {xs : List SItem} (h1 : lineB x = true) (h2 : a < x.kind) : risingB a (x :: xs) = risingB x.kind xs := by
  simp [risingB, h1, h2]
theorem rising_off {a : Int} {x : SItem} {xs : List SItem} (h : lineB x = false ∨ ¬ a < x.kind) : risingB a (x :: xs) = false := by
  rcases h with h | h <;> simp [risingB, h]
/-- The kind ahead of the j-th line. -/
def Ahead (xs : List SItem) (j : Nat) (a : Int) : Prop := (j = 0 → a = 0) ∧ (0 < j → ∃ z, xs[j - 1]? = some z ∧ a = z.kind)
theorem refCheck_same (xs : List SItem) : (checkE xs == 0) = refCheckB xs := by
  unfold checkE refCheckB checkB
  by_cases hr : risingB 0 xs = true
  · have hs := sides_sum xs (fun x hx => by
      have := risingB_lines xs 0 hr x hx
      simp only [lineB, Bool.and_eq_true] at this
      exact this.2)
    have e : decide (debs xs = cres xs) = decide (sumAmt xs = 0) := by rw [decide_eq_decide]; omega
    rw [e]
    cases decide (xs.length ≤ 20) <;> cases decide (sumAmt xs = 0) <;> simp [hr]
  · have : risingB 0 xs = false := by simpa using hr
    simp [this]
theorem refCheck_calls (A : Option Addr) (ca : Nat) (xs : List SItem) (h : Hp) (w : World) (hs : h.sub w) (sx : Sl kItem h A ca xs) :
    Calls Try.prog 26 #[.slice A xs.length ca] w fun e w' => e = .returned (.bool (refCheckB xs)) ∧ Below w.heap.size w w' := by
  have m1 := sx.small
  go_enter Try.func26, Try.ntmps26
  go_wp2
  go_loopw [3, 8] (fun s i wr => ∃ (j : Nat) (a : Int), j ≤ xs.length ∧ j ≤ 20 ∧ i = .int .i64 j ∧ s = .int .i64 (sumAmt (xs.take j)) ∧ Hid (Ahead xs j a) ∧ Hid (risingB 0 xs = risingB a (xs.drop j)) ∧ Hid (-((j : Int) * 100000000000) ≤ sumAmt (xs.take j) ∧ sumAmt (xs.take j) ≤ (j : Int) * 100000000000) ∧ Below w.heap.size w wr) (fun _ i _ => xs.length - (intOf i).toNat)
  case atStart => exact ⟨0, 0, by omega, by omega, rfl, rfl, ⟨fun _ => rfl, fun h => by omega⟩, rfl, by unfold Hid; simp [sumAmt], Below.refl _ _⟩
  case round =>
    obtain ⟨j, a, hj, hj2, rfl, rfl, hA, hr, hq, hb⟩ := hrel
    obtain ⟨q1, q2⟩ := hq.out
    by_cases hlt : j < xs.length
    · obtain ⟨x, hx⟩ := some_of_lt hlt
      obtain ⟨b1, o1, rfl, c1, c2⟩ := sx.item (hs.of_below hb) hx
      have i1 : (0 : Int) ≤ (j : Int) := by omega
      have i2 : (j : Int) < (xs.length : Int) := by omega
      have HD : Hid (xs.drop j = x :: xs.drop (j + 1)) := by
        have hg := List.getElem?_eq_some_iff.1 hx.out
        unfold Hid; rw [List.drop_eq_getElem_cons hlt, hg.2]
      have HT : Hid (sumAmt (xs.take (j + 1)) = sumAmt (xs.take j) + x.amt) := by unfold Hid; rw [take_next hx, sumAmt_snoc]
      have QA : ∀ W : World, Calls Try.prog 38 #[.int .i64 x.kind] W fun e w' => e = .returned (.bool (isB x.kind)) ∧ w' = W := fun W => (refAccount_calls x.kind W).mono fun e w' h => ⟨h.1, h.2.symm⟩
      have QM : ∀ W : World, Calls Try.prog 30 #[.int .i64 x.amt] W fun e w' => e = .returned (.bool (money x.amt)) ∧ w' = W := fun W => (refMoney_calls x.amt W).mono fun e w' h => ⟨h.1, h.2.symm⟩
      have no : lineB x = false ∨ ¬ a < x.kind → Hid (refCheckB xs = false) := fun hn => by
        unfold Hid refCheckB; rw [hr.out, HD.out, rising_off hn, Bool.and_false, Bool.false_and]
      have bz := fun n => (hb.alloc hb.size (.cells #[.int .i64 x.kind, .int .i64 x.amt] 43)).trans (below_drewN (Below.refl _ _) n)
      by_cases h20 : j < 20
      · have t1 : decide ((20 : Int) ≤ (j : Int)) = false := by simp; omega
        by_cases hB : isB x.kind = true
        · rw [hB] at QA
          have hk7 : 1 ≤ x.kind ∧ x.kind ≤ 7 := by simpa [isB] using hB
          by_cases h0 : x.amt = 0
          · have t2 : (x.amt == 0) = true := by simpa using h0
            have HN := no (.inl (by simp [lineB, h0]))
            clear hB h0 no hk7
            go_wp2
            go_quiet (first | (go_at_call 38; exact Calls.quiet_of_same (QA _)) | (go_at_call 30; exact Calls.quiet_of_same (QM _)))
            go_wp2
            go_ret
            exact ⟨by rw [HN.out]; rfl, bz _⟩
          · have t2 : (x.amt == 0) = false := by simpa using h0
            by_cases hM : money x.amt = true
            · have hmb : -100000000000 ≤ x.amt ∧ x.amt ≤ 100000000000 := by simpa [money] using hM
              rw [hM] at QM
              have hln : lineB x = true := by simp [lineB, hM, h0, hk7]
              by_cases hj0 : j = 0
              · have ha := hA.out.1 hj0
                have HR : Hid (risingB 0 xs = risingB x.kind (xs.drop (j + 1))) := by unfold Hid; rw [hr.out, HD.out, rising_on hln (by omega)]
                have t3 : decide (0 < j) = false := by simp; omega
                clear no hB h0 hM hj0
                go_wp2
                go_quiet (first | (go_at_call 38; exact Calls.quiet_of_same (QA _)) | (go_at_call 30; exact Calls.quiet_of_same (QM _)))
                go_wp2
                go_roundw
                case rel => exact ⟨j + 1, x.kind, by omega, by omega, by go_num, by rw [HT.out], ⟨fun h => by omega, fun _ => ⟨x, hx.out, rfl⟩⟩, HR, by unfold Hid; rw [HT.out]; omega, bz _⟩
                case measure => simp [intOf]; omega
              · obtain ⟨z, hz, hza⟩ := hA.out.2 (by omega)
                obtain ⟨m, hm⟩ : ∃ m, j = m + 1 := ⟨j - 1, by omega⟩
                have hz' : Hid (xs[m]? = some z) := by unfold Hid; rw [← hz]; congr 1; omega
                obtain ⟨b1', o1', hC, d1, d2⟩ := sx.item (hs.of_below hb) hz'
                obtain ⟨rfl, rfl⟩ : b1 = b1' ∧ o1 = o1' := by cases hC; exact ⟨rfl, rfl⟩
                clear hC hz hz'
                have d3 : (wr.alloc (.cells #[.int .i64 x.kind, .int .i64 x.amt] 43)).cell? ⟨b1, o1 + m * 2, none⟩ = some (.int .i64 z.kind) := (((Below.refl _ _).alloc (Nat.le_refl _) _).cell (World.block_lt_of_cell? wr _ d1)).trans d1
                have hmm : ((j : Int) - 1).toNat = m := by omega
                have i3 : (0 : Int) ≤ (j : Int) - 1 := by omega
                have i4 : (j : Int) - 1 < (xs.length : Int) := by omega
                have i5 : 0 < j := by omega
                have i6 : (1 : Int) ≤ (j : Int) := by omega
                have i7 : (j : Int) ≤ (xs.length : Int) := by omega
                have i8 : 1 ≤ j := by omega
                have t3 : decide (0 < j) = true := by simp; omega
                have hwp : IntKind.i64.wrap ((j : Int) - 1) = (j : Int) - 1 := by rw [IntKind.wrap_i64]; omega
                by_cases hk : z.kind < x.kind
                · have t4 : decide (x.kind ≤ z.kind) = false := by simp; omega
                  have HR : Hid (risingB 0 xs = risingB x.kind (xs.drop (j + 1))) := by unfold Hid; rw [hr.out, HD.out, rising_on hln (by omega)]
                  clear no hB h0 hM hm hj0 hk hza
                  go_wp2
                  go_quiet (first | (go_at_call 38; exact Calls.quiet_of_same (QA _)) | (go_at_call 30; exact Calls.quiet_of_same (QM _)))
                  go_wp2
                  go_roundw
                  case rel => exact ⟨j + 1, x.kind, by omega, by omega, by go_num, by rw [HT.out], ⟨fun h => by omega, fun _ => ⟨x, hx.out, rfl⟩⟩, HR, by unfold Hid; rw [HT.out]; omega, bz _⟩
                  case measure => simp [intOf]; omega
                · have t4 : decide (x.kind ≤ z.kind) = true := by simp; omega
                  have HN := no (.inr (by omega))
                  clear no hB h0 hM hm hj0 hk hza
                  go_wp2
                  go_quiet (first | (go_at_call 38; exact Calls.quiet_of_same (QA _)) | (go_at_call 30; exact Calls.quiet_of_same (QM _)))
                  go_wp2
                  go_ret
                  exact ⟨by rw [HN.out]; rfl, bz _⟩
            · have hM' : money x.amt = false := by simpa using hM
              rw [hM'] at QM
              have HN := no (.inl (by simp [lineB, hM']))
              clear hB h0 no hk7 hM hM'
              go_wp2
              go_quiet (first | (go_at_call 38; exact Calls.quiet_of_same (QA _)) | (go_at_call 30; exact Calls.quiet_of_same (QM _)))
              go_wp2
              go_ret
              exact ⟨by rw [HN.out]; rfl, bz _⟩
        · have hB' : isB x.kind = false := by simpa using hB
          rw [hB'] at QA
          have HN := no (.inl (by simp [lineB]; simp [isB] at hB'; omega))
          clear hB hB' no
          go_wp2
          go_quiet (first | (go_at_call 38; exact Calls.quiet_of_same (QA _)) | (go_at_call 30; exact Calls.quiet_of_same (QM _)))
          go_wp2
          go_ret
          exact ⟨by rw [HN.out]; rfl, bz _⟩
      · obtain rfl : j = 20 := by omega
        have HN : Hid (refCheckB xs = false) := by unfold Hid refCheckB; rw [decide_eq_false (show ¬ xs.length ≤ 20 by omega)]; rfl
        clear no h20
        go_wp2
        go_quiet (first | (go_at_call 38; exact Calls.quiet_of_same (QA _)) | (go_at_call 30; exact Calls.quiet_of_same (QM _)))
        go_wp2
        go_ret
        exact ⟨by rw [HN.out]; rfl, bz _⟩
    · obtain rfl : j = xs.length := by omega
      have HN : Hid (refCheckB xs = decide (sumAmt xs = 0)) := by
        unfold Hid refCheckB
        rw [decide_eq_true hj2, hr.out, List.drop_length]; rfl
      rw [List.take_length] at q1 q2 ⊢
      by_cases h0 : sumAmt xs = 0
      · have t2 : (sumAmt xs == 0) = true := by simpa using h0
        rw [decide_eq_true h0] at HN
        clear h0
        go_wp2
        go_ret
        exact ⟨by rw [HN.out]; rfl, hb⟩
      · have t2 : (sumAmt xs == 0) = false := by simpa using h0
        rw [decide_eq_false h0] at HN
        clear h0
        go_wp2
        go_ret
        exact ⟨by rw [HN.out]; rfl, hb⟩
end Go.Proofs.Ytbaklmlnfdlmmaa
end
section
/- The document's store as plain Lean, held against the program's. -/
namespace Go.Sl
open Go.RowKit Go.Proofs.Ytbaklmlnfdlmmaa
/-- All lines of an entity up to a period. -/
def allOne (ent : ByteArray) (upto : Int) (x : SJ) : List SItem := if x.ent.toList = ent.toList ∧ x.period ≤ upto then x.lines else []
def allL (js : List SJ) (ent : ByteArray) (upto : Int) : List SItem := js.flatMap (allOne ent upto)
theorem allL_snoc (js : List SJ) (x : SJ) (ent : ByteArray) (upto : Int) : allL (js ++ [x]) ent upto = allL js ent upto ++ allOne ent upto x := by simp [allL]
/-- The journal of a number. -/
def atOf (js : List SJ) (of : Int) : Option SJ := if 1 ≤ of then js[(of - 1).toNat]? else none
def refBad (x : SJ) (ent : ByteArray) (p : Int) : Bool := !(decide (x.ent.toList = ent.toList)) || (x.period != p || x.kind != 1)
def refRevE (js : List SJ) (ent : ByteArray) (p of : Int) : Int :=
  match atOf js of with
  | none => 3
  | some x => if refBad x ent p = true then 3 else if js.any (fun j => j.of == of) = true then 4 else 0
def refLinesE (js : List SJ) (kind of : Int) (xs : List SItem) : Int :=
  if refCheckB xs = false then 2 else if kind = 2 then (match atOf js of with | some x => if eqB xs (reverseL x.lines) = true then 0 else 2 | none => 2) else 0
def refPostE (js : List SJ) (ent : ByteArray) (p kind of : Int) (xs : List SItem) : Int :=
  if argsBad ent p kind of = true then 1
  else if kind = 2 ∧ refRevE js ent p of ≠ 0 then refRevE js ent p of
  else if refLinesE js kind of xs ≠ 0 then 2
  else if 200 ≤ js.length then 5
  else if (merge (allL js ent 399 ++ xs)).any (fun x => !money x.amt) = true then 6 else 0
/-- What holds of all stores that were posted into. -/
structure NumS (js : List SJ) : Prop where
  seq : ∀ (i : Nat) (x : SJ), js[i]? = some x → x.seq = (i : Int) + 1
  kind : ∀ x ∈ js, (x.kind = 1 ∧ x.of = 0) ∨ (x.kind = 2 ∧ 1 ≤ x.of)
  check : ∀ x ∈ js, checkE x.lines = 0
  per : ∀ x ∈ js, x.period ≤ 399
  bal : ∀ ent a, -100000000000 ≤ balance js ent a 399 ∧ balance js ent a 399 ≤ 100000000000
theorem NumS.nil : NumS [] := ⟨by simp, by simp, by simp, by simp, fun ent a => by rw [balance_nil]; omega⟩
theorem acc_none {a : Int} : ∀ {xs : List SItem}, (∀ x ∈ xs, x.kind ≠ a) → accSum a xs = 0
  | [], _ => rfl
  | x :: xs, h => by
    have h1 := h x (by simp)
    simp only [accSum, if_neg h1]
    rw [acc_none fun y hy => h y (by simp [hy])]; rfl
theorem rising_gt : ∀ {xs : List SItem} {b : Int}, risingB b xs = true → ∀ x ∈ xs, b < x.kind
  | [], _, _, x, hx => by simp at hx
  | y :: ys, b, h, x, hx => by
    simp only [risingB, Bool.and_eq_true, decide_eq_true_eq] at h
    rcases List.mem_cons.1 hx with rfl | hx
    · exact h.1.2
    · have := rising_gt h.2 x hx; omega
theorem acc_at : ∀ {xs : List SItem} {b : Int}, risingB b xs = true → ∀ x ∈ xs, accSum x.kind xs = x.amt
  | [], _, _, x, hx => by simp at hx
  | y :: ys, b, h, x, hx => by
    simp only [risingB, Bool.and_eq_true, decide_eq_true_eq] at h
    have hg := rising_gt h.2
    rcases List.mem_cons.1 hx with rfl | hx
    · simp only [accSum, if_true]
      rw [acc_none fun z hz => by have := hg z hz; omega]; omega
    · have h1 := hg x hx
      simp only [accSum]
      rw [if_neg (by omega), acc_at h.2 x hx]; omega
theorem checkE_rising {xs : List SItem} (h : checkE xs = 0) : risingB 0 xs = true := by
  unfold checkE at h
  split at h
  · rename_i hb
    simp only [checkB, Bool.and_eq_true] at hb
    exact hb.1.2
  · cases h
theorem checkE_few {xs : List SItem} (h : checkE xs = 0) : fewB xs = true := by
  have h1 := check_len h
  have h2 := check_amts h
  simp only [fewB, Bool.and_eq_true, decide_eq_true_eq, List.all_eq_true]
  exact ⟨by omega, fun x hx => by have := h2 x hx; simpa [money] using this⟩
theorem checkE_kind {xs : List SItem} (h : checkE xs = 0) : ∀ x ∈ xs, 1 ≤ x.kind ∧ x.kind ≤ 7 := fun x hx => by
  have := risingB_lines xs 0 (checkE_rising h) x hx
  simp only [lineB, Bool.and_eq_true, decide_eq_true_eq] at this
  omega
theorem checkE_net {xs : List SItem} (h : checkE xs = 0) (a : Int) : netF xs a = accSum a xs := by unfold netF; rw [if_pos (checkE_few h)]
theorem accSum_all (ent : ByteArray) (a upto : Int) : ∀ js : List SJ, (∀ x ∈ js, checkE x.lines = 0) → accSum a (allL js ent upto) = balance js ent a upto
  | [], _ => rfl
  | x :: js, h => by
    have h1 := accSum_all ent a upto js fun y hy => h y (by simp [hy])
    have h2 : accSum a (allOne ent upto x) = share ent a upto x := by
      unfold allOne share
      split
      · exact (checkE_net (h x (by simp)) a).symm
      · rfl
    have e : allL (x :: js) ent upto = allOne ent upto x ++ allL js ent upto := by simp [allL]
    have f : balance (x :: js) ent a upto = share ent a upto x + balance js ent a upto := by simp [balance]
    rw [e, f, accSum_append, h1, h2]
theorem merge_all {js : List SJ} (g : ∀ x ∈ js, checkE x.lines = 0) (ent : ByteArray) (upto : Int) : merge (allL js ent upto) = trial js ent upto := by
  unfold merge trial
  rw [mergeTo_trial]
  congr 1
  funext a
  exact accSum_all ent a upto js g
theorem allL_len (ent : ByteArray) (upto : Int) : ∀ js : List SJ, (∀ x ∈ js, x.lines.length ≤ 20) → (allL js ent upto).length ≤ 20 * js.length
  | [], _ => by simp [allL]
  | x :: js, h => by
    have h1 := allL_len ent upto js fun y hy => h y (by simp [hy])
    have h2 : (allOne ent upto x).length ≤ 20 := by
      unfold allOne; split
      · exact h x (by simp)
      · simp
    have e : allL (x :: js) ent upto = allOne ent upto x ++ allL js ent upto := by simp [allL]
    rw [e, List.length_append, List.length_cons]; omega
theorem allL_amt {js : List SJ} (g : ∀ x ∈ js, checkE x.lines = 0) (ent : ByteArray) (upto : Int) : ∀ y ∈ allL js ent upto, -100000000000 ≤ y.amt ∧ y.amt ≤ 100000000000 := fun y hy => by
  obtain ⟨x, hx, hy⟩ := List.mem_flatMap.1 hy
  unfold allOne at hy
  split at hy
  · exact check_amts (g x hx) y hy
  · simp at hy
theorem mergeTo_has {xs : List SItem} {a : Int} (h1 : 1 ≤ a) (h0 : accSum a xs ≠ 0) : ∀ n : Nat, a ≤ n → (⟨a, accSum a xs⟩ : SItem) ∈ mergeTo xs n
  | 0, h => by omega
  | n + 1, h => by
    by_cases e : a = (n : Int) + 1
    · subst e
      rw [mergeTo_yes h0]; simp
    · have := mergeTo_has h1 h0 n (by omega)
      simp only [mergeTo]; exact List.mem_append_left _ this
theorem NumS.tame {js : List SJ} (g : NumS js) (hl : js.length ≤ 200) (ent : ByteArray) (upto : Int) : Tame (allL js ent upto) :=
  ⟨by have := allL_len ent upto js fun x hx => check_len (g.check x hx); omega, fun y hy => by have := allL_amt g.check ent upto y hy; omega⟩
theorem NumS.tame2 {js : List SJ} (g : NumS js) (hl : js.length ≤ 200) (ent : ByteArray) (upto : Int) {xs : List SItem} (hx : checkE xs = 0) : Tame (allL js ent upto ++ xs) :=
  ⟨by have := allL_len ent upto js fun x hx => check_len (g.check x hx); have := check_len hx; rw [List.length_append]; omega, fun y hy => by
    rcases List.mem_append.1 hy with hy | hy
    · have := allL_amt g.check ent upto y hy; omega
    · have := check_amts hx y hy; omega⟩
theorem over_same {js : List SJ} (g : NumS js) (ent : ByteArray) {xs : List SItem} (hx : checkE xs = 0) : (merge (allL js ent 399 ++ xs)).any (fun x => !money x.amt) = xs.any (overX js ent) := by
  have hacc : ∀ a, accSum a (allL js ent 399 ++ xs) = balance js ent a 399 + accSum a xs := fun a => by rw [accSum_append, accSum_all _ _ _ _ g.check]
  rw [Bool.eq_iff_iff, List.any_eq_true, List.any_eq_true]
  constructor
  · rintro ⟨y, hy, hm⟩
    have h1 := mergeTo_mem hy
    rw [hacc] at h1
    by_cases hk : ∃ x ∈ xs, x.kind = y.kind
    · obtain ⟨x, hxm, hk⟩ := hk
      refine ⟨x, hxm, ?_⟩
      have h2 := acc_at (checkE_rising hx) x hxm
      unfold overX
      rw [← h2, hk, ← h1.2.2.1]; exact hm
    · rw [acc_none (xs := xs) fun x hxm e => hk ⟨x, hxm, e⟩] at h1
      have h3 := g.bal ent y.kind
      have : money y.amt = true := by simp only [money, decide_eq_true_eq]; omega
      rw [this] at hm; cases hm
  · rintro ⟨x, hxm, hm⟩
    have h2 := acc_at (checkE_rising hx) x hxm
    have hk := checkE_kind hx x hxm
    unfold overX at hm
    have h0 : accSum x.kind (allL js ent 399 ++ xs) ≠ 0 := fun e => by
      rw [hacc, h2] at e
      rw [e] at hm; simp [money] at hm
    exact ⟨_, mergeTo_has hk.1 h0 7 (by omega), by show (!money (accSum x.kind _)) = true; rw [hacc, h2]; exact hm⟩
theorem revX_at {js : List SJ} (g : NumS js) (of : Int) : revX js of = atOf js of := by
  unfold atOf revX
  by_cases h1 : 1 ≤ of
  · rw [if_pos h1]
    cases hx : js[(of - 1).toNat]? with
    | none =>
      rw [List.find?_eq_none]
      intro x hxm
      obtain ⟨i, hi⟩ := List.mem_iff_getElem?.1 hxm
      have h2 := g.seq i x hi
      simp only [beq_iff_eq]
      intro e
      have : (of - 1).toNat = i := by omega
      rw [this, hi] at hx; cases hx
    | some x =>
      have hlt := (List.getElem?_eq_some_iff.1 hx).1
      have h2 := g.seq _ x hx
      rw [List.find?_eq_some_iff_getElem]
      refine ⟨by simp only [beq_iff_eq]; omega, _, hlt, (List.getElem?_eq_some_iff.1 hx).2, fun j hj => ?_⟩
      have h3 := g.seq j _ (List.getElem?_eq_getElem (by omega))
      simp only [Bool.not_eq_true', beq_eq_false_iff_ne]
      omega
  · rw [if_neg h1, List.find?_eq_none]
    intro x hxm
    obtain ⟨i, hi⟩ := List.mem_iff_getElem?.1 hxm
    have h2 := g.seq i x hi
    simp only [beq_iff_eq]; omega
theorem revE_at {js : List SJ} (g : NumS js) (ent : ByteArray) (p of : Int) : refRevE js ent p of = revE js ent p of := by
  unfold refRevE revE
  rw [revX_at g]
  cases hx : atOf js of with
  | none => rfl
  | some x =>
    have h1 : 1 ≤ of := by
      unfold atOf at hx
      split at hx
      · assumption
      · cases hx
    have hxm : x ∈ js := by
      unfold atOf at hx
      rw [if_pos h1] at hx
      exact List.mem_of_getElem? hx
    have hb : refBad x ent p = badX x ent p := by
      unfold refBad badX
      rcases g.kind x hxm with h | h <;> simp [h.1]
    have ha : js.any (fun j => j.of == of) = js.any (fun j => j.kind == 2 && j.of == of) := by
      rw [Bool.eq_iff_iff, List.any_eq_true, List.any_eq_true]
      constructor
      · rintro ⟨y, hy, he⟩
        have he2 : y.of = of := by simpa using he
        rcases g.kind y hy with h | h
        · omega
        · exact ⟨y, hy, by simp [h.1, he2]⟩
      · rintro ⟨y, hy, he⟩
        simp only [Bool.and_eq_true, beq_iff_eq] at he
        exact ⟨y, hy, by simpa using he.2⟩
    simp only [hb, ha]
theorem linesE_two (js : List SJ) (ent : ByteArray) (p kind of : Int) (xs : List SItem) (h : kind = 2 → revE js ent p of = 0) : linesE js ent p kind of xs = 0 ∨ linesE js ent p kind of xs = 2 := by
  have hc : checkE xs = 0 ∨ checkE xs = 2 := by unfold checkE; split <;> simp
  unfold linesE
  split
  · rename_i hk
    rw [h hk, if_neg (by decide)]
    split
    · exact hc
    · split
      · split <;> simp
      · simp
  · exact hc
theorem refPost_same {js : List SJ} (g : NumS js) (ent : ByteArray) (p kind of : Int) (xs : List SItem) : refPostE js ent p kind of xs = postE js ent p kind of xs := by
  unfold refPostE postE
  split
  · rfl
  rw [revE_at g]
  by_cases hk : kind = 2 ∧ revE js ent p of ≠ 0
  · rw [if_pos hk]
    have : linesE js ent p kind of xs = revE js ent p of := by unfold linesE; rw [if_pos hk.1, if_pos hk.2]
    rw [this, if_pos hk.2]
  · rw [if_neg hk]
    have hr : kind = 2 → revE js ent p of = 0 := fun e => by
      by_cases h0 : revE js ent p of = 0
      · exact h0
      · exact absurd ⟨e, h0⟩ hk
    have hL : refLinesE js kind of xs = 0 ↔ linesE js ent p kind of xs = 0 := by
      have hc := refCheck_same xs
      unfold refLinesE linesE
      by_cases h0 : checkE xs = 0
      · rw [h0] at hc
        have hc2 : refCheckB xs = true := by rw [← hc]; rfl
        rw [hc2, if_neg (by decide)]
        by_cases hk2 : kind = 2
        · rw [if_pos hk2, if_pos hk2, hr hk2, if_neg (by decide), h0, if_neg (by decide), revX_at g]
          cases atOf js of <;> rfl
        · rw [if_neg hk2, if_neg hk2, h0]
      · have hc2 : refCheckB xs = false := by rw [← hc]; simpa using h0
        rw [hc2, if_pos rfl]
        by_cases hk2 : kind = 2
        · rw [if_pos hk2, hr hk2, if_neg (by decide), if_pos h0]; simp [h0]
        · rw [if_neg hk2]; simp [h0]
    by_cases h0 : linesE js ent p kind of xs = 0
    · rw [hL.2 h0, h0, over_same g ent (linesE_zero h0)]; simp
    · rw [if_pos (fun e => h0 (hL.1 e)), if_pos h0]
      rcases linesE_two js ent p kind of xs hr with h | h
      · exact absurd h h0
      · exact h.symm
theorem argsBad_no {ent : ByteArray} {p kind of : Int} (h : argsBad ent p kind of = false) : p ≤ 399 ∧ (kind = 1 ∧ of = 0 ∨ kind = 2) := by
  simp only [argsBad, Bool.or_eq_false_iff, Bool.not_eq_false', decide_eq_true_eq, decide_eq_false_iff_not] at h
  omega
theorem NumS.post {js : List SJ} (g : NumS js) (ent : ByteArray) (p kind of : Int) (xs : List SItem) : NumS (post js ent p kind of xs) := by
  by_cases h : postE js ent p kind of xs = 0
  · rw [post_ok h]
    have hA : argsBad ent p kind of = false := by
      cases hb : argsBad ent p kind of with
      | false => rfl
      | true => rw [postE_args hb] at h; cases h
    have hL : linesE js ent p kind of xs = 0 := by
      by_cases h0 : linesE js ent p kind of xs = 0
      · exact h0
      · rw [postE_lines hA rfl h0] at h; exact absurd h h0
    have hC := linesE_zero hL
    have hO : xs.any (overX js ent) = false := by
      cases ho : xs.any (overX js ent) with
      | false => rfl
      | true =>
        unfold postE at h
        rw [if_neg (by rw [hA]; decide), hL, if_neg (by decide)] at h
        split at h
        · cases h
        · first | (cases h; done) | (rw [ho, if_pos rfl] at h; cases h)
    have ha := argsBad_no hA
    refine ⟨fun i x hx => ?_, fun x hx => ?_, fun x hx => ?_, fun x hx => ?_, fun e a => ?_⟩
    · rw [List.getElem?_append] at hx
      split at hx
      · exact g.seq i x hx
      · rename_i hi
        have : i = js.length := by
          have := (List.getElem?_eq_some_iff.1 hx).1
          simp at this; omega
        subst this
        simp at hx; subst hx; rfl
    · rcases List.mem_append.1 hx with hx | hx
      · exact g.kind x hx
      · simp at hx; subst hx
        rcases ha.2 with hk | hk
        · exact .inl hk
        · refine .inr ⟨hk, ?_⟩
          unfold linesE at hL
          rw [if_pos hk] at hL
          by_cases h0 : revE js ent p of = 0
          · have h1 := revE_at g ent p of
            rw [h0] at h1
            unfold refRevE at h1
            show 1 ≤ of
            by_cases h1' : 1 ≤ of
            · exact h1'
            · unfold atOf at h1; rw [if_neg h1'] at h1; cases h1
          · rw [if_pos h0] at hL; exact absurd hL h0
    · rcases List.mem_append.1 hx with hx | hx
      · exact g.check x hx
      · simp at hx; subst hx; exact hC
    · rcases List.mem_append.1 hx with hx | hx
      · exact g.per x hx
      · simp at hx; subst hx; exact ha.1
    · rw [balance_snoc]
      have hb := g.bal e a
      unfold share
      split
      · rename_i he
        have hbe : balance js e a 399 = balance js ent a 399 := by
          unfold balance
          congr 1
          apply List.map_congr_left
          intro y _
          unfold share
          rw [← he.1]
        show -100000000000 ≤ balance js e a 399 + netF xs a ∧ balance js e a 399 + netF xs a ≤ 100000000000
        rw [checkE_net hC]
        by_cases hk : ∃ x ∈ xs, x.kind = a
        · obtain ⟨x, hxm, rfl⟩ := hk
          rw [acc_at (checkE_rising hC) x hxm, hbe]
          have := List.any_eq_false.1 hO x hxm
          simp only [overX, Bool.not_eq_true, Bool.not_eq_false', money, decide_eq_true_eq] at this
          exact this
        · rw [acc_none (xs := xs) fun x hxm e => hk ⟨x, hxm, e⟩]; omega
      · omega
  · rw [post_no h]; exact g
/-- Accounts that are none have nothing. -/
theorem balance_far {js : List SJ} (g : ∀ x ∈ js, checkE x.lines = 0) (ent : ByteArray) {a : Int} (upto : Int) (h : ¬ (1 ≤ a ∧ a ≤ 7)) : balance js ent a upto = 0 := by
  rw [← accSum_all ent a upto js g]
  refine acc_none fun y hy => ?_
  obtain ⟨x, hx, hy⟩ := List.mem_flatMap.1 hy
  unfold allOne at hy
  split at hy
  · have := checkE_kind (g x hx) y hy; omega
  · simp at hy
theorem trialTo_mem {f : Int → Int} : ∀ {n : Nat} {y : SItem}, y ∈ trialTo f n → 1 ≤ y.kind ∧ y.kind ≤ n ∧ y.amt = f y.kind ∧ y.amt ≠ 0
  | 0, y, h => by simp [trialTo] at h
  | n + 1, y, h => by
    by_cases h0 : f (n + 1) = 0
    · rw [trialTo_no h0] at h
      have := trialTo_mem h
      omega
    · rw [trialTo_yes h0] at h
      rcases List.mem_append.1 h with h | h
      · have := trialTo_mem h
        omega
      · simp at h; subst h; exact ⟨by simp; omega, by simp, rfl, h0⟩
theorem trialTo_has {f : Int → Int} {a : Int} (h1 : 1 ≤ a) (h0 : f a ≠ 0) : ∀ n : Nat, a ≤ n → (⟨a, f a⟩ : SItem) ∈ trialTo f n
  | 0, h => by omega
  | n + 1, h => by
    by_cases e : a = (n : Int) + 1
    · subst e
      rw [trialTo_yes h0]; simp
    · have := trialTo_has h1 h0 n (by omega)
      simp only [trialTo]; exact List.mem_append_left _ this
/-- An account that the trial balance does not show has nothing. -/
theorem trial_miss {js : List SJ} (g : ∀ x ∈ js, checkE x.lines = 0) {ent : ByteArray} {a upto : Int} (h : ∀ x ∈ trial js ent upto, x.kind ≠ a) : balance js ent a upto = 0 := by
  by_cases ha : 1 ≤ a ∧ a ≤ 7
  · by_cases h0 : balance js ent a upto = 0
    · exact h0
    · exact absurd rfl (h _ (trialTo_has (f := fun a => balance js ent a upto) ha.1 h0 7 (by omega)))
  · exact balance_far g ent upto ha
theorem trial_hit {js : List SJ} {ent : ByteArray} {upto : Int} {x : SItem} (h : x ∈ trial js ent upto) : balance js ent x.kind upto = x.amt := (trialTo_mem h).2.2.1.symm
end Go.Sl
end
section
/- append onto a slice in a body's own memory. No program is named here. -/
namespace Go.Sl
open Go Go.RowKit
section
variable {P : Program} {α : Type} {k : Kd α} {h hx : Hp} {A B : Option Addr} {cap : Nat} {xs ys : List α} {w0 w : World} {l : List Hp}
theorem Env.at_mem (E : Env w0 w l) {h : Hp} (m : h ∈ l) : h.sub w := E.own.mem h m
/-- One flat element. -/
theorem wpList_eapp {ops : Array Oper} {rest : List Oper} {op : Oper} {a : Act} {Q : Exit → Act → World → Prop} {sx xx : Operand} {t e : TypeId} {z : Value} {bytes : Nat} {cs : List Value} {T : TypeId} {fr : Nat × Nat} {b : Nat}
    (i : Nat) (y : α) (ht : P.underlying t = some (.slice e)) (hinfo : Info P e z k.size bytes) (E : Env w0 w l) (hi : l[i]? = some h) (o : Ow k h A cap xs) (n : Nat) (hn : xs.length = n)
    (hzs : z.cells.size = k.size) (hgd : Region.wanted op (yielded ops a.tmps) = true)
    (ho : op.op = .call { callee := .builtin .append, args := #[sx, xx], argTypes := #[t, t] }) (c : Nat) (hsv : a.eval sx = .slice A n cap) (hxv : a.eval xx = .slice (some ⟨b, 0, none⟩) 1 c)
    (hb : w.heap[b]? = some (.cells cs.toArray T fr)) (hK : k.K Hp.none y cs)
    (hm : n + 1 ≤ 1000000000) (hby : bytes ≤ 1000)
    (H : ∀ A' cap' w' h', Ow k h' A' cap' (xs ++ [y]) → Env w0 w' (l.set i h') → wpList P ops Q rest (a.put op.dst (.slice A' (n + 1) cap')) w') : wpList P ops Q (op :: rest) a w :=
  wpList_app1f ht hinfo hzs hgd ho n c hsv hxv hn o (E.sub i hi) hb hK hm hby fun A' cap' w' h' h1 h2 => H A' cap' w' h' h1 (E.upd i hi h2)
/-- A whole slice of flat elements. -/
theorem wpList_eappF {ops : Array Oper} {rest : List Oper} {op : Oper} {a : Act} {Q : Exit → Act → World → Prop} {sx xx : Operand} {t e : TypeId} {z : Value} {bytes cb : Nat}
    (i : Nat) (ht : P.underlying t = some (.slice e)) (hinfo : Info P e z k.size bytes) (E : Env w0 w l) (hi : l[i]? = some h) (o : Ow k h A cap xs) (sy : Sl k hx B cb ys) (sx' : hx.sub w) (n m : Nat) (hn : xs.length = n) (hm' : ys.length = m)
    (f : k.Flat) (hzs : z.cells.size = k.size) (hgd : Region.wanted op (yielded ops a.tmps) = true)
    (ho : op.op = .call { callee := .builtin .append, args := #[sx, xx], argTypes := #[t, t] }) (c : Nat) (hsv : a.eval sx = .slice A n cap) (hxv : a.eval xx = .slice B m c)
    (hm : n + m ≤ 1000000000) (hby : bytes ≤ 1000)
    (H : ∀ A' cap' w' h', Ow k h' A' cap' (xs ++ ys) → Env w0 w' (l.set i h') → wpList P ops Q rest (a.put op.dst (.slice A' (n + m) cap')) w') : wpList P ops Q (op :: rest) a w :=
  wpList_appF ht hinfo hzs hgd ho n m c hsv hxv hn hm' f o (E.sub i hi) sy sx' hm hby fun A' cap' w' h' h1 h2 => H A' cap' w' h' h1 (E.upd i hi h2)
end
end Go.Sl
end
