/- The walks of the document's Money, Account, Reverse, Merge, All, Check of lines. -/
import Derived.Test.YtnpnndifhlihhaaJournal
namespace Go.Proofs.Ytnpnndifhlihhaa
open Go.RowKit Go.Sl
set_option maxHeartbeats 400000
set_option maxRecDepth 100000
theorem refMoney_calls (n : Int) (w : World) : Calls Try.prog 34 #[.int .i64 n] w fun e w' => e = .returned (.bool (money n)) ∧ w = w' := by
  go_enter Try.func34, Try.ntmps34
  go_wp2
  all_goals
    go_ret
    exact ⟨by simp [money]; omega, rfl⟩
theorem refAccount_calls (a : Int) (w : World) : Calls Try.prog 62 #[.int .i64 a] w fun e w' => e = .returned (.bool (isB a)) ∧ w = w' := by
  go_enter Try.func62, Try.ntmps62
  go_wp2
  all_goals
    go_ret
    exact ⟨by simp [isB]; omega, rfl⟩
theorem refReverse_calls (A : Option Addr) (ca : Nat) (xs : List SItem) (h : Hp) (w : World) (hs : h.sub w) (sx : Sl kItem h A ca xs) (hl : xs.length ≤ 1000000) :
    Calls Try.prog 37 #[.slice A xs.length ca] w fun e w' => ∃ C cap h', e = .returned (.slice C xs.length cap) ∧ Ow kItem h' C cap (reverseL xs) ∧ Upd Hp.none h' w w' := by
  obtain ⟨i0, hi, hz0, hz1, hz2⟩ := info_parts Try.infoLine
  have m1 := sx.small
  go_enter Try.func37, Try.ntmps37
  go_wp2
  go_loopw [3, 8] (fun v i wr => ∃ (j cap : Nat) (C : Option Addr) (h' : Hp), j ≤ xs.length ∧ i = .int .i64 j ∧ v = .slice C j cap ∧ Hid (Ow kItem h' C cap (reverseTo xs j)) ∧ Upd Hp.none h' w wr) (fun _ i _ => xs.length - (intOf i).toNat)
  case atStart => exact ⟨0, 0, none, Hp.none, by omega, rfl, rfl, Ow.none _ _, Upd.of_below (Below.refl _ _)⟩
  case round =>
    obtain ⟨j, cap, C, h', hj, rfl, rfl, ho, hu⟩ := hrel
    have HL : Hid ((reverseTo xs j).length = j) := by unfold Hid; simp [reverseTo, reverseL]; omega
    by_cases hlt : j < xs.length
    · obtain ⟨x, hx⟩ := some_of_lt hlt
      obtain ⟨b1, o1, rfl, c1, c2⟩ := sx.item (hs.of_below hu.below) hx
      have i1 : (0 : Int) ≤ (j : Int) := by omega
      have i2 : (j : Int) < (xs.length : Int) := by omega
      have HT : Hid (reverseTo xs (j + 1) = reverseTo xs j ++ [⟨x.kind, wrap64 (-x.amt)⟩]) := by unfold Hid reverseTo reverseL; rw [take_next hx]; simp
      go_wp2_with (at_builtin; refine wpList_append (k := kItem) (h := h') (hx := Hp.none) (A := C) (cap := cap) (B := some ⟨wr.heap.size + 1, 0, none⟩) (xs := reverseTo xs j) (ys := [⟨x.kind, wrap64 (-x.amt)⟩]) (by rfl) (.tmp 12) (.tmp 19) 36 (by rfl) 39 i0 (.agg #[.int .i64 0, .int .i64 0]) Try.underlying36 hi hz0 hz1 (by rfl) 16 hz2 j 1 1 HL.out rfl (by rfl) (by rfl) ho.out (hu.sub.of_below (by repeat (first | exact Below.refl _ _ | apply Below.drew | refine Below.alloc ?_ (by simp) _))) (Src.new (heap_new_at (by simp)) rfl) (Hp.none_sub _) (Hp.apart_none _) (by unfold maxLen; omega) (by omega) ?_; intro C' cap' w1 h1 ho1 hu1)
      go_roundw
      case rel => exact ⟨j + 1, cap', C', h1, by omega, by go_num, rfl, by rw [HT.out]; exact ho1, hu.trans (hu1.flat.before (by repeat (first | exact Below.refl _ _ | apply Below.drew | refine Below.alloc ?_ (by simp) _)))⟩
      case measure => simp [intOf]; omega
    · obtain rfl : j = xs.length := by omega
      have hp : reverseTo xs xs.length = reverseL xs := by unfold reverseTo; rw [List.take_length]
      rw [hp] at ho
      clear hp
      go_wp2
      go_ret
      exact ⟨C, cap, h', rfl, ho.out, hu⟩
theorem refMerge_calls (A : Option Addr) (ca : Nat) (xs : List SItem) (h : Hp) (w : World) (hs : h.sub w) (sx : Sl kItem h A ca xs) (ht : Tame xs) :
    Calls Try.prog 33 #[.slice A xs.length ca] w fun e w' => ∃ C cap h', e = .returned (.slice C (merge xs).length cap) ∧ Ow kItem h' C cap (merge xs) ∧ Upd Hp.none h' w w' := by
  obtain ⟨i0, hi, hz0, hz1, hz2⟩ := info_parts Try.infoLine
  have m1 := sx.small
  go_enter Try.func33, Try.ntmps33
  go_wp2
  go_loopw [3, 4] (fun v i wr => ∃ (j cap n : Nat) (C : Option Addr) (h' : Hp), j ≤ 7 ∧ i = .int .i64 ((j : Int) + 1) ∧ v = .slice C n cap ∧ Hid (n = (mergeTo xs j).length) ∧ Hid (Ow kItem h' C cap (mergeTo xs j)) ∧ Upd Hp.none h' w wr) (fun _ i _ => 8 - (intOf i).toNat)
  case atStart => exact ⟨0, 0, 0, none, Hp.none, by omega, rfl, rfl, rfl, Ow.none _ _, Upd.of_below (Below.refl _ _)⟩
  case round =>
    obtain ⟨j, cap, n, C, h', hj, rfl, rfl, hn, ho, hu⟩ := hrel
    by_cases hlt : j < 7
    · have i1 : (0 : Int) ≤ (j : Int) := by omega
      have i2 : (j : Int) + 1 ≤ 7 := by omega
      have hlen := mergeTo_len xs j
      have hn2 : n ≤ 7 := by rw [hn.out]; omega
      obtain ⟨wo, rfl⟩ : ∃ wo : World, wo = wr := ⟨_, rfl⟩
      go_wp2
      go_loopw [5, 14] (fun s i wr => ∃ (m : Nat), m ≤ xs.length ∧ i = .int .i64 m ∧ s = .int .i64 (accSum ((j : Int) + 1) (xs.take m)) ∧ Below wo.heap.size wo wr) (fun _ i _ => xs.length - (intOf i).toNat)
      case atStart => exact ⟨0, by omega, rfl, rfl, Below.refl _ _⟩
      case round =>
        obtain ⟨m, hm, rfl, rfl, hb⟩ := hrel
        by_cases hmt : m < xs.length
        · obtain ⟨x, hx⟩ := some_of_lt hmt
          obtain ⟨b1, o1, rfl, c1, c2⟩ := sx.item ((hs.of_below hu.below).of_below hb) hx
          have i1 : (0 : Int) ≤ (m : Int) := by omega
          have i2 : (m : Int) < (xs.length : Int) := by omega
          obtain ⟨q1, q2⟩ := (ht.take m).acc ((j : Int) + 1)
          obtain ⟨q3, q4⟩ := ht.amt x (List.mem_of_getElem? hx.out)
          by_cases hk : x.kind = (j : Int) + 1
          · have hkb : (x.kind == (j : Int) + 1) = true := by simpa using hk
            have HT : Hid (accSum ((j : Int) + 1) (xs.take (m + 1)) = accSum ((j : Int) + 1) (xs.take m) + x.amt) := by unfold Hid; rw [take_next hx, accSum_snoc, if_pos hk]
            clear hk
            go_wp2
            go_roundw
            case rel => exact ⟨m + 1, by omega, by go_num, by rw [HT.out], hb.alloc hb.size _⟩
            case measure => simp [intOf]; omega
          · have hkb : (x.kind == (j : Int) + 1) = false := by simpa using hk
            have HT : Hid (accSum ((j : Int) + 1) (xs.take (m + 1)) = accSum ((j : Int) + 1) (xs.take m)) := by unfold Hid; rw [take_next hx, accSum_snoc, if_neg hk, Int.add_zero]
            clear hk
            go_wp2
            go_roundw
            case rel => exact ⟨m + 1, by omega, by go_num, by rw [HT.out], hb.alloc hb.size _⟩
            case measure => simp [intOf]; omega
        · obtain rfl : m = xs.length := by omega
          rw [List.take_length]
          generalize hg : accSum ((j : Int) + 1) xs = s at *
          by_cases h0 : s = 0
          · have hbz : (s != 0) = false := by simpa using h0
            have HT : Hid (mergeTo xs (j + 1) = mergeTo xs j) := mergeTo_no (by rw [hg]; exact h0)
            clear h0 hg
            go_wp2
            go_roundw
            case rel => exact ⟨j + 1, cap, n, C, h', by omega, by go_num, rfl, by rw [HT.out]; exact hn, by rw [HT.out]; exact ho, hu.after hb⟩
            case measure => simp [intOf]; omega
          · have hbz : (s != 0) = true := by simpa using h0
            have HT : Hid (mergeTo xs (j + 1) = mergeTo xs j ++ [⟨(j : Int) + 1, s⟩]) := by unfold Hid; rw [← hg]; exact mergeTo_yes (by rw [hg]; exact h0)
            clear h0 hg
            go_wp2_with (at_builtin; refine wpList_append (k := kItem) (h := h') (hx := Hp.none) (A := C) (cap := cap) (B := some ⟨wr.heap.size, 0, none⟩) (xs := mergeTo xs j) (ys := [⟨(j : Int) + 1, s⟩]) (by rfl) (.tmp 29) (.tmp 33) 36 (by rfl) 39 i0 (.agg #[.int .i64 0, .int .i64 0]) Try.underlying36 hi hz0 hz1 (by rfl) 16 hz2 n 1 1 hn.out.symm rfl (by rfl) (by rfl) ho.out ((hu.sub.of_below hb).of_below (by repeat (first | exact Below.refl _ _ | apply Below.drew | refine Below.alloc ?_ (by simp) _))) (Src.new (heap_new_at (by simp)) rfl) (Hp.none_sub _) (Hp.apart_none _) (by unfold maxLen; omega) (by omega) ?_; intro C' cap' w4 h1 ho1 hu1)
            go_roundw
            case rel => exact ⟨j + 1, cap', n + 1, C', h1, by omega, by go_num, rfl, by rw [HT.out]; unfold Hid; rw [List.length_append, ← hn.out]; rfl, by rw [HT.out]; exact ho1, (hu.after hb).trans (hu1.flat.before (by repeat (first | exact Below.refl _ _ | apply Below.drew | refine Below.alloc ?_ (by simp) _)))⟩
            case measure => simp [intOf]; omega
    · obtain rfl : j = 7 := by omega
      go_wp2
      go_ret
      exact ⟨C, cap, h', by rw [hn.out]; rfl, ho.out, hu⟩
theorem all_calls (A : Option Addr) (ca : Nat) (xs : List SItem) (most : Int) (h : Hp) (w : World) (hs : h.sub w) (sx : Sl kItem h A ca xs) :
    Calls Try.prog 32 #[.slice A xs.length ca, .int .i64 most] w fun e w' => e = .returned (.bool ((xs.all fun x => money x.amt) && decide ((xs.length : Int) ≤ most))) ∧ Below w.heap.size w w' := by
  have m1 := sx.small
  go_enter Try.func32, Try.ntmps32
  go_wp2
  go_loopw [9] (fun i wr => ∃ (j : Nat), j ≤ xs.length ∧ i = .int .i64 j ∧ Hid ((xs.take j).all (fun x => money x.amt) = true) ∧ Below w.heap.size w wr) (fun i _ => xs.length - (intOf i).toNat)
  case atStart => exact ⟨0, by omega, rfl, rfl, Below.refl _ _⟩
  case round =>
    obtain ⟨j, hj, rfl, hA, hb⟩ := hrel
    by_cases hlt : j < xs.length
    · obtain ⟨x, hx⟩ := some_of_lt hlt
      obtain ⟨b1, o1, rfl, c1, c2⟩ := sx.item (hs.of_below hb) hx
      have i1 : (0 : Int) ≤ (j : Int) := by omega
      have i2 : (j : Int) < (xs.length : Int) := by omega
      by_cases hm : money x.amt = true
      · have HN : Hid ((xs.take (j + 1)).all (fun x => money x.amt) = true) := by unfold Hid; rw [take_next hx, List.all_append, hA.out]; simp [hm]
        go_wp2_with (go_at_call 34; refine (refMoney_calls _ _).mono ?_; rintro e w' ⟨rfl, rfl⟩)
        go_roundw
        case rel => exact ⟨j + 1, by omega, by go_num, HN, hb.alloc hb.size _⟩
        case measure => simp [intOf]; omega
      · have hm' : money x.amt = false := by simpa using hm
        have HN : Hid (((xs.all fun x => money x.amt) && decide ((xs.length : Int) ≤ most)) = false) := by
          have : (xs.all fun x => money x.amt) = false := by rw [List.all_eq_false]; exact ⟨x, List.mem_of_getElem? hx.out, by simp [hm']⟩
          unfold Hid; rw [this, Bool.false_and]
        clear hm
        go_wp2_with (go_at_call 34; refine (refMoney_calls _ _).mono ?_; rintro e w' ⟨rfl, rfl⟩)
        go_ret
        exact ⟨by rw [HN.out]; rfl, hb.alloc hb.size _⟩
    · obtain rfl : j = xs.length := by omega
      have HN : Hid ((xs.all fun x => money x.amt) = true) := by have := hA.out; rw [List.take_length] at this; exact this
      go_wp2
      go_ret
      exact ⟨by rw [HN.out, Bool.true_and]; rfl, hb⟩
end Go.Proofs.Ytnpnndifhlihhaa
