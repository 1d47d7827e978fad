/- The walks of journal.sum, Net, Reverse, Merge, right, Check. -/
import Derived.Test.YtnpnndifhlihhaaFewLine
import Derived.Test.YtnpnndifhlihhaaChart
import Derived.Test.YtnpnndifhlihhaaSides
namespace Go.Proofs.Ytnpnndifhlihhaa
open Go.RowKit Go.Sl
set_option maxHeartbeats 400000
set_option maxRecDepth 100000
theorem Try.infoLine : (Try.prog.info? 39).map (fun i => (i.zero, i.size, i.bytes)) = some (some (.agg #[.int .i64 0, .int .i64 0]), 2, 16) := by kernel_rfl
theorem sumL_calls (A : Option Addr) (ca : Nat) (xs : List SItem) (a : Int) (h : Hp) (w : World) (hs : h.sub w) (sx : Sl kItem h A ca xs) (ht : Tame xs) :
    Calls Try.prog 59 #[.slice A xs.length ca, .int .i64 a] w fun e w' => e = .returned (.int .i64 (accSum a xs)) ∧ Below w.heap.size w w' := by
  have m1 := sx.small
  go_enter Try.func59, Try.ntmps59
  go_wp2
  go_loopw [5, 10] (fun n i wr => ∃ (j : Nat), j ≤ xs.length ∧ i = .int .i64 j ∧ n = .int .i64 (accSum a (xs.take j)) ∧ Below w.heap.size w wr) (fun _ i _ => xs.length - (intOf i).toNat)
  case atStart => exact ⟨0, by omega, rfl, rfl, Below.refl _ _⟩
  case round =>
    obtain ⟨j, hj, rfl, rfl, hb⟩ := hrel
    by_cases hlt : j < xs.length
    · obtain ⟨x, hx⟩ := some_of_lt hlt
      obtain ⟨b1, o1, rfl, c1, c2⟩ := sx.item (hs.of_below hb) hx
      have i1 : (0 : Int) ≤ (j : Int) := by omega
      have i2 : (j : Int) < (xs.length : Int) := by omega
      obtain ⟨q1, q2⟩ := (ht.take j).acc a
      obtain ⟨q3, q4⟩ := ht.amt x (List.mem_of_getElem? hx.out)
      by_cases hk : x.kind = a
      · have hkb : (x.kind == a) = true := by simpa using hk
        have HT : Hid (accSum a (xs.take (j + 1)) = accSum a (xs.take j) + x.amt) := by unfold Hid; rw [take_next hx, accSum_snoc, if_pos hk]
        clear hk
        go_wp2
        go_roundw
        case rel => exact ⟨j + 1, by omega, by go_num, by rw [HT.out], hb.alloc hb.size _⟩
        case measure => simp [intOf]; omega
      · have hkb : (x.kind == a) = false := by simpa using hk
        have HT : Hid (accSum a (xs.take (j + 1)) = accSum a (xs.take j)) := by unfold Hid; rw [take_next hx, accSum_snoc, if_neg hk, Int.add_zero]
        clear hk
        go_wp2
        go_roundw
        case rel => exact ⟨j + 1, by omega, by go_num, by rw [HT.out], hb.alloc hb.size _⟩
        case measure => simp [intOf]; omega
    · obtain rfl : j = xs.length := by omega
      rw [List.take_length]
      go_wp2
      go_ret
      exact ⟨by rfl, hb⟩
theorem net_calls (A : Option Addr) (ca : Nat) (xs : List SItem) (a : Int) (h : Hp) (w : World) (hs : h.sub w) (sx : Sl kItem h A ca xs) :
    Calls Try.prog 26 #[.slice A xs.length ca, .int .i64 a] w fun e w' => e = .returned (.int .i64 (netF xs a)) ∧ Below w.heap.size w w' := by
  have C := few_calls A ca xs h w hs sx
  by_cases hf : fewB xs = true
  · have HN : Hid (netF xs a = accSum a xs) := by unfold Hid netF; rw [if_pos hf]
    have D := fun (W : World) (hW : Below w.heap.size w W) => sumL_calls A ca xs a h W (hs.of_below hW) sx (Tame.of_few hf)
    rw [hf] at C
    clear hf
    go_enter Try.func26, Try.ntmps26
    go_wp2_with fail
    refine C.mono ?_
    rintro e w1 ⟨rfl, b1⟩
    go_wp2_with fail
    refine (D _ b1).mono ?_
    rintro e w2 ⟨rfl, b2⟩
    go_wp2
    go_ret
    exact ⟨by rw [HN.out]; rfl, b1.trans (b2.mono b1.size)⟩
  · have hf' : fewB xs = false := by simpa using hf
    have HN : Hid (netF xs a = 0) := by unfold Hid netF; rw [if_neg hf]
    rw [hf'] at C
    clear hf hf'
    go_enter Try.func26, Try.ntmps26
    go_wp2_with fail
    refine C.mono ?_
    rintro e w1 ⟨rfl, b1⟩
    go_wp2
    go_ret
    exact ⟨by rw [HN.out]; rfl, b1⟩
def reverseTo (xs : List SItem) (j : Nat) : List SItem := reverseL (xs.take j)
theorem reverse_calls (A : Option Addr) (ca : Nat) (xs : List SItem) (h : Hp) (w : World) (hs : h.sub w) (sx : Sl kItem h A ca xs) (hl : xs.length ≤ 1000000) :
    Calls Try.prog 29 #[.slice A xs.length ca] w fun e w' => ∃ C cap h', e = .returned (.slice C xs.length cap) ∧ Ow kItem h' C cap (reverseL xs) ∧ Upd Hp.none h' w w' := by
  obtain ⟨i0, hi, hz0, hz1, hz2⟩ := info_parts Try.infoLine
  have m1 := sx.small
  go_enter Try.func29, Try.ntmps29
  go_wp2
  go_loopw [3, 8] (fun v i wr => ∃ (j cap : Nat) (C : Option Addr) (h' : Hp), j ≤ xs.length ∧ i = .int .i64 j ∧ v = .slice C j cap ∧ Hid (Ow kItem h' C cap (reverseTo xs j)) ∧ Upd Hp.none h' w wr) (fun _ i _ => xs.length - (intOf i).toNat)
  case atStart => exact ⟨0, 0, none, Hp.none, by omega, rfl, rfl, Ow.none _ _, Upd.of_below (Below.refl _ _)⟩
  case round =>
    obtain ⟨j, cap, C, h', hj, rfl, rfl, ho, hu⟩ := hrel
    have HL : Hid ((reverseTo xs j).length = j) := by unfold Hid; simp [reverseTo, reverseL]; omega
    by_cases hlt : j < xs.length
    · obtain ⟨x, hx⟩ := some_of_lt hlt
      obtain ⟨b1, o1, rfl, c1, c2⟩ := sx.item (hs.of_below hu.below) hx
      have i1 : (0 : Int) ≤ (j : Int) := by omega
      have i2 : (j : Int) < (xs.length : Int) := by omega
      have HT : Hid (reverseTo xs (j + 1) = reverseTo xs j ++ [⟨x.kind, wrap64 (-x.amt)⟩]) := by unfold Hid reverseTo reverseL; rw [take_next hx]; simp
      go_wp2_with (at_builtin; refine wpList_append (k := kItem) (h := h') (hx := Hp.none) (A := C) (cap := cap) (B := some ⟨wr.heap.size + 1, 0, none⟩) (xs := reverseTo xs j) (ys := [⟨x.kind, wrap64 (-x.amt)⟩]) (by rfl) (.tmp 12) (.tmp 19) 36 (by rfl) 39 i0 (.agg #[.int .i64 0, .int .i64 0]) Try.underlying36 hi hz0 hz1 (by rfl) 16 hz2 j 1 1 HL.out rfl (by rfl) (by rfl) ho.out (hu.sub.of_below (by repeat (first | exact Below.refl _ _ | apply Below.drew | refine Below.alloc ?_ (by simp) _))) (Src.new (heap_new_at (by simp)) rfl) (Hp.none_sub _) (Hp.apart_none _) (by unfold maxLen; omega) (by omega) ?_; intro C' cap' w1 h1 ho1 hu1)
      go_roundw
      case rel => exact ⟨j + 1, cap', C', h1, by omega, by go_num, rfl, by rw [HT.out]; exact ho1, hu.trans (hu1.flat.before (by repeat (first | exact Below.refl _ _ | apply Below.drew | refine Below.alloc ?_ (by simp) _)))⟩
      case measure => simp [intOf]; omega
    · obtain rfl : j = xs.length := by omega
      have hp : reverseTo xs xs.length = reverseL xs := by unfold reverseTo; rw [List.take_length]
      rw [hp] at ho
      clear hp
      go_wp2
      go_ret
      exact ⟨C, cap, h', rfl, ho.out, hu⟩
theorem acct_get {j : Nat} (h : j < 7) : ([1, 2, 3, 4, 5, 6, 7] : List Int)[j]? = some ((j : Int) + 1) := by
  have : j = 0 ∨ j = 1 ∨ j = 2 ∨ j = 3 ∨ j = 4 ∨ j = 5 ∨ j = 6 := by omega
  rcases this with rfl | rfl | rfl | rfl | rfl | rfl | rfl <;> rfl
theorem mergeF_calls (A : Option Addr) (ca : Nat) (xs : List SItem) (h : Hp) (w : World) (hs : h.sub w) (sx : Sl kItem h A ca xs) :
    Calls Try.prog 24 #[.slice A xs.length ca] w fun e w' => ∃ C cap h', e = .returned (.slice C (mergeF xs).length cap) ∧ Ow kItem h' C cap (mergeF xs) ∧ Upd Hp.none h' w w' := by
  obtain ⟨i0, hi, hz0, hz1, hz2⟩ := info_parts Try.infoLine
  have C := few_calls A ca xs h w hs sx
  by_cases hf : fewB xs = true
  · have HM : Hid (mergeF xs = merge xs) := by unfold Hid mergeF; rw [if_pos hf]
    have ht := Tame.of_few hf
    rw [hf] at C
    clear hf
    rw [HM.out]
    go_enter Try.func24, Try.ntmps24
    go_wp2_with fail
    refine C.mono ?_
    rintro e w1 ⟨rfl, b1⟩
    go_wp2_with fail
    refine (accounts_calls _).mono ?_
    rintro e w2 ⟨D, dcap, hd, rfl, od, ud⟩
    have u2 : Upd Hp.none hd w w2 := ud.before b1
    go_wp2
    go_loopw [3, 12] (fun v i wr => ∃ (j cap n : Nat) (C : Option Addr) (h' : Hp), j ≤ 7 ∧ i = .int .i64 j ∧ v = .slice C n cap ∧ Hid (n = (mergeTo xs j).length) ∧ Hid (Ow kItem h' C cap (mergeTo xs j)) ∧ Hid (h'.apart hd) ∧ hd.sub wr ∧ Upd Hp.none h' w wr) (fun _ i _ => 7 - (intOf i).toNat)
    case atStart => exact ⟨0, 0, 0, none, Hp.none, by omega, rfl, rfl, rfl, Ow.none _ _, fun _ e => absurd rfl e, u2.sub, Upd.of_below u2.below⟩
    case round =>
      obtain ⟨j, cap, n, C, h', hj, rfl, rfl, hn, ho, ha, sd, hu⟩ := hrel
      by_cases hlt : j < 7
      · have hx : Hid (([1, 2, 3, 4, 5, 6, 7] : List Int)[j]? = some ((j : Int) + 1)) := acct_get hlt
        obtain ⟨b1', o1, e1, c1⟩ := od.sl.int sd hx
        subst e1
        have i1 : (0 : Int) ≤ (j : Int) := by omega
        have i2 : (j : Int) < 7 := by omega
        have hlen := mergeTo_len xs j
        have hn2 : n ≤ 7 := by rw [hn.out]; omega
        have D := sumL_calls A ca xs ((j : Int) + 1) h wr (hs.of_below hu.below) sx ht
        generalize hg : accSum ((j : Int) + 1) xs = s at *
        by_cases h0 : s = 0
        · have hb : (s != 0) = false := by simpa using h0
          have HT : Hid (mergeTo xs (j + 1) = mergeTo xs j) := mergeTo_no (by rw [hg]; exact h0)
          clear h0 hg
          go_wp2_with (go_at_call 59; refine D.mono ?_; rintro e w3 ⟨rfl, b3⟩)
          go_roundw
          case rel => exact ⟨j + 1, cap, n, C, h', by omega, by go_num, rfl, by rw [HT.out]; exact hn, by rw [HT.out]; exact ho, ha, sd.of_below b3, hu.after b3⟩
          case measure => simp [intOf]; omega
        · have hb : (s != 0) = true := by simpa using h0
          have HT : Hid (mergeTo xs (j + 1) = mergeTo xs j ++ [⟨(j : Int) + 1, s⟩]) := by unfold Hid; rw [← hg]; exact mergeTo_yes (by rw [hg]; exact h0)
          clear h0 hg
          go_wp2_with (first
            | (go_at_call 59; refine D.mono ?_; rintro e w3 ⟨rfl, b3⟩)
            | (at_builtin; refine wpList_append (k := kItem) (h := h') (hx := Hp.none) (A := C) (cap := cap) (B := some ⟨w3.heap.size, 0, none⟩) (xs := mergeTo xs j) (ys := [⟨(j : Int) + 1, s⟩]) (by rfl) (.tmp 21) (.tmp 25) 36 (by rfl) 39 i0 (.agg #[.int .i64 0, .int .i64 0]) Try.underlying36 hi hz0 hz1 (by rfl) 16 hz2 n 1 1 hn.out.symm rfl (by rfl) (by rfl) ho.out ((hu.sub.of_below b3).of_below (by repeat (first | exact Below.refl _ _ | apply Below.drew | refine Below.alloc ?_ (by simp) _))) (Src.new (heap_new_at (by simp)) rfl) (Hp.none_sub _) (Hp.apart_none _) (by unfold maxLen; omega) (by omega) ?_; intro C' cap' w4 h1 ho1 hu1))
          go_roundw
          case rel =>
            have bb : Below w3.heap.size w3 (w3.alloc (.cells #[.int .i64 ((j : Int) + 1), .int .i64 s] 39)) := (Below.refl _ _).alloc (Nat.le_refl _) _
            have hh : h'.apart hd := ha.out
            exact ⟨j + 1, cap', n + 1, C', h1, by omega, by go_num, rfl, by rw [HT.out]; unfold Hid; rw [List.length_append, ← hn.out]; rfl, by rw [HT.out]; exact ho1, hu1.flat.apart hh ((sd.of_below b3).of_below bb), hu1.flat.keeps hh ((sd.of_below b3).of_below bb), (hu.after b3).trans (hu1.flat.before bb)⟩
          case measure => simp [intOf]; omega
      · obtain rfl : j = 7 := by omega
        go_wp2
        go_ret
        exact ⟨C, cap, h', by rw [hn.out]; rfl, ho.out, hu⟩
  · have hf' : fewB xs = false := by simpa using hf
    have HN : Hid (mergeF xs = []) := by unfold Hid mergeF; rw [if_neg hf]
    rw [hf'] at C
    clear hf hf'
    go_enter Try.func24, Try.ntmps24
    go_wp2_with fail
    refine C.mono ?_
    rintro e w1 ⟨rfl, b1⟩
    go_wp2
    go_ret
    exact ⟨none, 0, Hp.none, by rw [HN.out]; rfl, by rw [HN.out]; exact Ow.none _ _, Upd.of_below b1⟩
end Go.Proofs.Ytnpnndifhlihhaa
