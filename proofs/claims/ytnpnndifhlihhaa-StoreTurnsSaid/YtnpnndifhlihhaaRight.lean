/- The walk of play.Right: merged lines that come to nothing. -/
import Derived.Test.YtnpnndifhlihhaaRefJ
import Derived.Test.YtnpnndifhlihhaaJournalQ
import Derived.Test.YtnpnndifhlihhaaArgs
namespace Go.Proofs.Ytnpnndifhlihhaa
open Go.RowKit Go.Sl
set_option maxHeartbeats 400000
set_option maxRecDepth 100000
def rawLine (p : Int × Int) : SItem := ⟨1 + within p.1 7, (if money (amount p.2) = true then amount p.2 else 5).tmod 1000000⟩
def rawLines (ks ams : List Int) (n : Nat) : List SItem := ((ks.zip ams).take n).map rawLine
def rightL (ks ams : List Int) : List SItem := merge (merge (rawLines ks ams 12) ++ [⟨2, -sumAmt (merge (rawLines ks ams 12))⟩])
theorem tmod_bd (n : Int) : -1000000 < n.tmod 1000000 ∧ n.tmod 1000000 < 1000000 := ⟨Int.lt_tmod_of_pos n (by omega), Int.tmod_lt_of_pos n (by omega)⟩
theorem rawLines_len (ks ams : List Int) (n : Nat) : (rawLines ks ams n).length ≤ n := by simp [rawLines]; omega
theorem rawLines_amt {ks ams : List Int} {n : Nat} {x : SItem} (h : x ∈ rawLines ks ams n) : -1000000 ≤ x.amt ∧ x.amt ≤ 1000000 := by
  obtain ⟨p, _, rfl⟩ := List.mem_map.1 h
  have := tmod_bd (if money (amount p.2) = true then amount p.2 else 5)
  simp only [rawLine]; omega
theorem rawLines_tame (ks ams : List Int) : Tame (rawLines ks ams 12) := ⟨by have := rawLines_len ks ams 12; omega, fun x hx => by have := rawLines_amt hx; omega⟩
theorem raw_acc (ks ams : List Int) (a : Int) : -12000000 ≤ accSum a (rawLines ks ams 12) ∧ accSum a (rawLines ks ams 12) ≤ 12000000 := by
  have h1 := accSum_bd (b := 1000000) (by omega) a (rawLines ks ams 12) (fun x hx => rawLines_amt hx)
  have h2 := rawLines_len ks ams 12
  omega
theorem merge_len (xs : List SItem) : (merge xs).length ≤ 7 := mergeTo_len xs 7
theorem raw_merge_tame (ks ams : List Int) : Tame (merge (rawLines ks ams 12)) := Tame.merge fun a => by have := raw_acc ks ams a; omega
theorem raw_merge_amt {ks ams : List Int} {x : SItem} (h : x ∈ merge (rawLines ks ams 12)) : -12000000 ≤ x.amt ∧ x.amt ≤ 12000000 := by
  have h1 := mergeTo_mem h
  rw [h1.2.2.1]; exact raw_acc ks ams _
theorem raw_sum (ks ams : List Int) (n : Nat) : -84000000 ≤ sumAmt ((merge (rawLines ks ams 12)).take n) ∧ sumAmt ((merge (rawLines ks ams 12)).take n) ≤ 84000000 := by
  have h1 := sumAmt_bd (b := 12000000) (by omega) ((merge (rawLines ks ams 12)).take n) (fun x hx => raw_merge_amt (List.mem_of_mem_take hx))
  have h2 := merge_len (rawLines ks ams 12)
  rw [List.length_take] at h1
  omega
theorem right_tame (ks ams : List Int) : Tame (merge (rawLines ks ams 12) ++ [⟨2, -sumAmt (merge (rawLines ks ams 12))⟩]) := by
  have h1 := raw_sum ks ams 7
  rw [List.take_of_length_le (merge_len _)] at h1
  exact Tame.append (raw_merge_tame ks ams) ⟨by simp, by simp; omega⟩ (by have := merge_len (rawLines ks ams 12); simp; omega)
theorem raw_kinds (ks ams : List Int) (n : Nat) : Kinds7 (rawLines ks ams n) := fun x hx => by
  obtain ⟨p, _, rfl⟩ := List.mem_map.1 hx
  have h1 := within_lo p.1 (n := 7) (by omega)
  have h2 := within_hi p.1 (n := 7) (by omega)
  simp only [rawLine]; omega
theorem right_fine (ks ams : List Int) : Fine (rightL ks ams) := by
  have hk : Kinds7 (merge (rawLines ks ams 12) ++ [⟨2, -sumAmt (merge (rawLines ks ams 12))⟩]) := kinds7_append (kinds7_merge _) (by intro x hx; simp at hx; subst hx; simp)
  have hs := raw_sum ks ams 7
  rw [List.take_of_length_le (merge_len _)] at hs
  have hb : ∀ x ∈ merge (rawLines ks ams 12) ++ [⟨2, -sumAmt (merge (rawLines ks ams 12))⟩], -84000000 ≤ x.amt ∧ x.amt ≤ 84000000 := fun x hx => by
    rcases List.mem_append.1 hx with hx | hx
    · have := raw_merge_amt hx; omega
    · simp at hx; subst hx; simp; omega
  have hacc : ∀ a, -100000000 ≤ accSum a (merge (rawLines ks ams 12) ++ [⟨2, -sumAmt (merge (rawLines ks ams 12))⟩]) ∧ accSum a (merge (rawLines ks ams 12) ++ [⟨2, -sumAmt (merge (rawLines ks ams 12))⟩]) ≤ 100000000 := fun a => by
    rw [accSum_append]
    have h1 : -12000000 ≤ accSum a (merge (rawLines ks ams 12)) ∧ accSum a (merge (rawLines ks ams 12)) ≤ 12000000 := by
      by_cases h : 1 ≤ a ∧ a ≤ 7
      · rw [accSum_merge h.1 h.2]; exact raw_acc ks ams a
      · rw [accSum_merge_out (by omega)]; omega
    have h2 : -84000000 ≤ accSum a [(⟨2, -sumAmt (merge (rawLines ks ams 12))⟩ : SItem)] ∧ accSum a [(⟨2, -sumAmt (merge (rawLines ks ams 12))⟩ : SItem)] ≤ 84000000 := by
      simp only [accSum]; split <;> omega
    omega
  refine ⟨merge_merge _, kinds7_merge _, merge_len _, fun x hx => ?_, fun x hx => (mergeTo_mem hx).2.2.2, ?_⟩
  · have := mergeTo_mem hx; rw [this.2.2.1]; exact hacc _
  · unfold rightL; rw [sumAmt_merge hk, sumAmt_snoc]; dsimp only; omega
theorem playRight_calls (A B : Option Addr) (ca cb : Nat) (ks ams : List Int) (h k : Hp) (w : World) (hs : h.sub w) (qs : k.sub w) (sx : Sl kInt h A ca ks) (sy : Sl kInt k B cb ams)
    (hw : ∀ n ∈ ams, I64 n) :
    Calls Try.prog 28 #[.slice A ks.length ca, .slice B ams.length cb] w fun e w' => ∃ C cap h', e = .returned (.slice C (rightL ks ams).length cap) ∧ Ow kItem h' C cap (rightL ks ams) ∧ Upd Hp.none h' w w' := by
  obtain ⟨i0, hi, hz0, hz1, hz2⟩ := info_parts Try.infoLine
  have m1 := sx.small
  have m2 := sy.small
  go_enter Try.func28, Try.ntmps28
  go_wp2
  go_loopw [5, 6] (fun v i wr => ∃ (j cap : Nat) (C : Option Addr) (h' : Hp), j ≤ ks.length ∧ j ≤ ams.length ∧ j ≤ 12 ∧ i = .int .i64 j ∧ v = .slice C j cap ∧ Hid (Ow kItem h' C cap (rawLines ks ams j)) ∧ Upd Hp.none h' w wr) (fun _ i _ => ks.length - (intOf i).toNat)
  case atStart => exact ⟨0, 0, none, Hp.none, by omega, by omega, by omega, rfl, rfl, Ow.none _ _, Upd.of_below (Below.refl _ _)⟩
  case round =>
    obtain ⟨j, cap, C, h', l1, l2, l3, rfl, rfl, ho, hu⟩ := hrel
    have HL : Hid ((rawLines ks ams j).length = j) := by unfold Hid; simp [rawLines]; omega
    by_cases hlt : j < ks.length ∧ j < ams.length ∧ j < 12
    · obtain ⟨t1, t2, t3⟩ := hlt
      obtain ⟨x, hx⟩ := some_of_lt t1
      obtain ⟨y, hy⟩ := some_of_lt t2
      obtain ⟨b1, o1, rfl, c1⟩ := sx.int (hs.of_below hu.below) hx
      obtain ⟨b2, o2, rfl, d1⟩ := sy.int (qs.of_below hu.below) hy
      have hyw := hw y (List.mem_of_getElem? hy.out)
      have i1 : (0 : Int) ≤ (j : Int) := by omega
      have i2 : (j : Int) < (ks.length : Int) := by omega
      have i3 : (j : Int) < (ams.length : Int) := by omega
      have i4 : (j : Int) < 12 := by omega
      have r1 := within_lo x (n := 7) (by omega)
      have r2 := within_hi x (n := 7) (by omega)
      have HT : Hid (rawLines ks ams (j + 1) = rawLines ks ams j ++ [rawLine (x, y)]) := by
        unfold Hid rawLines
        rw [take_next (x := (x, y)) (List.getElem?_zip_eq_some.2 ⟨hx.out, hy.out⟩), List.map_append]
        rfl
      by_cases hm : money (amount y) = true
      · have HR : Hid (rawLine (x, y) = ⟨1 + within x 7, (amount y).tmod 1000000⟩) := by unfold Hid rawLine; rw [if_pos hm]
        go_wp2_with (first
          | (go_at_call 16; refine (within_calls _ _ _ (by omega) (by omega)).mono ?_; rintro e w' ⟨rfl, rfl⟩)
          | (go_at_call 53; refine (amount_calls _ hyw _).mono ?_; rintro e w' ⟨rfl, rfl⟩)
          | (go_at_call 34; refine (refMoney_calls _ _).mono ?_; rintro e w' ⟨rfl, rfl⟩)
          | (at_builtin; refine wpList_append (k := kItem) (h := h') (hx := Hp.none) (A := C) (cap := cap) (B := some ⟨wr.heap.size, 0, none⟩) (xs := rawLines ks ams j) (ys := [⟨1 + within x 7, (amount y).tmod 1000000⟩]) (by rfl) (.tmp 35) (.tmp 45) 36 (by rfl) 39 i0 (.agg #[.int .i64 0, .int .i64 0]) Try.underlying36 hi hz0 hz1 (by rfl) 16 hz2 j 1 1 HL.out rfl (by rfl) (by rfl) ho.out (hu.sub.of_below (by repeat (first | exact Below.refl _ _ | apply Below.drew | refine Below.alloc ?_ (by simp) _))) (Src.new (heap_new_at (by simp)) rfl) (Hp.none_sub _) (Hp.apart_none _) (by unfold maxLen; omega) (by omega) ?_; intro C' cap' w1 h1 ho1 hu1))
        go_roundw
        case rel => exact ⟨j + 1, cap', C', h1, by omega, by omega, by omega, by go_num, rfl, by rw [HT.out, HR.out]; exact ho1, hu.trans (hu1.flat.before (by repeat (first | exact Below.refl _ _ | apply Below.drew | refine Below.alloc ?_ (by simp) _)))⟩
        case measure => simp [intOf]; omega
      · have hm' : money (amount y) = false := by simpa using hm
        have HR : Hid (rawLine (x, y) = ⟨1 + within x 7, 5⟩) := by unfold Hid rawLine; rw [if_neg hm]; rfl
        clear hm
        go_wp2_with (first
          | (go_at_call 16; refine (within_calls _ _ _ (by omega) (by omega)).mono ?_; rintro e w' ⟨rfl, rfl⟩)
          | (go_at_call 53; refine (amount_calls _ hyw _).mono ?_; rintro e w' ⟨rfl, rfl⟩)
          | (go_at_call 34; refine (refMoney_calls _ _).mono ?_; rintro e w' ⟨rfl, rfl⟩)
          | (at_builtin; refine wpList_append (k := kItem) (h := h') (hx := Hp.none) (A := C) (cap := cap) (B := some ⟨wr.heap.size, 0, none⟩) (xs := rawLines ks ams j) (ys := [⟨1 + within x 7, 5⟩]) (by rfl) (.tmp 35) (.tmp 45) 36 (by rfl) 39 i0 (.agg #[.int .i64 0, .int .i64 0]) Try.underlying36 hi hz0 hz1 (by rfl) 16 hz2 j 1 1 HL.out rfl (by rfl) (by rfl) ho.out (hu.sub.of_below (by repeat (first | exact Below.refl _ _ | apply Below.drew | refine Below.alloc ?_ (by simp) _))) (Src.new (heap_new_at (by simp)) rfl) (Hp.none_sub _) (Hp.apart_none _) (by unfold maxLen; omega) (by omega) ?_; intro C' cap' w1 h1 ho1 hu1))
        go_roundw
        case rel => exact ⟨j + 1, cap', C', h1, by omega, by omega, by omega, by go_num, rfl, by rw [HT.out, HR.out]; exact ho1, hu.trans (hu1.flat.before (by repeat (first | exact Below.refl _ _ | apply Below.drew | refine Below.alloc ?_ (by simp) _)))⟩
        case measure => simp [intOf]; omega
    · have hfin : rawLines ks ams j = rawLines ks ams 12 := by
        unfold rawLines
        congr 1
        by_cases h3 : j < 12
        · rw [List.take_of_length_le (by simp; omega), List.take_of_length_le (by simp; omega)]
        · have : j = 12 := by omega
          rw [this]
      rw [hfin] at ho HL
      have RM := refMerge_calls C cap (rawLines ks ams 12) h' wr hu.sub ho.out.sl (rawLines_tame ks ams)
      rw [HL.out] at RM
      have hRT := right_tame ks ams
      have hML := merge_len (rawLines ks ams 12)
      have hMS := raw_sum ks ams
      have hMA := fun x hx => raw_merge_amt (ks := ks) (ams := ams) (x := x) hx
      have HRL : Hid (rightL ks ams = merge (merge (rawLines ks ams 12) ++ [⟨2, -sumAmt (merge (rawLines ks ams 12))⟩])) := rfl
      have hMA' := Lib.hid hMA
      have hMS' := Lib.hid hMS
      clear hfin hMA hMS
      generalize merge (rawLines ks ams 12) = L at *
      have hex : ¬ j < ks.length ∨ (j < ks.length ∧ ¬ j < ams.length) ∨ (j < ks.length ∧ j < ams.length ∧ ¬ (j : Int) < 12) := by omega
      clear hlt
      rcases hex with t1 | ⟨t1, t2⟩ | ⟨t1, t2, t3⟩
      all_goals
        go_wp2_with fail
        refine RM.mono ?_
        rintro e w1 ⟨C1, cap1, h1, rfl, o1, u1⟩
        have U1 : Upd Hp.none h1 w w1 := u1.before hu.below
        go_wp2
        go_loopw [8, 51] (fun s i wr => ∃ (j : Nat), j ≤ L.length ∧ i = .int .i64 j ∧ s = .int .i64 (sumAmt (L.take j)) ∧ Below w1.heap.size w1 wr) (fun _ i _ => L.length - (intOf i).toNat)
        case atStart => exact ⟨0, by omega, rfl, rfl, Below.refl _ _⟩
        case round =>
          obtain ⟨m, hm, rfl, rfl, hb⟩ := hrel
          obtain ⟨q1, q2⟩ := hMS'.out m
          by_cases hmt : m < L.length
          · obtain ⟨x, hx⟩ := some_of_lt hmt
            obtain ⟨b1, o1', e1, c1, c2⟩ := o1.sl.item (u1.sub.of_below hb) hx
            subst e1
            obtain ⟨q3, q4⟩ := hMA'.out x (List.mem_of_getElem? hx.out)
            have i1 : (0 : Int) ≤ (m : Int) := by omega
            have i2 : (m : Int) < (L.length : Int) := by omega
            have HT := Lib.hid (take_next hx)
            go_wp2
            go_roundw
            case rel => exact ⟨m + 1, by omega, by go_num, by rw [HT.out, sumAmt_snoc], hb.alloc hb.size _⟩
            case measure => simp [intOf]; omega
          · obtain rfl : m = L.length := by omega
            rw [List.take_length] at q1 q2 ⊢
            go_wp2_with (at_builtin; refine wpList_append (k := kItem) (h := h1) (hx := Hp.none) (A := C1) (cap := cap1) (B := some ⟨wr.heap.size, 0, none⟩) (xs := L) (ys := [⟨2, -sumAmt L⟩]) (by rfl) (.tmp 60) (.tmp 64) 36 (by rfl) 39 i0 (.agg #[.int .i64 0, .int .i64 0]) Try.underlying36 hi hz0 hz1 (by rfl) 16 hz2 L.length 1 1 rfl rfl (by rfl) (by rfl) o1 ((u1.sub.of_below hb).of_below (by repeat (first | exact Below.refl _ _ | apply Below.drew | refine Below.alloc ?_ (by simp) _))) (Src.new (heap_new_at (by simp)) rfl) (Hp.none_sub _) (Hp.apart_none _) (by unfold maxLen; omega) (by omega) ?_; intro C' cap' w2 h2 ho2 hu2)
            have U2 : Upd Hp.none h2 w w2 := (U1.after hb).trans (hu2.flat.before (by repeat (first | exact Below.refl _ _ | apply Below.drew | refine Below.alloc ?_ (by simp) _)))
            have RM2 := refMerge_calls C' cap' (L ++ [⟨2, -sumAmt L⟩]) h2 w2 U2.sub ho2.sl hRT
            rw [List.length_append, List.length_singleton] at RM2
            refine RM2.mono ?_
            rintro e w3 ⟨C3, cap3, h3, rfl, o3, u3⟩
            go_wp2
            go_ret
            exact ⟨C3, cap3, h3, by rw [HRL.out]; rfl, by rw [HRL.out]; exact o3, u3.before U2.below⟩
end Go.Proofs.Ytnpnndifhlihhaa
