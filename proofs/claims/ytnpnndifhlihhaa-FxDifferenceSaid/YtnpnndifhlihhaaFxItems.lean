/- law25.items: a list of items from two lists of numbers. -/
import Derived.Test.YtnpnndifhlihhaaBase
import Derived.Test.YtnpnndifhlihhaaArgs
import Derived.Deep.RegionHeld3
namespace Go.Proofs.Ytnpnndifhlihhaa
open Go.RowKit Go.Sl
set_option maxHeartbeats 400000
set_option maxRecDepth 100000
theorem Try.infoItem : (Try.prog.info? 27).map (fun i => (i.zero, i.size, i.bytes)) = some (some (.agg #[.int .i64 0, .int .i64 0]), 2, 16) := by kernel_rfl
/-- Items of numbers. -/
def mkItems (ks ams : List Int) (most : Nat) : List SItem := ((ks.zip ams).take most).map fun p => ⟨within p.1 9, amount p.2⟩
theorem items_calls (A B : Option Addr) (ca cb : Nat) (ks ams : List Int) (most : Nat) (h k : Hp) (w : World) (hs : h.sub w) (qs : k.sub w) (sx : Sl kInt h A ca ks) (sy : Sl kInt k B cb ams)
    (hw : ∀ n ∈ ams, I64 n) (hm : most ≤ 1000) :
    Calls Try.prog 15 #[.slice A ks.length ca, .slice B ams.length cb, .int .i64 most] w fun e w' => ∃ C cap h', e = .returned (.slice C (mkItems ks ams most).length cap) ∧ Ow kItem h' C cap (mkItems ks ams most) ∧ Upd Hp.none h' w w' := by
  obtain ⟨i0, hi, hz0, hz1, hz2⟩ := info_parts Try.infoItem
  have m1 := sx.small
  have m2 := sy.small
  go_enter Try.func15, Try.ntmps15
  go_wp2
  go_loopw [7, 8] (fun v i wr => ∃ (j cap : Nat) (C : Option Addr) (h' : Hp), j ≤ ks.length ∧ j ≤ ams.length ∧ j ≤ most ∧ i = .int .i64 j ∧ v = .slice C (mkItems ks ams j).length cap ∧ Hid (Ow kItem h' C cap (mkItems ks ams j)) ∧ Upd Hp.none h' w wr) (fun _ i _ => ks.length - (intOf i).toNat)
  case atStart => exact ⟨0, 0, none, Hp.none, by omega, by omega, by omega, rfl, rfl, Ow.none _ _, Upd.of_below (Below.refl _ _)⟩
  case round =>
    obtain ⟨j, cap, C, h', l1, l2, l3, rfl, rfl, ho, hu⟩ := hrel
    by_cases hlt : j < ks.length ∧ j < ams.length ∧ j < most
    · obtain ⟨t1, t2, t3⟩ := hlt
      obtain ⟨x, hx⟩ := some_of_lt t1
      obtain ⟨y, hy⟩ := some_of_lt t2
      obtain ⟨b1, o1, rfl, c0⟩ := sx.int hs hx
      obtain ⟨b2, o2, rfl, d0⟩ := sy.int qs hy
      have g1 := World.block_lt_of_cell? w _ c0
      have g2 := World.block_lt_of_cell? w _ d0
      have c1 := (hu.below.cell g1).trans c0
      have d1 := (hu.below.cell g2).trans d0
      have n1 := Lib.hid (hu.new_none g1)
      have n2 := Lib.hid (hu.new_none g2)
      clear c0 d0
      have hyw := hw y (List.mem_of_getElem? hy.out)
      have i1 : (0 : Int) ≤ (j : Int) := by omega
      have i2 : (j : Int) < (ks.length : Int) := by omega
      have i3 : (j : Int) < (ams.length : Int) := by omega
      have i4 : (j : Int) < (most : Int) := by omega
      have hstep : mkItems ks ams (j + 1) = mkItems ks ams j ++ [⟨within x 9, amount y⟩] := by
        unfold mkItems
        rw [take_next (x := (x, y)) (List.getElem?_zip_eq_some.2 ⟨hx.out, hy.out⟩), List.map_append]
        rfl
      have hl : (mkItems ks ams j).length = j := by simp [mkItems]; omega
      have HL := Lib.hid hl
      have HS := Lib.hid hstep
      clear hl hstep
      go_wp2
      go_region_held3 (fun w' => w'.cell? ⟨b1, o1 + j, none⟩ = some (.int .i64 x) ∧ w'.cell? ⟨b2, o2 + j, none⟩ = some (.int .i64 y))
        (first
          | go_keep
          | (go_split_ands; exact ⟨hu1.flat.cell (by assumption) n1.out, hu1.flat.cell (by assumption) n2.out⟩))
        (first
          | (go_at_call 16; refine (within_calls _ _ _ (by omega) (by omega)).mono ?_; rintro e w' ⟨rfl, rfl⟩)
          | (go_at_call 53; refine (amount_calls _ hyw _).mono ?_; rintro e w' ⟨rfl, rfl⟩)
          | (refine step_append (k := kItem) (h := h') (hx := Hp.none) (A := C) (cap := cap) (B := some ⟨wr.heap.size, 0, none⟩) (xs := mkItems ks ams j) (ys := [⟨within x 9, amount y⟩]) (by rfl) (.tmp 26) (.tmp 38) 23 (by rfl) 27 i0 (.agg #[.int .i64 0, .int .i64 0]) Try.underlying23 hi hz0 hz1 (by rfl) 16 hz2 (mkItems ks ams j).length 1 1 rfl rfl (by rfl) (by rfl) ho.out
              (hu.sub.of_below (by repeat (first | exact Below.refl _ _ | apply Below.drew | refine Below.alloc ?_ (by simp) _))) (Src.new (heap_new_at (by simp)) rfl) (Hp.none_sub _) (Hp.apart_none _) (by rw [HL.out]; unfold maxLen; omega) (by rw [HL.out]; omega) ?_; intro C' cap' w1 h1 ho1 hu1))
      go_wp2
      go_roundw
      case rel => exact ⟨j + 1, cap', C', h1, by omega, by omega, by omega, by go_num, by rw [HS.out]; simp, by rw [HS.out]; exact ho1, hu.trans (hu1.flat.before (by repeat (first | exact Below.refl _ _ | apply Below.drew | refine Below.alloc ?_ (by simp) _)))⟩
      case measure => simp [intOf]; omega
    · have hfin : mkItems ks ams most = mkItems ks ams j := by
        unfold mkItems
        congr 1
        by_cases h3 : j < most
        · rw [List.take_of_length_le (by simp; omega), List.take_of_length_le (by simp; omega)]
        · have : j = most := by omega
          rw [this]
      have HF := Lib.hid hfin
      clear hfin
      by_cases t1 : j < ks.length
      · by_cases t2 : j < ams.length
        · have t3 : ¬ j < most := fun h => hlt ⟨t1, t2, h⟩
          clear hlt
          go_wp2
          go_ret
          exact ⟨C, cap, h', by rw [HF.out]; rfl, by rw [HF.out]; exact ho, hu⟩
        · clear hlt
          go_wp2
          go_ret
          exact ⟨C, cap, h', by rw [HF.out]; rfl, by rw [HF.out]; exact ho, hu⟩
      · clear hlt
        go_wp2
        go_ret
        exact ⟨C, cap, h', by rw [HF.out]; rfl, by rw [HF.out]; exact ho, hu⟩
end Go.Proofs.Ytnpnndifhlihhaa
