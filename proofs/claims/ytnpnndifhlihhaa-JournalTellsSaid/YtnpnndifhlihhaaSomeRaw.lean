/- The walk of law06.Some: some lines, whichever. -/
import Derived.Test.YtnpnndifhlihhaaSome
import Derived.Test.YtnpnndifhlihhaaFull
import Derived.Deep.RegionHeld3
import Derived.BigRegion
namespace Go.Proofs.Ytnpnndifhlihhaa
open Go.RowKit Go.Sl
set_option maxHeartbeats 1000000
set_option maxRecDepth 100000
/-- Lines of numbers, whichever. -/
def anyLines (ks ams : List Int) (n : Nat) : List SItem := ((ks.zip ams).take n).map fun p => ⟨within p.1 10 - 1, amount p.2⟩
/-- Some lines were made, whichever. -/
def SomeLines (w : World) (e : Ending) (w' : World) : Prop := ∃ L C cap h', List.length L ≤ 44 ∧ e = .returned (.slice C L.length cap) ∧ Ow kItem h' C cap L ∧ Upd Hp.none h' w w'
theorem SomeLines.mk {w w' : World} {e : Ending} (L : List SItem) (C : Option Addr) (cap : Nat) (h' : Hp) (h1 : L.length ≤ 44) (h2 : e = .returned (.slice C L.length cap)) (h3 : Ow kItem h' C cap L) (h4 : Upd Hp.none h' w w') : SomeLines w e w' := ⟨L, C, cap, h', h1, h2, h3, h4⟩
theorem someRaw_calls (A B : Option Addr) (ca cb : Nat) (ks ams : List Int) (at_ what : Int) (h k : Hp) (w : World) (hs : h.sub w) (qs : k.sub w) (sx : Sl kInt h A ca ks) (sy : Sl kInt k B cb ams)
    (hw : ∀ n ∈ ams, I64 n) :
    Calls Try.prog 23 #[.slice A ks.length ca, .slice B ams.length cb, .int .i64 at_, .int .i64 what, .bool true] w fun e w' => SomeLines w e w' := by
  obtain ⟨i0, hi, hz0, hz1, hz2⟩ := info_parts Try.infoLine
  have m1 := sx.small
  have m2 := sy.small
  go_enter Try.func23, Try.ntmps23
  go_wp2
  go_loopw [11, 12] (fun v i wr => ∃ (j cap : Nat) (C : Option Addr) (h' : Hp), j ≤ ks.length ∧ j ≤ ams.length ∧ j ≤ 44 ∧ i = .int .i64 j ∧ v = .slice C j cap ∧ Hid (Ow kItem h' C cap (anyLines ks ams j)) ∧ Upd Hp.none h' w wr) (fun _ i _ => ks.length - (intOf i).toNat)
  case atStart => exact ⟨0, 0, none, Hp.none, by omega, by omega, by omega, rfl, rfl, Ow.none _ _, Upd.of_below (Below.refl _ _)⟩
  case round =>
    obtain ⟨j, cap, C, h', l1, l2, l3, rfl, rfl, ho, hu⟩ := hrel
    have HL : Hid ((anyLines ks ams j).length = j) := by unfold Hid; simp [anyLines]; omega
    by_cases hlt : j < ks.length ∧ j < ams.length ∧ j < 44
    · obtain ⟨t1, t2, t3⟩ := hlt
      obtain ⟨x, hx⟩ := some_of_lt t1
      obtain ⟨y, hy⟩ := some_of_lt t2
      obtain ⟨b1, o1, rfl, c0⟩ := sx.int hs hx
      obtain ⟨b2, o2, rfl, d0⟩ := sy.int qs hy
      have g1 := World.block_lt_of_cell? w _ c0
      have g2 := World.block_lt_of_cell? w _ d0
      have c1 := (hu.below.cell g1).trans c0
      have d1 := (hu.below.cell g2).trans d0
      have n1 := Lib.hid (hu.new_none g1)
      have n2 := Lib.hid (hu.new_none g2)
      clear c0 d0
      have hyw := hw y (List.mem_of_getElem? hy.out)
      have i1 : (0 : Int) ≤ (j : Int) := by omega
      have i2 : (j : Int) < (ks.length : Int) := by omega
      have i3 : (j : Int) < (ams.length : Int) := by omega
      have i4 : (j : Int) < 44 := by omega
      have r1 := within_lo x (n := 10) (by omega)
      have r2 := within_hi x (n := 10) (by omega)
      have CW := fun W : World => within_calls x 10 W (by omega) (by omega)
      have HS : Hid (anyLines ks ams (j + 1) = anyLines ks ams j ++ [⟨within x 10 - 1, amount y⟩]) := by
        unfold Hid anyLines
        rw [take_next (x := (x, y)) (List.getElem?_zip_eq_some.2 ⟨hx.out, hy.out⟩), List.map_append]
        rfl
      have hwp : IntKind.i64.wrap (within x 10 - 1) = within x 10 - 1 := by rw [IntKind.wrap_i64]; omega
      clear r1 r2
      go_wp2
      go_region_held3 (fun w' => w'.cell? ⟨b1, o1 + j, none⟩ = some (.int .i64 x) ∧ w'.cell? ⟨b2, o2 + j, none⟩ = some (.int .i64 y))
        (first | go_keep | (go_split_ands; exact ⟨hu1.flat.cell (by assumption) n1.out, hu1.flat.cell (by assumption) n2.out⟩))
        (first | (go_at_call 16; refine (CW _).mono ?_; rintro e w' ⟨rfl, rfl⟩) | (go_at_call 53; refine (amount_calls _ hyw _).mono ?_; rintro e w' ⟨rfl, rfl⟩) | (refine step_append (k := kItem) (h := h') (hx := Hp.none) (A := C) (cap := cap) (B := some ⟨wr.heap.size, 0, none⟩) (xs := anyLines ks ams j) (ys := [⟨within x 10 - 1, amount y⟩]) (by rfl) (.tmp 32) (.tmp 45) 36 (by rfl) 39 i0 (.agg #[.int .i64 0, .int .i64 0]) Try.underlying36 hi hz0 hz1 (by rfl) 16 hz2 j 1 1 HL.out rfl (by rfl) (by rfl) ho.out (hu.sub.of_below (by repeat (first | exact Below.refl _ _ | apply Below.drew | refine Below.alloc ?_ (by simp) _))) (Src.new (heap_new_at (by simp)) rfl) (Hp.none_sub _) (Hp.apart_none _) (by unfold maxLen; omega) (by omega) ?_; intro C' cap' w1 h1 ho1 hu1))
      go_wp2
      go_roundw
      case rel => exact ⟨j + 1, cap', C', h1, by omega, by omega, by omega, by go_num, rfl, by rw [HS.out]; exact ho1, hu.trans (hu1.flat.before (by repeat (first | exact Below.refl _ _ | apply Below.drew | refine Below.alloc ?_ (by simp) _)))⟩
      case measure => simp [intOf]; omega
    · have hex : ¬ j < ks.length ∨ (j < ks.length ∧ ¬ j < ams.length) ∨ (j < ks.length ∧ j < ams.length ∧ ¬ (j : Int) < 44) := by omega
      clear hlt
      rcases hex with t1 | ⟨t1, t2⟩ | ⟨t1, t2, t3⟩
      all_goals
        go_wp2
        go_ret
        exact .mk (anyLines ks ams j) C cap h' (by rw [HL.out]; omega) (by rw [HL.out]; rfl) ho.out hu
end Go.Proofs.Ytnpnndifhlihhaa
