/- The walks of chart: names, is, Name, Accounts. -/
import Derived.Test.YtnpnndifhlihhaaBase
import Derived.Test.YtnpnndifhlihhaaJournalP
import Derived.WalkSpells
namespace Go.Proofs.Ytnpnndifhlihhaa
open Go.RowKit Go.Sl
set_option maxHeartbeats 400000
set_option maxRecDepth 100000
def isB (a : Int) : Bool := decide (1 ≤ a ∧ a ≤ 7)
theorem is_calls (a : Int) (w : World) : Calls Try.prog 82 #[.int .i64 a] w fun e w' => e = .returned (.bool (isB a)) ∧ w = w' := by
  go_enter Try.func82, Try.ntmps82
  go_wp2
  all_goals
    go_ret
    exact ⟨by simp [isB]; omega, rfl⟩
/-- The block of names. -/
def nameCells : Array Value := #[.string ⟨#[]⟩, .string ⟨#[99, 117, 114, 114, 101, 110, 116]⟩, .string ⟨#[112, 97, 121, 97, 98, 108, 101]⟩, .string ⟨#[100, 101, 102, 101, 114, 114, 101, 100]⟩, .string ⟨#[116, 101, 109, 112]⟩, .string ⟨#[108, 111, 115, 115, 101, 115]⟩, .string ⟨#[97, 108, 108, 111, 119, 97, 110, 99, 101]⟩, .string ⟨#[116, 114, 117, 101, 117, 112]⟩]
theorem names_calls (w : World) : Calls Try.prog 81 #[] w fun e w' => e = .returned (.slice (some ⟨w.heap.size, 0, none⟩) 8 8) ∧ w' = w.alloc (.cells nameCells 9) := by
  go_enter Try.func81, Try.ntmps81
  go_wp2
  go_ret
  exact ⟨rfl, rfl⟩
theorem name_no (a : Int) (w : World) (h : isB a = false) : Calls Try.prog 78 #[.int .i64 a] w fun e w' => e = .returned (.string ⟨#[]⟩) ∧ w = w' := by
  go_enter Try.func78, Try.ntmps78
  go_wp2_with (go_at_call 82; refine (is_calls _ _).mono ?_; rintro e w' ⟨rfl, rfl⟩)
  go_ret
  exact ⟨rfl, rfl⟩
def SomeName (w : World) (e : Ending) (w' : World) : Prop := ∃ c l, e = .returned (.string ⟨(c :: l : List UInt8).toArray⟩) ∧ Below w.heap.size w w'
theorem name_yes (a : Int) (w : World) (h : isB a = true) : Calls Try.prog 78 #[.int .i64 a] w (SomeName w) := by
  have ha : 1 ≤ a ∧ a ≤ 7 := by simpa [isB] using h
  have hc : a = 1 ∨ a = 2 ∨ a = 3 ∨ a = 4 ∨ a = 5 ∨ a = 6 ∨ a = 7 := by omega
  clear ha
  rcases hc with rfl | rfl | rfl | rfl | rfl | rfl | rfl
  all_goals
    go_enter Try.func78, Try.ntmps78
    go_wp2_with (first
      | (go_at_call 82; refine (is_calls _ _).mono ?_; rintro e w' ⟨rfl, rfl⟩)
      | (go_at_call 81; refine (names_calls _).mono ?_; rintro e w' ⟨rfl, rfl⟩; unfold nameCells))
    go_ret
    exact ⟨_, _, rfl, (Below.refl _ _).alloc (Nat.le_refl _) _⟩
theorem Try.infoInt : (Try.prog.info? 3).map (fun i => (i.zero, i.size, i.bytes)) = some (some (.int .i64 0), 1, 8) := by kernel_rfl
def accts (j : Nat) : List Int := (List.range (j - 1)).map fun (i : Nat) => (i : Int) + 1
theorem accts_len (j : Nat) : (accts j).length = j - 1 := by simp [accts]
theorem accts_next {j : Nat} (h : 1 ≤ j) : accts (j + 1) = accts j ++ [(j : Int)] := by
  unfold accts
  rw [show j + 1 - 1 = (j - 1) + 1 by omega, List.range_succ, List.map_append, List.map_singleton]
  congr 2; omega
theorem accounts_calls (w : World) : Calls Try.prog 58 #[] w fun e w' => ∃ C cap h', e = .returned (.slice C 7 cap) ∧ Ow kInt h' C cap [1, 2, 3, 4, 5, 6, 7] ∧ Upd Hp.none h' w w' := by
  obtain ⟨i0, hi, hz0, hz1, hz2⟩ := info_parts Try.infoInt
  go_enter Try.func58, Try.ntmps58
  go_wp2_with (go_at_call 81; refine (names_calls _).mono ?_; rintro e w' ⟨rfl, rfl⟩)
  go_loopw [1, 5] (fun v i wr => ∃ (j cap : Nat) (C : Option Addr) (h' : Hp), j ≤ 8 ∧ i = .int .i64 j ∧ v = .slice C (j - 1) cap ∧ Hid (Ow kInt h' C cap (accts j)) ∧ Upd Hp.none h' w wr) (fun _ i _ => 8 - (intOf i).toNat)
  case atStart => exact ⟨0, 0, none, Hp.none, by omega, rfl, rfl, Ow.none _ _, Upd.of_below ((Below.refl _ _).alloc (Nat.le_refl _) _)⟩
  case round =>
    obtain ⟨j, cap, C, h', hj, rfl, rfl, ho, hu⟩ := hrel
    by_cases hlt : j < 8
    · have i1 : (0 : Int) ≤ (j : Int) := by omega
      have i2 : (j : Int) < 8 := by omega
      by_cases h0 : j = 0
      · subst h0
        have hb : isB ((0 : Nat) : Int) = false := by decide
        go_wp2_with (go_at_call 82; refine (is_calls _ _).mono ?_; rintro e w' ⟨rfl, rfl⟩)
        go_roundw
        case rel => exact ⟨1, cap, C, h', by omega, rfl, rfl, ho, hu⟩
        case measure => simp [intOf]
      · have HL := Lib.hid (accts_len j)
        have HT := Lib.hid (accts_next (j := j) (by omega))
        have hj1 : 1 ≤ j := by omega
        obtain ⟨m, rfl⟩ : ∃ m, j = m + 1 := ⟨j - 1, by omega⟩
        clear h0
        simp only [Nat.add_sub_cancel] at HL
        have hb : isB ((m : Int) + 1) = true := by simp [isB]; omega
        go_wp2_with (first
          | (go_at_call 82; refine (is_calls _ _).mono ?_; rintro e w' ⟨rfl, rfl⟩)
          | (at_builtin; refine wpList_append (k := kInt) (h := h') (hx := Hp.none) (A := C) (cap := cap) (B := some ⟨wr.heap.size, 0, none⟩) (xs := accts (m + 1)) (ys := [(m : Int) + 1]) (by rfl) (.tmp 10) (.tmp 12) 22 (by rfl) 3 i0 (.int .i64 0) Try.underlying22 hi hz0 hz1 (by rfl) 8 hz2 m 1 1 HL.out rfl (by rfl) (by rfl) ho.out (hu.sub.of_below (by repeat (first | exact Below.refl _ _ | apply Below.drew | refine Below.alloc ?_ (by simp) _))) (Src.new (heap_new_at (by simp)) rfl) (Hp.none_sub _) (Hp.apart_none _) (by unfold maxLen; omega) (by omega) ?_; intro C' cap' w1 h1 ho1 hu1))
        go_roundw
        case rel => exact ⟨m + 2, cap', C', h1, by omega, by go_num, rfl, by rw [HT.out]; exact (by simpa using ho1 : Ow kInt h1 C' cap' (accts (m + 1) ++ [((m + 1 : Nat) : Int)])), hu.trans (hu1.flat.before (by repeat (first | exact Below.refl _ _ | apply Below.drew | refine Below.alloc ?_ (by simp) _)))⟩
        case measure => simp [intOf]; omega
    · obtain rfl : j = 8 := by omega
      go_wp2
      go_ret
      exact ⟨C, cap, h', rfl, ho.out, hu⟩
end Go.Proofs.Ytnpnndifhlihhaa
