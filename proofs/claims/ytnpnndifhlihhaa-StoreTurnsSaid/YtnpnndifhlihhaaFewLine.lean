/- journal.few. -/
import Derived.Test.YtnpnndifhlihhaaAnyLine
import Derived.Test.YtnpnndifhlihhaaJournalP
namespace Go.Proofs.Ytnpnndifhlihhaa
open Go.RowKit Go.Sl
set_option maxHeartbeats 400000
set_option maxRecDepth 100000
/-- journal.few's own predicate. -/
theorem few1_calls (x : SItem) (W : World) : Calls Try.prog 80 #[.agg #[.int .i64 x.kind, .int .i64 x.amt]] W fun e W' => e = .returned (.bool (!money x.amt)) ∧ Below W.heap.size W W' := by
  go_enter Try.func80, Try.ntmps80
  go_wp2_with (go_at_call 65; refine (money_calls _ _).mono ?_; rintro e w' ⟨rfl, rfl⟩)
  go_ret
  exact ⟨by simp, (Below.refl _ _).alloc (Nat.le_refl _) _⟩
theorem few_calls (A : Option Addr) (ca : Nat) (xs : List SItem) (h : Hp) (w : World) (hs : h.sub w) (sx : Sl kItem h A ca xs) :
    Calls Try.prog 57 #[.slice A xs.length ca] w fun e w' => e = .returned (.bool (fewB xs)) ∧ Below w.heap.size w w' := by
  have m1 := sx.small
  by_cases hl : xs.length ≤ 40
  · have i1 : decide ((xs.length : Int) ≤ 40) = true := by simp; omega
    have HB : Hid (fewB xs = !(xs.any fun x => !money x.amt)) := by
      unfold Hid fewB; rw [decide_eq_true hl, Bool.true_and]; simp [List.not_any_eq_all_not]
    have C := containsFunc_line 80 #[] (enters_of Try.func80 (by kernel_rfl) rfl) (fun x => !money x.amt) A ca xs h w hs sx (fun x W _ => few1_calls x W)
    clear hl
    generalize (xs.any fun x => !money x.amt) = b at *
    go_enter Try.func57, Try.ntmps57
    go_wp2_with fail
    refine C.mono ?_
    rintro e w1 ⟨rfl, b1⟩
    go_wp2
    go_ret
    exact ⟨by rw [HB.out]; rfl, b1⟩
  · have i1 : decide ((xs.length : Int) ≤ 40) = false := by simp; omega
    have HB : Hid (fewB xs = false) := by unfold Hid fewB; rw [decide_eq_false hl, Bool.false_and]
    clear hl
    go_enter Try.func57, Try.ntmps57
    go_wp2_with fail
    go_ret
    exact ⟨by rw [HB.out]; rfl, Below.refl _ _⟩
end Go.Proofs.Ytnpnndifhlihhaa
