/- Where a predicate first holds. No program is named here. -/
import Derived.Test.YtnpnndifhlihhaaKinds
namespace Go.Sl
/-- Where a predicate first holds; -1: nowhere. -/
def idx {α : Type} (p : α → Bool) (xs : List α) : Int := if xs.any p then (xs.findIdx p : Nat) else -1
theorem idx_any {α : Type} (p : α → Bool) (xs : List α) : decide (0 ≤ idx p xs) = xs.any p := by
  unfold idx; split <;> rename_i h <;> simp [h]
theorem idx_hit {α : Type} {p : α → Bool} {xs : List α} {j : Nat} {x : α} (h : ∀ y ∈ xs.take j, p y = false) (hx : xs[j]? = some x) (hp : p x = true) : idx p xs = j := by
  have hj := (List.getElem?_eq_some_iff.1 hx)
  have ha : xs.any p = true := List.any_eq_true.2 ⟨x, List.mem_of_getElem? hx, hp⟩
  simp only [idx, ha, if_true]
  congr 1
  refine (List.findIdx_eq hj.1).2 ⟨by rw [hj.2]; exact hp, fun i hi => ?_⟩
  have hil : i < xs.length := by have := hj.1; omega
  have := h xs[i] (by rw [List.mem_take_iff_getElem]; exact ⟨i, by omega, rfl⟩)
  simpa using this
theorem idx_miss {α : Type} {p : α → Bool} {xs : List α} (h : ∀ y ∈ xs, p y = false) : idx p xs = -1 := by
  have : xs.any p = false := by rw [List.any_eq_false]; intro y hy; simp [h y hy]
  simp [idx, this]
end Go.Sl
