/- slices.IndexFunc and ContainsFunc over lines, whatever the predicate; journal.few. -/
import Derived.Test.YtnpnndifhlihhaaBase
import Derived.Test.YtnpnndifhlihhaaJournalP
import Derived.Shelf.Abstract
namespace Go.Proofs.Ytnpnndifhlihhaa
open Go.RowKit Go.Sl
set_option maxHeartbeats 400000
set_option maxRecDepth 100000
/-- Where a predicate first holds; -1: nowhere. -/
def idx {α : Type} (p : α → Bool) (xs : List α) : Int := if xs.any p then (xs.findIdx p : Nat) else -1
theorem idx_any {α : Type} (p : α → Bool) (xs : List α) : decide (0 ≤ idx p xs) = xs.any p := by
  unfold idx; split <;> rename_i h <;> simp [h]
theorem idx_hit {α : Type} {p : α → Bool} {xs : List α} {j : Nat} {x : α} (h : ∀ y ∈ xs.take j, p y = false) (hx : xs[j]? = some x) (hp : p x = true) : idx p xs = j := by
  have hj := (List.getElem?_eq_some_iff.1 hx)
  have ha : xs.any p = true := List.any_eq_true.2 ⟨x, List.mem_of_getElem? hx, hp⟩
  simp only [idx, ha, if_true]
  congr 1
  refine (List.findIdx_eq hj.1).2 ⟨by rw [hj.2]; exact hp, fun i hi => ?_⟩
  have hil : i < xs.length := by have := hj.1; omega
  have := h xs[i] (by rw [List.mem_take_iff_getElem]; exact ⟨i, by omega, rfl⟩)
  simpa using this
theorem idx_miss {α : Type} {p : α → Bool} {xs : List α} (h : ∀ y ∈ xs, p y = false) : idx p xs = -1 := by
  have : xs.any p = false := by rw [List.any_eq_false]; intro y hy; simp [h y hy]
  simp [idx, this]
theorem indexFunc_line (g : FuncId) (lb : Array Value) (eg : Enters Try.prog g) (p : SItem → Bool) (A : Option Addr) (ca : Nat) (xs : List SItem) (h : Hp) (w : World) (hs : h.sub w) (sx : Sl kItem h A ca xs)
    (hp : ∀ (x : SItem) (W : World), Below w.heap.size w W → Calls Try.prog g (#[.agg #[.int .i64 x.kind, .int .i64 x.amt]] ++ lb) W fun e W' => e = .returned (.bool (p x)) ∧ Below W.heap.size W W') :
    Calls Try.prog 90 #[.slice A xs.length ca, .func (.func g) #[] lb] w fun e w' => e = .returned (.int .i64 (idx p xs)) ∧ Below w.heap.size w w' := by
  have m1 := sx.small
  have eg' := fun (args : Array Value) (w : World) => eg args w
  go_enter Try.func90, Try.ntmps90
  go_wp2
  go_loopw [8] (fun i wr => ∃ (j : Nat), j ≤ xs.length ∧ i = .int .i64 j ∧ Hid (∀ y ∈ xs.take j, p y = false) ∧ Below w.heap.size w wr) (fun i _ => xs.length - (intOf i).toNat)
  case atStart => exact ⟨0, by omega, rfl, by unfold Hid; simp, Below.refl _ _⟩
  case round =>
    obtain ⟨j, hj, rfl, hn, hb⟩ := hrel
    by_cases hlt : j < xs.length
    · obtain ⟨x, hx⟩ := some_of_lt hlt
      obtain ⟨b1, o1, rfl, c1, c2⟩ := sx.item (hs.of_below hb) hx
      have i1 : (0 : Int) ≤ (j : Int) := by omega
      have i2 : (j : Int) < (xs.length : Int) := by omega
      have hpx := Lib.hid (hp x wr hb)
      by_cases hpp : p x = true
      · have HF : Hid (idx p xs = j) := idx_hit hn.out hx.out hpp
        go_wp2_with fail
        refine hpx.out.mono ?_
        rintro e w1 ⟨rfl, b1⟩
        go_wp2
        go_ret
        exact ⟨by rw [HF.out]; rfl, hb.trans (b1.mono hb.size)⟩
      · have hpf : p x = false := by simpa using hpp
        have HN : Hid (∀ y ∈ xs.take (j + 1), p y = false) := by
          intro y hy
          rw [take_next hx] at hy
          rcases List.mem_append.1 hy with hy | hy
          · exact hn.out y hy
          · simp at hy; subst hy; exact hpf
        clear hpp
        go_wp2_with fail
        refine hpx.out.mono ?_
        rintro e w1 ⟨rfl, b1⟩
        go_wp2
        go_roundw
        case rel => exact ⟨j + 1, by omega, by go_num, HN, hb.trans (b1.mono hb.size)⟩
        case measure => simp [intOf]; omega
    · have HF : Hid (idx p xs = -1) := idx_miss (fun y hy => hn.out y (by rw [List.take_of_length_le (by omega)]; exact hy))
      go_wp2
      go_ret
      exact ⟨by rw [HF.out]; rfl, hb⟩
theorem containsFunc_line (g : FuncId) (lb : Array Value) (eg : Enters Try.prog g) (p : SItem → Bool) (A : Option Addr) (ca : Nat) (xs : List SItem) (h : Hp) (w : World) (hs : h.sub w) (sx : Sl kItem h A ca xs)
    (hp : ∀ (x : SItem) (W : World), Below w.heap.size w W → Calls Try.prog g (#[.agg #[.int .i64 x.kind, .int .i64 x.amt]] ++ lb) W fun e W' => e = .returned (.bool (p x)) ∧ Below W.heap.size W W') :
    Calls Try.prog 79 #[.slice A xs.length ca, .func (.func g) #[] lb] w fun e w' => e = .returned (.bool (xs.any p)) ∧ Below w.heap.size w w' := by
  have C := indexFunc_line g lb eg p A ca xs h w hs sx hp
  have HI := Lib.hid (idx_any p xs)
  go_enter Try.func79, Try.ntmps79
  go_wp2_with fail
  refine C.mono ?_
  rintro e w1 ⟨rfl, b1⟩
  go_wp2
  go_ret
  exact ⟨by rw [← HI.out]; rfl, b1⟩
/-- journal.few's own predicate. -/
theorem few1_calls (x : SItem) (W : World) : Calls Try.prog 80 #[.agg #[.int .i64 x.kind, .int .i64 x.amt]] W fun e W' => e = .returned (.bool (!money x.amt)) ∧ Below W.heap.size W W' := by
  go_enter Try.func80, Try.ntmps80
  go_wp2_with (go_at_call 65; refine (money_calls _ _).mono ?_; rintro e w' ⟨rfl, rfl⟩)
  go_ret
  exact ⟨by simp, (Below.refl _ _).alloc (Nat.le_refl _) _⟩
theorem few_calls (A : Option Addr) (ca : Nat) (xs : List SItem) (h : Hp) (w : World) (hs : h.sub w) (sx : Sl kItem h A ca xs) :
    Calls Try.prog 57 #[.slice A xs.length ca] w fun e w' => e = .returned (.bool (fewB xs)) ∧ Below w.heap.size w w' := by
  have m1 := sx.small
  by_cases hl : xs.length ≤ 40
  · have i1 : decide ((xs.length : Int) ≤ 40) = true := by simp; omega
    have HB : Hid (fewB xs = !(xs.any fun x => !money x.amt)) := by
      unfold Hid fewB; rw [decide_eq_true hl, Bool.true_and]; simp [List.not_any_eq_all_not]
    have C := containsFunc_line 80 #[] (enters_of Try.func80 (by kernel_rfl) rfl) (fun x => !money x.amt) A ca xs h w hs sx (fun x W _ => few1_calls x W)
    clear hl
    generalize (xs.any fun x => !money x.amt) = b at *
    go_enter Try.func57, Try.ntmps57
    go_wp2_with fail
    refine C.mono ?_
    rintro e w1 ⟨rfl, b1⟩
    go_wp2
    go_ret
    exact ⟨by rw [HB.out]; rfl, b1⟩
  · have i1 : decide ((xs.length : Int) ≤ 40) = false := by simp; omega
    have HB : Hid (fewB xs = false) := by unfold Hid fewB; rw [decide_eq_false hl, Bool.false_and]
    clear hl
    go_enter Try.func57, Try.ntmps57
    go_wp2_with fail
    go_ret
    exact ⟨by rw [HB.out]; rfl, Below.refl _ _⟩
end Go.Proofs.Ytnpnndifhlihhaa
