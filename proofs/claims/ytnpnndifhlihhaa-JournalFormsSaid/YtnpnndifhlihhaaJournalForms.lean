/- The walk of the law JournalForms. -/
import Derived.Test.YtnpnndifhlihhaaWakes06
import Derived.Deep.QuietTactic
import Derived.BigQuiet
namespace Go.Proofs.Ytnpnndifhlihhaa
open Go.RowKit Go.Sl
set_option maxHeartbeats 400000
set_option maxRecDepth 100000
def lc (l : List SItem) : Obj := .cells (l.flatMap SItem.cells).toArray 39
/-- The rows of the table: a list, and whether it is right. -/
def formL (n : Int) : Nat → List SItem
  | 0 => []
  | 1 => [⟨1, n⟩, ⟨2, -n⟩]
  | 2 => [⟨2, -n⟩, ⟨1, n⟩]
  | 3 => [⟨1, n⟩, ⟨1, -n⟩]
  | 4 => [⟨1, n⟩]
  | 5 => [⟨0, n⟩, ⟨2, -n⟩]
  | 6 => [⟨7, n⟩, ⟨8, -n⟩]
  | 7 => [⟨1, n⟩, ⟨2, -n⟩, ⟨3, 0⟩]
  | 8 => [⟨1, 100000000000 + n⟩, ⟨2, -100000000000 - n⟩]
  | _ => [⟨3, -100000000000⟩, ⟨7, 100000000000⟩]
def formOk : Nat → Bool
  | 0 => true
  | 1 => true
  | 9 => true
  | _ => false
theorem form_check (n : Int) (h1 : 1 ≤ n) (h2 : n ≤ 100000000000) : ∀ j, j < 10 → ((checkE (formL n j) == 0) = formOk j) := by
  have hm : money n = true := by simp [money]; omega
  have hm' : money (-n) = true := by simp [money]; omega
  have hx : money (100000000000 + n) = false := by simp [money]; omega
  intro j hj
  have : j = 0 ∨ j = 1 ∨ j = 2 ∨ j = 3 ∨ j = 4 ∨ j = 5 ∨ j = 6 ∨ j = 7 ∨ j = 8 ∨ j = 9 := by omega
  rcases this with rfl | rfl | rfl | rfl | rfl | rfl | rfl | rfl | rfl | rfl
  · rfl
  · have : checkB (formL n 1) = true := by simp [checkB, formL, risingB, lineB, debs, cres, deb, cre, hm, hm']; omega
    simp [checkE, this, formOk]
  · have : checkB (formL n 2) = false := by simp [checkB, formL, risingB, lineB, debs, cres, deb, cre, hm, hm']
    simp [checkE, this, formOk]
  · have : checkB (formL n 3) = false := by simp [checkB, formL, risingB, lineB, debs, cres, deb, cre, hm, hm']
    simp [checkE, this, formOk]
  · have : checkB (formL n 4) = false := by simp [checkB, formL, risingB, lineB, debs, cres, deb, cre, hm]; omega
    simp [checkE, this, formOk]
  · have : checkB (formL n 5) = false := by simp [checkB, formL, risingB, lineB]
    simp [checkE, this, formOk]
  · have : checkB (formL n 6) = false := by simp [checkB, formL, risingB, lineB]
    simp [checkE, this, formOk]
  · have : checkB (formL n 7) = false := by simp [checkB, formL, risingB, lineB]
    simp [checkE, this, formOk]
  · have : checkB (formL n 8) = false := by simp [checkB, formL, risingB, lineB, hx]
    simp [checkE, this, formOk]
  · rfl
/-- What the table's blocks hold. -/
structure Tab (B : Nat) (n : Int) (w : World) : Prop where
  l1 : w.heap[B]? = some (lc (formL n 1))
  l2 : w.heap[B + 1]? = some (lc (formL n 2))
  l3 : w.heap[B + 1 + 1]? = some (lc (formL n 3))
  l4 : w.heap[B + 1 + 1 + 1]? = some (lc (formL n 4))
  l5 : w.heap[B + 1 + 1 + 1 + 1]? = some (lc (formL n 5))
  l6 : w.heap[B + 1 + 1 + 1 + 1 + 1]? = some (lc (formL n 6))
  l7 : w.heap[B + 1 + 1 + 1 + 1 + 1 + 1]? = some (lc (formL n 7))
  l8 : w.heap[B + 1 + 1 + 1 + 1 + 1 + 1 + 1]? = some (lc (formL n 8))
  l9 : w.heap[B + 1 + 1 + 1 + 1 + 1 + 1 + 1 + 1]? = some (lc (formL n 9))
  t : w.heap[B + 1 + 1 + 1 + 1 + 1 + 1 + 1 + 1 + 1]? = some (.cells #[.slice none 0 0, .bool true, .slice (some ⟨B, 0, none⟩) 2 2, .bool true, .slice (some ⟨B + 1, 0, none⟩) 2 2, .bool false, .slice (some ⟨B + 1 + 1, 0, none⟩) 2 2, .bool false,
    .slice (some ⟨B + 1 + 1 + 1, 0, none⟩) 1 1, .bool false, .slice (some ⟨B + 1 + 1 + 1 + 1, 0, none⟩) 2 2, .bool false, .slice (some ⟨B + 1 + 1 + 1 + 1 + 1, 0, none⟩) 2 2, .bool false, .slice (some ⟨B + 1 + 1 + 1 + 1 + 1 + 1, 0, none⟩) 3 3, .bool false,
    .slice (some ⟨B + 1 + 1 + 1 + 1 + 1 + 1 + 1, 0, none⟩) 2 2, .bool false, .slice (some ⟨B + 1 + 1 + 1 + 1 + 1 + 1 + 1 + 1, 0, none⟩) 2 2, .bool true] 37)
theorem Tab.keep {B : Nat} {n : Int} {w w' : World} (h : Tab B n w) (b : Below w.heap.size w w') : Tab B n w' := by
  have k : ∀ i o, w.heap[i]? = some o → w'.heap[i]? = some o := fun i o e => (b.block i (Array.getElem?_eq_some_iff.1 e).1).trans e
  exact ⟨k _ _ h.l1, k _ _ h.l2, k _ _ h.l3, k _ _ h.l4, k _ _ h.l5, k _ _ h.l6, k _ _ h.l7, k _ _ h.l8, k _ _ h.l9, k _ _ h.t⟩
/-- One round of the table's loop. -/
theorem Tab.round {B : Nat} {n : Int} {w : World} (h : Tab B n w) (j : Nat) (hj : j < 10) :
    ∃ A, w.cell? ⟨B + 1 + 1 + 1 + 1 + 1 + 1 + 1 + 1 + 1, j * 2, none⟩ = some (.slice A (formL n j).length (formL n j).length) ∧ w.cell? ⟨B + 1 + 1 + 1 + 1 + 1 + 1 + 1 + 1 + 1, j * 2 + 1, none⟩ = some (.bool (formOk j)) ∧
      Sl kItem (Hp.all w) A (formL n j).length (formL n j) := by
  have c := fun i => cell_of_row w _ i _ _ _ h.t
  have q : ∀ (b : Nat) (l : List SItem), w.heap[b]? = some (lc l) → l.length ≤ 9 → Sl kItem (Hp.all w) (some ⟨b, 0, none⟩) l.length l := fun b l e hl => Sl.litItem (h := Hp.all w) e rfl (by unfold maxLen; omega)
  have : j = 0 ∨ j = 1 ∨ j = 2 ∨ j = 3 ∨ j = 4 ∨ j = 5 ∨ j = 6 ∨ j = 7 ∨ j = 8 ∨ j = 9 := by omega
  rcases this with rfl | rfl | rfl | rfl | rfl | rfl | rfl | rfl | rfl | rfl
  · exact ⟨_, c 0, c 1, Sl.none _ _⟩
  · exact ⟨_, c 2, c 3, q _ _ h.l1 (by simp [formL])⟩
  · exact ⟨_, c 4, c 5, q _ _ h.l2 (by simp [formL])⟩
  · exact ⟨_, c 6, c 7, q _ _ h.l3 (by simp [formL])⟩
  · exact ⟨_, c 8, c 9, q _ _ h.l4 (by simp [formL])⟩
  · exact ⟨_, c 10, c 11, q _ _ h.l5 (by simp [formL])⟩
  · exact ⟨_, c 12, c 13, q _ _ h.l6 (by simp [formL])⟩
  · exact ⟨_, c 14, c 15, q _ _ h.l7 (by simp [formL])⟩
  · exact ⟨_, c 16, c 17, q _ _ h.l8 (by simp [formL])⟩
  · exact ⟨_, c 18, c 19, q _ _ h.l9 (by simp [formL])⟩
/-- Ten new blocks, one behind the other. -/
theorem ten (w : World) (o0 o1 o2 o3 o4 o5 o6 o7 o8 o9 : Obj) : ((((((((((w.alloc o0).alloc o1).alloc o2).alloc o3).alloc o4).alloc o5).alloc o6).alloc o7).alloc o8).alloc o9).heap[w.heap.size]? = some o0 ∧ ((((((((((w.alloc o0).alloc o1).alloc o2).alloc o3).alloc o4).alloc o5).alloc o6).alloc o7).alloc o8).alloc o9).heap[w.heap.size + 1]? = some o1 ∧ ((((((((((w.alloc o0).alloc o1).alloc o2).alloc o3).alloc o4).alloc o5).alloc o6).alloc o7).alloc o8).alloc o9).heap[w.heap.size + 1 + 1]? = some o2 ∧ ((((((((((w.alloc o0).alloc o1).alloc o2).alloc o3).alloc o4).alloc o5).alloc o6).alloc o7).alloc o8).alloc o9).heap[w.heap.size + 1 + 1 + 1]? = some o3 ∧ ((((((((((w.alloc o0).alloc o1).alloc o2).alloc o3).alloc o4).alloc o5).alloc o6).alloc o7).alloc o8).alloc o9).heap[w.heap.size + 1 + 1 + 1 + 1]? = some o4 ∧ ((((((((((w.alloc o0).alloc o1).alloc o2).alloc o3).alloc o4).alloc o5).alloc o6).alloc o7).alloc o8).alloc o9).heap[w.heap.size + 1 + 1 + 1 + 1 + 1]? = some o5 ∧ ((((((((((w.alloc o0).alloc o1).alloc o2).alloc o3).alloc o4).alloc o5).alloc o6).alloc o7).alloc o8).alloc o9).heap[w.heap.size + 1 + 1 + 1 + 1 + 1 + 1]? = some o6 ∧ ((((((((((w.alloc o0).alloc o1).alloc o2).alloc o3).alloc o4).alloc o5).alloc o6).alloc o7).alloc o8).alloc o9).heap[w.heap.size + 1 + 1 + 1 + 1 + 1 + 1 + 1]? = some o7 ∧ ((((((((((w.alloc o0).alloc o1).alloc o2).alloc o3).alloc o4).alloc o5).alloc o6).alloc o7).alloc o8).alloc o9).heap[w.heap.size + 1 + 1 + 1 + 1 + 1 + 1 + 1 + 1]? = some o8 ∧ ((((((((((w.alloc o0).alloc o1).alloc o2).alloc o3).alloc o4).alloc o5).alloc o6).alloc o7).alloc o8).alloc o9).heap[w.heap.size + 1 + 1 + 1 + 1 + 1 + 1 + 1 + 1 + 1]? = some o9 ∧ Below w.heap.size w ((((((((((w.alloc o0).alloc o1).alloc o2).alloc o3).alloc o4).alloc o5).alloc o6).alloc o7).alloc o8).alloc o9) :=
  ⟨(heap_old_at (by simp only [World.size_alloc]; omega)).trans ((heap_old_at (by simp only [World.size_alloc]; omega)).trans ((heap_old_at (by simp only [World.size_alloc]; omega)).trans ((heap_old_at (by simp only [World.size_alloc]; omega)).trans ((heap_old_at (by simp only [World.size_alloc]; omega)).trans ((heap_old_at (by simp only [World.size_alloc]; omega)).trans ((heap_old_at (by simp only [World.size_alloc]; omega)).trans ((heap_old_at (by simp only [World.size_alloc]; omega)).trans ((heap_old_at (by simp only [World.size_alloc]; omega)).trans (heap_new_at (by first | rfl | simp only [World.size_alloc])))))))))),
    (heap_old_at (by simp only [World.size_alloc]; omega)).trans ((heap_old_at (by simp only [World.size_alloc]; omega)).trans ((heap_old_at (by simp only [World.size_alloc]; omega)).trans ((heap_old_at (by simp only [World.size_alloc]; omega)).trans ((heap_old_at (by simp only [World.size_alloc]; omega)).trans ((heap_old_at (by simp only [World.size_alloc]; omega)).trans ((heap_old_at (by simp only [World.size_alloc]; omega)).trans ((heap_old_at (by simp only [World.size_alloc]; omega)).trans (heap_new_at (by first | rfl | simp only [World.size_alloc]))))))))),
    (heap_old_at (by simp only [World.size_alloc]; omega)).trans ((heap_old_at (by simp only [World.size_alloc]; omega)).trans ((heap_old_at (by simp only [World.size_alloc]; omega)).trans ((heap_old_at (by simp only [World.size_alloc]; omega)).trans ((heap_old_at (by simp only [World.size_alloc]; omega)).trans ((heap_old_at (by simp only [World.size_alloc]; omega)).trans ((heap_old_at (by simp only [World.size_alloc]; omega)).trans (heap_new_at (by first | rfl | simp only [World.size_alloc])))))))),
    (heap_old_at (by simp only [World.size_alloc]; omega)).trans ((heap_old_at (by simp only [World.size_alloc]; omega)).trans ((heap_old_at (by simp only [World.size_alloc]; omega)).trans ((heap_old_at (by simp only [World.size_alloc]; omega)).trans ((heap_old_at (by simp only [World.size_alloc]; omega)).trans ((heap_old_at (by simp only [World.size_alloc]; omega)).trans (heap_new_at (by first | rfl | simp only [World.size_alloc]))))))),
    (heap_old_at (by simp only [World.size_alloc]; omega)).trans ((heap_old_at (by simp only [World.size_alloc]; omega)).trans ((heap_old_at (by simp only [World.size_alloc]; omega)).trans ((heap_old_at (by simp only [World.size_alloc]; omega)).trans ((heap_old_at (by simp only [World.size_alloc]; omega)).trans (heap_new_at (by first | rfl | simp only [World.size_alloc])))))),
    (heap_old_at (by simp only [World.size_alloc]; omega)).trans ((heap_old_at (by simp only [World.size_alloc]; omega)).trans ((heap_old_at (by simp only [World.size_alloc]; omega)).trans ((heap_old_at (by simp only [World.size_alloc]; omega)).trans (heap_new_at (by first | rfl | simp only [World.size_alloc]))))),
    (heap_old_at (by simp only [World.size_alloc]; omega)).trans ((heap_old_at (by simp only [World.size_alloc]; omega)).trans ((heap_old_at (by simp only [World.size_alloc]; omega)).trans (heap_new_at (by first | rfl | simp only [World.size_alloc])))),
    (heap_old_at (by simp only [World.size_alloc]; omega)).trans ((heap_old_at (by simp only [World.size_alloc]; omega)).trans (heap_new_at (by first | rfl | simp only [World.size_alloc]))),
    (heap_old_at (by simp only [World.size_alloc]; omega)).trans (heap_new_at (by first | rfl | simp only [World.size_alloc])),
    heap_new_at (by first | rfl | simp only [World.size_alloc]), by
    repeat (first | exact Below.refl _ _ | refine Below.alloc ?_ (by first | omega | (simp only [World.size_alloc]; omega)) _)⟩
def FormCheck (n : Int) : Prop := ∀ j, j < 10 → ((checkE (formL n j) == 0) = formOk j)
set_option maxHeartbeats 2000000 in
theorem journalForms_calls (n0 : Int) (w : World) : Calls Try.prog 4 #[.int .i64 n0] w fun e w' => e = .returned (.bool true) ∧ Below w.heap.size w w' := by
  have hr1 := within_lo n0 (n := 100000000000) (by omega)
  have hr2 := within_hi n0 (n := 100000000000) (by omega)
  have hF : FormCheck (1 + within n0 100000000000) := form_check _ (by omega) (by omega)
  have C := fun W : World => within_calls n0 100000000000 W (by omega) (by omega)
  generalize within n0 100000000000 = m at *
  go_enter Try.func4, Try.ntmps4
  go_wp2_with (go_at_call 16; refine (C _).mono ?_; rintro e w' ⟨rfl, rfl⟩)
  go_loopw [70] (fun i wr => ∃ (j : Nat), j ≤ 10 ∧ i = .int .i64 j ∧ Tab w.heap.size (1 + m) wr ∧ Below w.heap.size w wr) (fun i _ => 10 - (intOf i).toNat)
  case atStart =>
    obtain ⟨t0, t1, t2, t3, t4, t5, t6, t7, t8, t9, tb⟩ := ten w (lc (formL (1 + m) 1)) (lc (formL (1 + m) 2)) (lc (formL (1 + m) 3)) (lc (formL (1 + m) 4)) (lc (formL (1 + m) 5)) (lc (formL (1 + m) 6)) (lc (formL (1 + m) 7)) (lc (formL (1 + m) 8)) (lc (formL (1 + m) 9)) _
    exact ⟨0, by omega, rfl, ⟨t0, t1, t2, t3, t4, t5, t6, t7, t8, t9⟩, tb⟩
  case round =>
    obtain ⟨j, hj, rfl, ht, hb⟩ := hrel
    by_cases hlt : j < 10
    · obtain ⟨A, c1, c2, sl⟩ := ht.round j hlt
      have hck := Lib.hid (hF j hlt)
      have i1 : (0 : Int) ≤ (j : Int) := by omega
      have i2 : (j : Int) < 10 := by omega
      generalize formL (1 + m) j = l at *
      generalize formOk j = ok at *
      have K' := fun (W : World) (hW : Below wr.heap.size wr W) => check_calls A _ l (Hp.all wr) W ((Hp.all_sub wr).of_below hW) sl
      generalize checkE l = ce at *
      have hcd : ((ce == 0) == ok) = true ∧ ((ce == 0) != ok) = false := by rw [hck.out]; cases ok <;> decide
      obtain ⟨hc1, hc2⟩ := hcd
      go_wp2
      go_region_held3 (fun w' => w'.cell? ⟨wr.heap.size, 0, none⟩ = some (.slice A l.length l.length) ∧ w'.cell? ⟨wr.heap.size, 1, none⟩ = some (.bool ok))
        (first | go_keep | (go_split_ands; exact ⟨(b1.cell (by simp)).trans (by assumption), (b1.cell (by simp)).trans (by assumption)⟩))
        (first | (go_at_call 21; refine (K' _ (by repeat (first | exact Below.refl _ _ | apply Below.drew | refine Below.alloc ?_ (by simp) _))).mono ?_; rintro e w1 ⟨rfl, b1⟩))
      go_wp2
      go_roundw
      case rel =>
        have bb : Below wr.heap.size wr w1 := (((Below.refl _ _).alloc (Nat.le_refl _) _).drew).trans (b1.mono (by simp))
        exact ⟨j + 1, by omega, by go_num, ht.keep bb, hb.trans (bb.mono hb.size)⟩
      case measure => simp [intOf]; omega
    · obtain rfl : j = 10 := by omega
      go_wp2_with (go_at_call 22; refine (wakes06 _).mono ?_; rintro e w6 ⟨rfl, b6⟩)
      go_ret
      exact ⟨rfl, hb.trans (b6.mono hb.size)⟩
end Go.Proofs.Ytnpnndifhlihhaa
