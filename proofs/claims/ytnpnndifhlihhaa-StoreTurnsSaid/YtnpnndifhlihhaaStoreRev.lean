/- The walks of store.reversed and store.lines. -/
import Derived.Test.YtnpnndifhlihhaaStoreOwn
import Derived.Test.YtnpnndifhlihhaaAnyJou
import Derived.Test.YtnpnndifhlihhaaEqualLine
import Derived.Test.YtnpnndifhlihhaaCheck
namespace Go.Sl
theorem idx_cases {α : Type} (p : α → Bool) (xs : List α) : (idx p xs = -1 ∧ xs.find? p = none) ∨ ∃ (j : Nat) (x : α), idx p xs = j ∧ xs[j]? = some x ∧ j < xs.length ∧ p x = true ∧ xs.find? p = some x := by
  by_cases h : xs.any p = true
  · right
    have hl := List.findIdx_lt_length.2 (List.any_eq_true.1 h)
    refine ⟨xs.findIdx p, xs[xs.findIdx p], by simp [idx, h], by simp [hl], hl, List.findIdx_getElem, ?_⟩
    rw [List.find?_eq_getElem?_findIdx]
    simp [hl]
  · left
    refine ⟨by simp [idx, h], ?_⟩
    rw [List.find?_eq_none]
    simpa [List.any_eq_true] using h
/-- Why a journal is not reversed (0: it may be). -/
def revX (js : List SJ) (of : Int) : Option SJ := js.find? fun j => j.seq == of
def badX (x : SJ) (ent : ByteArray) (p : Int) : Bool := !(decide (x.ent.toList = ent.toList)) || (x.period != p || x.kind == 2)
def revE (js : List SJ) (ent : ByteArray) (p of : Int) : Int :=
  match revX js of with
  | none => 3
  | some x => if badX x ent p = true then 3 else if js.any (fun j => j.kind == 2 && j.of == of) = true then 4 else 0
end Go.Sl
namespace Go.Proofs.Ytnpnndifhlihhaa
open Go.RowKit Go.Sl
set_option maxHeartbeats 1000000
set_option maxRecDepth 100000
theorem rev1_calls (x : SJ) (B : Option Addr) (cb q : Nat) (of : Int) (W : World) (hq : W.cell? ⟨q, 0, none⟩ = some (.int .i64 of)) :
    Calls Try.prog 92 #[.agg #[.int .i64 x.seq, .string x.ent, .int .i64 x.period, .int .i64 x.kind, .int .i64 x.of, .slice B x.lines.length cb], .pointer (some ⟨q, 0, none⟩)] W fun e W' => e = .returned (.bool (x.seq == of)) ∧ Below W.heap.size W W' := by
  have hlt := World.block_lt_of_cell? W _ hq
  go_enter Try.func92, Try.ntmps92
  go_wp2
  go_ret
  exact ⟨rfl, (by repeat (first | exact Below.refl _ _ | apply Below.drew | refine Below.alloc ?_ (by simp) _))⟩
theorem rev2_calls (x : SJ) (B : Option Addr) (cb q : Nat) (of : Int) (W : World) (hq : W.cell? ⟨q, 0, none⟩ = some (.int .i64 of)) :
    Calls Try.prog 94 #[.agg #[.int .i64 x.seq, .string x.ent, .int .i64 x.period, .int .i64 x.kind, .int .i64 x.of, .slice B x.lines.length cb], .pointer (some ⟨q, 0, none⟩)] W fun e W' => e = .returned (.bool (x.kind == 2 && x.of == of)) ∧ Below W.heap.size W W' := by
  have hlt := World.block_lt_of_cell? W _ hq
  cases hk : (x.kind == 2) <;> cases ho : (x.of == of)
  all_goals
    go_enter Try.func94, Try.ntmps94
    go_wp2
    go_ret
    exact ⟨rfl, (by repeat (first | exact Below.refl _ _ | apply Below.drew | refine Below.alloc ?_ (by simp) _))⟩
/-- What reversed returns. -/
def RevAns (js : List SJ) (ent : ByteArray) (p of : Int) (h : Hp) (w : World) (e : Ending) (w' : World) : Prop :=
  (revE js ent p of ≠ 0 ∧ e = .returned (.tuple #[.agg #[.int .i64 0, .string ⟨#[]⟩, .int .i64 0, .int .i64 0, .int .i64 0, .slice none 0 0], .int .i64 (revE js ent p of)]) ∧ Below w.heap.size w w') ∨
  ∃ x B cb, revE js ent p of = 0 ∧ revX js of = some x ∧ x ∈ js ∧ Sl kItem h B cb x.lines ∧ e = .returned (.tuple #[.agg #[.int .i64 x.seq, .string x.ent, .int .i64 x.period, .int .i64 x.kind, .int .i64 x.of, .slice B x.lines.length cb], .int .i64 0]) ∧ Below w.heap.size w w'
theorem reversed_calls (p : Nat) (A : Option Addr) (ca : Nat) (js : List SJ) (ent : ByteArray) (per of : Int) (h : Hp) (w : World) (hs : h.sub w) (hc : w.cell? ⟨p, 0, none⟩ = some (.slice A js.length ca)) (sx : Sl kJ h A ca js) (hl : js.length ≤ 1000000) :
    Calls Try.prog 83 #[.pointer (some ⟨p, 0, none⟩), .string ent, .int .i64 per, .int .i64 of] w (RevAns js ent per of h w) := by
  have m1 := sx.small
  have hlt := World.block_lt_of_cell? w _ hc
  have IC := fun (W : World) (hW : Below w.heap.size w W) (q : Nat) (hq : W.cell? ⟨q, 0, none⟩ = some (.int .i64 of)) => indexFunc_jou 92 #[.pointer (some ⟨q, 0, none⟩)] (enters_of Try.func92 (by kernel_rfl) rfl) (fun x => x.seq == of) A ca js h W (hs.of_below hW) sx
    (fun x B cb V hV _ => rev1_calls x B cb q of V ((hV.cell (World.block_lt_of_cell? W _ hq)).trans hq))
  have AC := fun (W : World) (hW : Below w.heap.size w W) (q : Nat) (hq : W.cell? ⟨q, 0, none⟩ = some (.int .i64 of)) => containsFunc_jou 94 #[.pointer (some ⟨q, 0, none⟩)] (enters_of Try.func94 (by kernel_rfl) rfl) (fun x => x.kind == 2 && x.of == of) A ca js h W (hs.of_below hW) sx
    (fun x B cb V hV _ => rev2_calls x B cb q of V ((hV.cell (World.block_lt_of_cell? W _ hq)).trans hq))
  rcases idx_cases (fun x : SJ => x.seq == of) js with ⟨hi, hf⟩ | ⟨i, x, hi, hx, hil, hp, hf⟩
  · rw [hi] at IC
    have HE : Hid (revE js ent per of = 3) := by unfold Hid revE revX; rw [hf]
    clear hi hf
    go_enter Try.func83, Try.ntmps83
    go_wp2_with fail
    refine (IC _ (by repeat (first | exact Below.refl _ _ | apply Below.drew | refine Below.alloc ?_ (by simp) _)) w.heap.size (by simp)).mono ?_
    rintro e w1 ⟨rfl, b1⟩
    have k2 : w1.heap[w.heap.size + 1]? = some (.cells #[.int .i64 0, .string ⟨#[]⟩, .int .i64 0, .int .i64 0, .int .i64 0, .slice none 0 0] 70) := (b1.block _ (by simp)).trans (heap_new_at (by simp))
    have d0 : w1.cell? ⟨w.heap.size + 1, 0, none⟩ = some (.int .i64 0) := by rw [cell_of_row w1 _ 0 _ _ _ k2]; rfl
    have d1 : w1.cell? ⟨w.heap.size + 1, 1, none⟩ = some (.string ⟨#[]⟩) := by rw [cell_of_row w1 _ 1 _ _ _ k2]; rfl
    have d2 : w1.cell? ⟨w.heap.size + 1, 2, none⟩ = some (.int .i64 0) := by rw [cell_of_row w1 _ 2 _ _ _ k2]; rfl
    have d3 : w1.cell? ⟨w.heap.size + 1, 3, none⟩ = some (.int .i64 0) := by rw [cell_of_row w1 _ 3 _ _ _ k2]; rfl
    have d4 : w1.cell? ⟨w.heap.size + 1, 4, none⟩ = some (.int .i64 0) := by rw [cell_of_row w1 _ 4 _ _ _ k2]; rfl
    have d5 : w1.cell? ⟨w.heap.size + 1, 5, none⟩ = some (.slice none 0 0) := by rw [cell_of_row w1 _ 5 _ _ _ k2]; rfl
    have df : ∀ n, w1.frozen? ⟨w.heap.size + 1, n, none⟩ = false := fun n => frozen_of_row w1 _ n _ _ k2
    have u : Below w.heap.size w w1 := (show Below w.heap.size w _ from (by repeat (first | exact Below.refl _ _ | apply Below.drew | refine Below.alloc ?_ (by simp) _))).trans (b1.mono (by simp; omega))
    clear k2 b1
    go_wp2
    exact bodyPost_ret (v := .tuple #[.agg #[.int .i64 0, .string ⟨#[]⟩, .int .i64 0, .int .i64 0, .int .i64 0, .slice none 0 0], .int .i64 3]) (by simp [results, Try.results83, go_sem, d0, d1, d2, d3, d4, d5]) rfl (.inl ⟨by rw [HE.out]; decide, by rw [HE.out], ((((((u.setCell (by simp) _).setCell (by simp) _).setCell (by simp) _).setCell (by simp) _).setCell (by simp) _).setCell (by simp) _)⟩)
  · rw [hi] at IC
    have hxm := List.mem_of_getElem? hx
    have hx' : Hid (js[i]? = some x) := hx
    have i1 : (0 : Int) ≤ (i : Int) := by omega
    have i2 : (i : Int) < (js.length : Int) := by omega
    clear hi hx hp
    go_enter Try.func83, Try.ntmps83
    go_wp2_with fail
    refine (IC _ (by repeat (first | exact Below.refl _ _ | apply Below.drew | refine Below.alloc ?_ (by simp) _)) w.heap.size (by simp)).mono ?_
    rintro e w1 ⟨rfl, b1⟩
    have k1 : w1.heap[w.heap.size]? = some (.cells #[.int .i64 of] 3) := (b1.block _ (by simp; omega)).trans ((heap_old_at (by simp)).trans (heap_new_at rfl))
    have k2 : w1.heap[w.heap.size + 1]? = some (.cells #[.int .i64 0, .string ⟨#[]⟩, .int .i64 0, .int .i64 0, .int .i64 0, .slice none 0 0] 70) := (b1.block _ (by simp)).trans (heap_new_at (by simp))
    have hcq : w1.cell? ⟨w.heap.size, 0, none⟩ = some (.int .i64 of) := by rw [cell_of_row w1 _ 0 _ _ _ k1]; rfl
    have d0 : w1.cell? ⟨w.heap.size + 1, 0, none⟩ = some (.int .i64 0) := by rw [cell_of_row w1 _ 0 _ _ _ k2]; rfl
    have d1 : w1.cell? ⟨w.heap.size + 1, 1, none⟩ = some (.string ⟨#[]⟩) := by rw [cell_of_row w1 _ 1 _ _ _ k2]; rfl
    have d2 : w1.cell? ⟨w.heap.size + 1, 2, none⟩ = some (.int .i64 0) := by rw [cell_of_row w1 _ 2 _ _ _ k2]; rfl
    have d3 : w1.cell? ⟨w.heap.size + 1, 3, none⟩ = some (.int .i64 0) := by rw [cell_of_row w1 _ 3 _ _ _ k2]; rfl
    have d4 : w1.cell? ⟨w.heap.size + 1, 4, none⟩ = some (.int .i64 0) := by rw [cell_of_row w1 _ 4 _ _ _ k2]; rfl
    have d5 : w1.cell? ⟨w.heap.size + 1, 5, none⟩ = some (.slice none 0 0) := by rw [cell_of_row w1 _ 5 _ _ _ k2]; rfl
    have df : ∀ n, w1.frozen? ⟨w.heap.size + 1, n, none⟩ = false := fun n => frozen_of_row w1 _ n _ _ k2
    have u : Below w.heap.size w w1 := (show Below w.heap.size w _ from (by repeat (first | exact Below.refl _ _ | apply Below.drew | refine Below.alloc ?_ (by simp) _))).trans (b1.mono (by simp; omega))
    have hz1 : w.heap.size + 1 < w1.heap.size := by have := b1.size; simp at this; omega
    have hc1 := (u.cell (p := ⟨p, 0, none⟩) hlt).trans hc
    obtain ⟨b2, o2, B, cb, rfl, sl, c1, c2, c3, c4, c5, c6⟩ := sx.jou (hs.of_below u) hx'
    have AC1 := AC w1 u w.heap.size hcq
    clear IC AC k1 k2 b1 hc
    by_cases he : x.ent.toList = ent.toList
    · have he' : decide (x.ent.toList = ent.toList) = true := by simpa using he
      cases hpp : (x.period != per) with
      | true =>
        have HE : Hid (revE js ent per of = 3) := by unfold Hid revE revX; rw [hf]; simp [badX, hpp]
        clear hf
        go_wp2
        exact bodyPost_ret (v := .tuple #[.agg #[.int .i64 0, .string ⟨#[]⟩, .int .i64 0, .int .i64 0, .int .i64 0, .slice none 0 0], .int .i64 3]) (by simp [results, Try.results83, go_sem, d0, d1, d2, d3, d4, d5]) rfl (.inl ⟨by rw [HE.out]; decide, by rw [HE.out], ((((((u.setCell (by simp) _).setCell (by simp) _).setCell (by simp) _).setCell (by simp) _).setCell (by simp) _).setCell (by simp) _)⟩)
      | false =>
        cases hkk : (x.kind == 2) with
        | true =>
          have HE : Hid (revE js ent per of = 3) := by unfold Hid revE revX; rw [hf]; simp [badX, hkk]
          clear hf
          go_wp2
          exact bodyPost_ret (v := .tuple #[.agg #[.int .i64 0, .string ⟨#[]⟩, .int .i64 0, .int .i64 0, .int .i64 0, .slice none 0 0], .int .i64 3]) (by simp [results, Try.results83, go_sem, d0, d1, d2, d3, d4, d5]) rfl (.inl ⟨by rw [HE.out]; decide, by rw [HE.out], ((((((u.setCell (by simp) _).setCell (by simp) _).setCell (by simp) _).setCell (by simp) _).setCell (by simp) _).setCell (by simp) _)⟩)
        | false =>
          have hbd : badX x ent per = false := by simp [badX, he, hpp, hkk]
          cases ha : (js.any fun j => j.kind == 2 && j.of == of) with
          | true =>
            have HE : Hid (revE js ent per of = 4) := by unfold Hid revE revX; rw [hf]; simp only [hbd, ha]; rfl
            rw [ha] at AC1
            clear hf ha hbd
            go_wp2_with fail
            refine AC1.mono ?_
            rintro e w2 ⟨rfl, b3⟩
            obtain ⟨gc, gf⟩ := bcell b3
            have v : Below w.heap.size w w2 := u.trans (b3.mono u.size)
            rw [← gc _ _ hz1] at d0 d1 d2 d3 d4 d5
            have df : ∀ n, w2.frozen? ⟨w.heap.size + 1, n, none⟩ = false := fun n => (gf _ _ hz1).trans (df n)
            clear gc gf
            go_wp2
            exact bodyPost_ret (v := .tuple #[.agg #[.int .i64 0, .string ⟨#[]⟩, .int .i64 0, .int .i64 0, .int .i64 0, .slice none 0 0], .int .i64 4]) (by simp [results, Try.results83, go_sem, d0, d1, d2, d3, d4, d5]) rfl (.inl ⟨by rw [HE.out]; decide, by rw [HE.out], ((((((v.setCell (by simp) _).setCell (by simp) _).setCell (by simp) _).setCell (by simp) _).setCell (by simp) _).setCell (by simp) _)⟩)
          | false =>
            have HE : Hid (revE js ent per of = 0) := by unfold Hid revE revX; rw [hf]; simp only [hbd, ha]; rfl
            have HX : Hid (revX js of = some x) := hf
            rw [ha] at AC1
            clear hf ha hbd
            go_wp2_with fail
            refine AC1.mono ?_
            rintro e w2 ⟨rfl, b3⟩
            obtain ⟨gc, gf⟩ := bcell b3
            have v : Below w.heap.size w w2 := u.trans (b3.mono u.size)
            have g2 := World.block_lt_of_cell? w1 _ c1
            rw [← gc _ _ hz1] at d0 d1 d2 d3 d4 d5
            rw [← gc _ _ g2] at c1 c2 c3 c4 c5 c6
            have hc2 := (gc _ _ (Nat.lt_of_lt_of_le hlt u.size)).trans hc1
            have df : ∀ n, w2.frozen? ⟨w.heap.size + 1, n, none⟩ = false := fun n => (gf _ _ hz1).trans (df n)
            clear gc gf hc1
            go_wp2
            exact bodyPost_ret (v := .tuple #[.agg #[.int .i64 x.seq, .string x.ent, .int .i64 x.period, .int .i64 x.kind, .int .i64 x.of, .slice B x.lines.length cb], .int .i64 0]) (by simp [results, Try.results83, go_sem, d0, d1, d2, d3, d4, d5]) rfl (.inr ⟨x, B, cb, HE.out, HX.out, hxm, sl, rfl, ((((((v.setCell (by simp) _).setCell (by simp) _).setCell (by simp) _).setCell (by simp) _).setCell (by simp) _).setCell (by simp) _)⟩)
    · have he' : decide (x.ent.toList = ent.toList) = false := by simpa using he
      have HE : Hid (revE js ent per of = 3) := by unfold Hid revE revX; rw [hf]; simp [badX, he]
      clear hf
      go_wp2
      exact bodyPost_ret (v := .tuple #[.agg #[.int .i64 0, .string ⟨#[]⟩, .int .i64 0, .int .i64 0, .int .i64 0, .slice none 0 0], .int .i64 3]) (by simp [results, Try.results83, go_sem, d0, d1, d2, d3, d4, d5]) rfl (.inl ⟨by rw [HE.out]; decide, by rw [HE.out], ((((((u.setCell (by simp) _).setCell (by simp) _).setCell (by simp) _).setCell (by simp) _).setCell (by simp) _).setCell (by simp) _)⟩)
end Go.Proofs.Ytnpnndifhlihhaa
