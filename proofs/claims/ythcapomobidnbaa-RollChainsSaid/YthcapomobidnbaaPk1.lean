/- Walks and plain facts that the laws of this seat share, part 1: contracts of functions, each said at its theorem. -/
import Derived.Test.YthcapomobidnbaaPk0
import Derived.Deep.Draws
import Derived.Test.YthcapomobidnbaaChecked
import Derived.Shelf.SlSortCmp.WholeK
import Derived.Shelf.SlGeneric
import Derived.Deep.RegionHeld3
import Derived.BigRegion
import Derived.WalkKit
import Derived.Laws.StructEq
section
/- The memory that a body holds: parts of its own, apart from each other, all made since it began. No program is named here. -/
namespace Go.Sl
open Go Go.RowKit
/-- Of the world w0 nothing has turned; the parts l were made since, and are apart. -/
structure Env (w0 w : World) (l : List Hp) : Prop where
  own : Own w l
  fr : ∀ h ∈ l, ∀ q, h q ≠ Option.none → w0.heap.size ≤ q
  low : Below w0.heap.size w0 w
section
variable {w0 w w1 : World} {l : List Hp} {h h' : Hp}
theorem Env.start (w : World) : Env w w [] := ⟨trivial, fun _ e => absurd e (by simp), Below.refl _ _⟩
theorem Env.below (E : Env w0 w l) (b : Below w.heap.size w w1) : Env w0 w1 l := ⟨E.own.below b, E.fr, E.low.trans (b.mono E.low.size)⟩
theorem Own.snoc {w : World} {h' : Hp} (s : h'.sub w) : ∀ {l : List Hp}, Own w l → (∀ k ∈ l, k.apart h') → Own w (l ++ [h'])
  | [], _, _ => ⟨s, fun _ e => absurd e (by simp), trivial⟩
  | k :: l, o, a => ⟨o.1, fun q hq => by
      rcases List.mem_append.1 hq with hq | hq
      · exact o.2.1 q hq
      · simp at hq; subst hq; exact a k (by simp), o.2.2.snoc s fun q hq => a q (by simp [hq])⟩
theorem Env.new (E : Env w0 w l) (u : Upd Hp.none h' w w1) : Env w0 w1 (l ++ [h']) :=
  ⟨(E.own.below u.below).snoc u.sub fun k hk => (u.apart (fun _ e => absurd rfl e) (E.own.mem k hk)).symm, fun k hk q hq => by
    rcases List.mem_append.1 hk with hk | hk
    · exact E.fr k hk q hq
    · simp at hk; subst hk
      rcases u.dom q hq with e | e
      · exact absurd rfl e
      · exact Nat.le_trans E.low.size e, E.low.trans (u.below.mono E.low.size)⟩
theorem Env.upd (E : Env w0 w l) (i : Nat) (hi : l[i]? = some h) (u : Upd h h' w w1) : Env w0 w1 (l.set i h') :=
  ⟨E.own.upd u i hi, fun k hk q hq => by
    rcases List.mem_or_eq_of_mem_set hk with hk | rfl
    · exact E.fr k hk q hq
    · rcases u.dom q hq with e | e
      · exact E.fr h (List.mem_of_getElem? hi) q e
      · exact Nat.le_trans E.low.size e,
   ⟨u.os.trans E.low.os, u.tape.trans E.low.tape, u.output.trans E.low.output, Nat.le_trans E.low.size u.size, fun q hq => by
    refine (u.keep q (Nat.lt_of_lt_of_le hq E.low.size) ?_).trans (E.low.block q hq)
    cases hh : h q with
    | none => rfl
    | some o => have := E.fr h (List.mem_of_getElem? hi) q (by simp [hh]); omega⟩⟩
theorem Env.sub (E : Env w0 w l) (i : Nat) (hi : l[i]? = some h) : h.sub w := E.own.get i h hi
theorem Env.drop (E : Env w0 w l) (i : Nat) : Env w0 w (l.eraseIdx i) := ⟨E.own.erase i, fun k hk => E.fr k (List.mem_of_mem_eraseIdx hk), E.low⟩
theorem Env.arg (E : Env w0 w l) {k : Hp} (s : k.sub w0) : k.sub w := s.of_below E.low
/-- A new block. -/
theorem Upd.newBlock (w : World) (o : Obj) : Upd Hp.none (Hp.one w.heap.size o) w (w.alloc o) :=
  ⟨rfl, rfl, rfl, by simp, fun q hq _ => heap_old_at hq, Hp.one_sub (heap_new_at rfl), fun q hq => by
    right
    simp only [Hp.one] at hq
    split at hq
    · omega
    · exact absurd rfl hq⟩
theorem Hp.sub.free {h : Hp} {w : World} (s : h.sub w) {b : Nat} (hb : w.heap.size ≤ b) : h b = Option.none := by
  cases hh : h b with
  | none => rfl
  | some o => have := s.lt (b := b) (by simp [hh]); omega
/-- A new block that holds what was made before. -/
theorem Upd.put {o : Obj} (u : Upd Hp.none h' w w1) : Upd Hp.none (h'.put w1.heap.size o) w (w1.alloc o) :=
  ⟨u.os, u.tape, u.output, by simp; exact Nat.le_trans u.size (Nat.le_succ _), fun q hq hn => (heap_old_at (Nat.lt_of_lt_of_le hq u.size)).trans (u.keep q hq hn), Hp.put_sub (u.sub.of_below ((Below.refl _ _).alloc (Nat.le_refl _) _)) (heap_new_at rfl), fun q hq => by
    simp only [Hp.put] at hq
    split at hq
    · right; have := u.size; omega
    · exact u.dom q hq⟩
theorem Env.alloc (E : Env w0 w l) (o : Obj) : Env w0 (w.alloc o) (l ++ [Hp.one w.heap.size o]) := E.new (Upd.newBlock w o)
theorem Env.drew (E : Env w0 w l) : Env w0 w.drew l := E.below ((Below.refl _ _).drew)
theorem Env.drewN (E : Env w0 w l) (n : Nat) : Env w0 (w.drewN n) l := E.below ⟨rfl, rfl, rfl, Nat.le_refl _, fun _ _ => rfl⟩
theorem Env.alloc' (E : Env w0 w l) (o : Obj) : Env w0 (w.alloc o) l := E.below ((Below.refl _ _).alloc (Nat.le_refl _) o)
theorem flatMap_len {α : Type} {size : Nat} {cells : α → List Value} (hl : ∀ x, (cells x).length = size) : ∀ xs : List α, (xs.flatMap cells).length = xs.length * size
  | [] => by simp
  | y :: ys => by simp only [List.flatMap_cons, List.length_append, hl, flatMap_len hl ys, List.length_cons, Nat.add_mul, Nat.one_mul]; omega
/-- A literal of flat elements in a new block, owned. -/
theorem Ow.lit {α : Type} {size : Nat} {cells : α → List Value} {pos : 0 < size} {hl : ∀ x, (cells x).length = size} {h1 : ∀ x, ∀ u ∈ cells x, u.oneCell' = true} {h : Hp} {b : Nat} {t : TypeId} {xs : List α}
    (hb : h b = some (.cells (xs.flatMap cells).toArray t (0, 0))) (hm : xs.length ≤ maxLen) : Ow (Kd.flat size cells pos hl h1) h (some ⟨b, 0, .none⟩) xs.length xs :=
  ⟨Nat.le_refl _, hm, (fun e => (nomatch e)), fun ad e _ => by
    cases e
    refine ⟨b, 0, _, t, rfl, hb, ?_, fun i x hx => ⟨cells x, rfl, fun j u hu => ?_⟩⟩
    · have := flatMap_len hl xs
      simp only [Kd.flat, List.size_toArray, this]; omega
    · rw [Nat.zero_add, List.getElem?_toArray]; exact flatMap_get hl xs i x hx j u hu⟩
/-- The rest of a part turns, one block stands. -/
theorem Upd.rest {k' : Hp} {b : Nat} {o : Obj} (hb : h b = some o) (s : h.sub w) (u : Upd (h.del b) k' w w1) : Upd h (k'.put b o) w w1 ∧ k' b = .none := by
  have hlt := s.lt (b := b) (by simp [hb])
  have hk : k' b = .none := by
    cases hh : k' b with
    | none => rfl
    | some q =>
      rcases u.dom b (by simp [hh]) with e | e
      · exact absurd Hp.del_self e
      · omega
  refine ⟨⟨u.os, u.tape, u.output, u.size, fun q hq hn => u.keep q hq (by simp [Hp.del, hn]), fun q o' e => ?_, fun q e => ?_⟩, hk⟩
  · simp only [Hp.put] at e
    split at e
    · rename_i hq; cases e; rw [hq]; exact (u.keep b hlt Hp.del_self).trans (s b _ hb)
    · exact u.sub q o' e
  · simp only [Hp.put] at e
    split at e
    · rename_i hq; left; rw [hq, hb]; simp
    · rcases u.dom q e with h1 | h1
      · left; intro h0; exact h1 (by simp [Hp.del, h0])
      · exact .inr h1
theorem Own.apart_of {w : World} : ∀ {l : List Hp}, Own w l → ∀ {i j : Nat} {h k : Hp}, l[i]? = some h → l[j]? = some k → i ≠ j → h.apart k
  | [], _, i, j, h, k, e, _, _ => by simp at e
  | a :: l, o, 0, 0, h, k, _, _, n => absurd rfl n
  | a :: l, o, 0, j + 1, h, k, e1, e2, _ => by simp at e1 e2; subst e1; exact o.2.1 k (List.mem_of_getElem? e2)
  | a :: l, o, i + 1, 0, h, k, e1, e2, _ => by simp at e1 e2; subst e2; exact (o.2.1 h (List.mem_of_getElem? e1)).symm
  | a :: l, o, i + 1, j + 1, h, k, e1, e2, n => o.2.2.apart_of (i := i) (j := j) (by simpa using e1) (by simpa using e2) (by omega)
/-- A part is written into, and not told any more. -/
theorem Env.scratch (E : Env w0 w l) (i : Nat) (hi : l[i]? = some h) {b j : Nat} {v : Value} (hb : h b ≠ .none) : Env w0 (w.setCell ⟨b, j, .none⟩ v) (l.eraseIdx i) := by
  have D := E.drop i
  have hB : w0.heap.size ≤ b := E.fr h (List.mem_of_getElem? hi) b hb
  have hn : ∀ k ∈ l.eraseIdx i, k b = .none := fun k hk => by
    obtain ⟨m, hm⟩ := List.mem_iff_getElem?.1 hk
    rw [List.getElem?_eraseIdx] at hm
    split at hm
    · exact E.own.apart_of hi hm (by omega) b hb
    · exact E.own.apart_of hi hm (by omega) b hb
  have G : Below b w (w.setCell ⟨b, j, .none⟩ v) := (Below.refl b w).setCell (Nat.le_refl _) v
  have S : (w.setCell ⟨b, j, .none⟩ v).heap.size = w.heap.size := by simp
  refine ⟨?_, D.fr, D.low.setCell hB v⟩
  have key : ∀ l : List Hp, Own w l → (∀ k ∈ l, k b = .none) → Own (w.setCell ⟨b, j, .none⟩ v) l := by
    intro l
    induction l with
    | nil => exact fun _ _ => trivial
    | cons k l ih =>
      intro o hk
      refine ⟨fun q o' e => ?_, o.2.1, ih o.2.2 fun x hx => hk x (by simp [hx])⟩
      rw [Below.heap_setCell w ⟨b, j, .none⟩ v q (fun hq => by have := hk k (by simp); rw [show q = b from hq, this] at e; cases e)]
      exact o.1 q o' e
  exact key _ D.own hn
end
end Go.Sl
end
section
/- The walk of roll.at. -/
namespace Go.Sl
def wkey (x : SWay) : Int × Int := (x.cls, x.yr)
def isW (c y : Int) (x : SWay) : Bool := x.cls == c && x.yr == y
/-- The rows, with one of a bucket. -/
def atR (rows : List SWay) (c y : Int) : List SWay := if rows.any (isW c y) then rows else rows ++ [⟨c, y, 0, 0, 0⟩]
def atI (rows : List SWay) (c y : Int) : Nat := if rows.any (isW c y) then rows.findIdx (isW c y) else rows.length
end Go.Sl
namespace Go.Proofs.Ythcapomobidnbaa
open Go.RowKit Go.Sl
set_option maxHeartbeats 1000000
set_option maxRecDepth 100000
theorem at1_calls (x : SWay) (p q : Nat) (c y : Int) (W : World) (hp : W.cell? ⟨p, 0, none⟩ = some (.int .i64 c)) (hq : W.cell? ⟨q, 0, none⟩ = some (.int .i64 y)) :
    Calls Try.prog 70 #[.agg #[.int .i64 x.cls, .int .i64 x.yr, .int .i64 x.opn, .int .i64 x.mov, .int .i64 x.clo], .pointer (some ⟨p, 0, none⟩), .pointer (some ⟨q, 0, none⟩)] W fun e W' => e = .returned (.bool (isW c y x)) ∧ Below W.heap.size W W' := by
  have h1 := World.block_lt_of_cell? W _ hp
  have h2 := World.block_lt_of_cell? W _ hq
  unfold isW
  cases hk : (x.cls == c) <;> cases ho : (x.yr == y)
  all_goals
    go_enter Try.func70, Try.ntmps70
    go_wp2
    go_ret
    exact ⟨rfl, (by repeat (first | exact Below.refl _ _ | apply Below.drew | refine Below.alloc ?_ (by simp) _))⟩
theorem at_calls (A : Option Addr) (ca : Nat) (rows : List SWay) (c y : Int) (h : Hp) (w : World) (hs : h.sub w) (o : Ow kWay h A ca rows) (hl : rows.length ≤ 1000000) (n : Nat) (hn : rows.length = n) :
    Calls Try.prog 42 #[.slice A n ca, .int .i64 c, .int .i64 y] w fun e w' => ∃ C cap h', e = .returned (.tuple #[.slice C (atR rows c y).length cap, .int .i64 (atI rows c y)]) ∧ Ow kWay h' C cap (atR rows c y) ∧ Upd h h' w w' := by
  subst hn
  have m1 := o.small
  have IC := fun (W : World) (hW : Below w.heap.size w W) (p q : Nat) (hp : W.cell? ⟨p, 0, none⟩ = some (.int .i64 c)) (hq : W.cell? ⟨q, 0, none⟩ = some (.int .i64 y)) =>
    indexFunc_row 70 #[.pointer (some ⟨p, 0, none⟩), .pointer (some ⟨q, 0, none⟩)] (enters_of Try.func70 (by kernel_rfl) rfl) (isW c y) A ca rows h W (hs.of_below hW) o.sl
      (fun x V hV => at1_calls x p q c y V ((hV.cell (World.block_lt_of_cell? W _ hp)).trans hp) ((hV.cell (World.block_lt_of_cell? W _ hq)).trans hq))
  cases ha : rows.any (isW c y) with
  | true =>
    have HI : Hid (idx (isW c y) rows = (atI rows c y : Int)) := by unfold Hid idx atI; rw [if_pos ha, if_pos ha]
    have HR : Hid (atR rows c y = rows) := by unfold Hid atR; rw [if_pos ha]
    rw [HI.out] at IC
    clear ha
    generalize atI rows c y = k at *
    have k0 : (0 : Int) ≤ (k : Int) := by omega
    go_enter Try.func42, Try.ntmps42
    go_wp2_with fail
    refine (IC _ (by repeat (first | exact Below.refl _ _ | apply Below.drew | refine Below.alloc ?_ (by simp) _)) w.heap.size (w.heap.size + 1) (by simp) (by simp)).mono ?_
    rintro e w1 ⟨rfl, b1⟩
    have B : Below w.heap.size w w1 := (show Below w.heap.size w _ from (by repeat (first | exact Below.refl _ _ | apply Below.drew | refine Below.alloc ?_ (by simp) _))).trans (b1.mono (by simp; omega))
    go_wp2
    go_ret2
    exact ⟨A, ca, h, by rw [HR.out]; rfl, by rw [HR.out]; exact o, ⟨B.os, B.tape, B.output, B.size, fun q hq _ => B.block q hq, hs.of_below B, fun _ hq => .inl hq⟩⟩
  | false =>
    have HI : Hid (idx (isW c y) rows = -1) := by unfold Hid idx; rw [ha]; rfl
    have HR : Hid (atR rows c y = rows ++ [⟨c, y, 0, 0, 0⟩]) := by unfold Hid atR; rw [if_neg (by rw [ha]; decide)]
    have HA : Hid (atI rows c y = rows.length) := by unfold Hid atI; rw [if_neg (by rw [ha]; decide)]
    rw [HI.out] at IC
    clear ha
    go_enter Try.func42, Try.ntmps42
    go_wp2_with fail
    refine (IC _ (by repeat (first | exact Below.refl _ _ | apply Below.drew | refine Below.alloc ?_ (by simp) _)) w.heap.size (w.heap.size + 1) (by simp) (by simp)).mono ?_
    rintro e w1 ⟨rfl, b1⟩
    have B : Below w.heap.size w w1 := (show Below w.heap.size w _ from (by repeat (first | exact Below.refl _ _ | apply Below.drew | refine Below.alloc ?_ (by simp) _))).trans (b1.mono (by simp; omega))
    have k0 : w1.cell? ⟨w.heap.size, 0, none⟩ = some (.int .i64 c) := (b1.cell (p := ⟨w.heap.size, 0, none⟩) (by simp; omega)).trans (by simp)
    have k1 : w1.cell? ⟨w.heap.size + 1, 0, none⟩ = some (.int .i64 y) := (b1.cell (p := ⟨w.heap.size + 1, 0, none⟩) (by simp)).trans (by simp)
    clear b1
    go_wp2_with (at_builtin; refine wpList_app1f (h := h) (xs := rows) (y := ⟨c, y, 0, 0, 0⟩) Try.underlying26 info_row (by rfl) (by rfl) rfl rows.length 1 (by rfl) (by rfl) rfl o ((hs.of_below B).of_below (by repeat (first | exact Below.refl _ _ | apply Below.drew | refine Below.alloc ?_ (by simp) _))) (heap_new_at (by simp)) rfl (by omega) (by omega) ?_; intro C' cap' w2 h2 ho2 hu2)
    go_ret2
    exact ⟨C', cap', h2, by rw [HR.out, HA.out, List.length_append]; rfl, by rw [HR.out]; exact ho2, (hu2.before (by repeat (first | exact Below.refl _ _ | apply Below.drew | refine Below.alloc ?_ (by simp) _))).before B⟩
end Go.Proofs.Ythcapomobidnbaa
end
section
/- Rows of a roll, plain: a row is found or laid, and turned. -/
namespace Go.Sl
/-- A bucket's row, turned; laid first, if there is none. -/
def ups (f : SWay → SWay) (c y : Int) : List SWay → List SWay
  | [] => [f ⟨c, y, 0, 0, 0⟩]
  | r :: rs => if wkey r = (c, y) then f r :: rs else r :: ups f c y rs
theorem isW_iff (c y : Int) (x : SWay) : isW c y x = true ↔ wkey x = (c, y) := by simp [isW, wkey]
theorem at_ups (f : SWay → SWay) (c y : Int) : ∀ rows : List SWay, ∃ r, (atR rows c y)[atI rows c y]? = some r ∧ (atR rows c y).set (atI rows c y) (f r) = ups f c y rows ∧ wkey r = (c, y)
  | [] => ⟨⟨c, y, 0, 0, 0⟩, rfl, rfl, rfl⟩
  | x :: rows => by
    by_cases h : wkey x = (c, y)
    · have hw : isW c y x = true := (isW_iff c y x).2 h
      have ha : (x :: rows).any (isW c y) = true := by simp [hw]
      refine ⟨x, ?_, ?_, h⟩
      · simp only [atR, atI, ha, if_true, List.findIdx_cons, hw, cond_true]; rfl
      · simp only [atR, atI, ha, if_true, List.findIdx_cons, hw, cond_true, List.set_cons_zero, ups, if_pos h]
    · have hw : isW c y x = false := by
        cases e : isW c y x with
        | false => rfl
        | true => exact absurd ((isW_iff c y x).1 e) h
      obtain ⟨r, h1, h2, h3⟩ := at_ups f c y rows
      have ha : (x :: rows).any (isW c y) = rows.any (isW c y) := by simp [hw]
      have eR : atR (x :: rows) c y = x :: atR rows c y := by
        unfold atR; rw [ha]; split <;> simp
      have eI : atI (x :: rows) c y = atI rows c y + 1 := by
        unfold atI; rw [ha]; split
        · simp [List.findIdx_cons, hw]
        · simp
      refine ⟨r, ?_, ?_, h3⟩
      · rw [eR, eI]; simpa using h1
      · rw [eR, eI, List.set_cons_succ, h2, ups, if_neg h]
theorem find_ups {f : SWay → SWay} (hf : ∀ r, wkey (f r) = wkey r) (c y : Int) (k : Int × Int) : ∀ rows : List SWay, find wkey k (ups f c y rows) = if k = (c, y) then some (f ((find wkey (c, y) rows).getD ⟨c, y, 0, 0, 0⟩)) else find wkey k rows
  | [] => by
    have h0 : wkey (f ⟨c, y, 0, 0, 0⟩) = (c, y) := hf _
    by_cases hk : k = (c, y)
    · simp [ups, find, h0, hk]
    · simp [ups, find, h0, hk]; exact fun e => hk e.symm
  | r :: rs => by
    have ih := find_ups hf c y k rs
    unfold ups
    by_cases h : wkey r = (c, y)
    · rw [if_pos h]
      have h0 : wkey (f r) = (c, y) := (hf r).trans h
      by_cases hk : k = (c, y)
      · rw [if_pos hk]; subst hk; simp [find, h0, h]
      · rw [if_neg hk]
        have e1 : ¬ (c, y) = k := fun e => hk e.symm
        simp [find, h0, h, e1]
    · rw [if_neg h]
      by_cases hr : wkey r = k
      · have hk : k ≠ (c, y) := fun e => h (hr.trans e)
        rw [if_neg hk]; simp [find, hr]
      · have e2 : find wkey k (r :: ups f c y rs) = find wkey k (ups f c y rs) := by simp [find, hr]
        have e3 : find wkey k (r :: rs) = find wkey k rs := by simp [find, hr]
        have e4 : find wkey (c, y) (r :: rs) = find wkey (c, y) rs := by simp [find, h]
        rw [e2, e3, e4, ih]
theorem mem_ups {f : SWay → SWay} {c y : Int} {x : SWay} : ∀ {rows : List SWay}, x ∈ ups f c y rows → x ∈ rows ∨ ∃ r, wkey r = (c, y) ∧ x = f r
  | [], h => by simp [ups] at h; exact .inr ⟨_, rfl, h⟩
  | r :: rs, h => by
    unfold ups at h
    split at h
    · rename_i e
      rcases List.mem_cons.1 h with h | h
      · exact .inr ⟨r, e, h⟩
      · exact .inl (by simp [h])
    · rcases List.mem_cons.1 h with h | h
      · exact .inl (by simp [h])
      · rcases mem_ups h with h | h
        · exact .inl (by simp [h])
        · exact .inr h
/-- Keys, each once. -/
def Dist (rows : List SWay) : Prop := rows.Pairwise fun x y => wkey x ≠ wkey y
theorem Dist.ups {f : SWay → SWay} (hf : ∀ r, wkey (f r) = wkey r) (c y : Int) : ∀ {rows : List SWay}, Dist rows → Dist (Go.Sl.ups f c y rows)
  | [], _ => by simp [Go.Sl.ups, Dist]
  | r :: rs, h => by
    obtain ⟨h1, h2⟩ := List.pairwise_cons.1 h
    unfold Go.Sl.ups
    split
    · exact List.pairwise_cons.2 ⟨fun x hx => by rw [hf]; exact h1 x hx, h2⟩
    · rename_i e
      refine List.pairwise_cons.2 ⟨fun x hx => ?_, Dist.ups hf c y h2⟩
      rcases mem_ups hx with hx | ⟨q, hq, rfl⟩
      · exact h1 x hx
      · rw [hf, hq]; exact e
theorem len_ups (f : SWay → SWay) (c y : Int) : ∀ rows : List SWay, (ups f c y rows).length ≤ rows.length + 1
  | [] => by simp [ups]
  | r :: rs => by
    unfold ups
    split
    · simp
    · have := len_ups f c y rs; simp; omega
theorem Dist.mem_find {rows : List SWay} (h : Dist rows) {x : SWay} : x ∈ rows ↔ find wkey (wkey x) rows = some x := by
  constructor
  · intro hx
    induction rows with
    | nil => cases hx
    | cons r rs ih =>
      obtain ⟨h1, h2⟩ := List.pairwise_cons.1 h
      rcases List.mem_cons.1 hx with rfl | hx
      · simp [find]
      · have := h1 x hx
        have e : find wkey (wkey x) (r :: rs) = find wkey (wkey x) rs := by simp [find, this]
        rw [e]; exact ih h2 hx
  · intro hf; exact (find_some hf).1
end Go.Sl
end
section
/- The library's slices.SortFunc over roll.Row, laid at this program in plain words. -/
namespace Go.Proofs
open Go.Shelf
def Try.sortRow_ren : Go.Shelf.Ren := ⟨fun | 6 => 71 | 15 => 76 | 14 => 81 | 28 => 90 | 29 => 91 | 20 => 101 | 21 => 102 | 22 => 103 | 23 => 104 | 24 => 105 | 25 => 106 | 26 => 107 | 27 => 108 | 46 => 117 | 47 => 110 | 48 => 111 | 49 => 118 | 50 => 119 | 57 => 122 | n => n, fun | 22 => 26 | 24 => 36 | 25 => 114 | 3 => 3 | 39 => 119 | 0 => 0 | 53 => 130 | 55 => 132 | 4 => 4 | 46 => 124 | 45 => 123 | 50 => 92 | 5 => 5 | 9 => 9 | 66 => 143 | 70 => 147 | 76 => 153 | 77 => 154 | n => n, fun | n => n⟩
theorem Try.sortRow : Go.Proofs.SlLaysF0.n6 Try.prog Try.sortRow_ren := {
  mixed := by kernel_rfl
  f6 := ⟨Try.f71.name, by decide, Try.func71.trans (congrArg some (by kernel_rfl))⟩
  f14 := ⟨Try.f81.name, by decide, Try.func81.trans (congrArg some (by kernel_rfl))⟩
  f15 := Try.func76.trans (congrArg some (by kernel_rfl))
  f20 := ⟨Try.f101.name, by decide, Try.func101.trans (congrArg some (by kernel_rfl))⟩
  f21 := ⟨Try.f102.name, by decide, Try.func102.trans (congrArg some (by kernel_rfl))⟩
  f22 := ⟨Try.f103.name, by decide, Try.func103.trans (congrArg some (by kernel_rfl))⟩
  f23 := ⟨Try.f104.name, by decide, Try.func104.trans (congrArg some (by kernel_rfl))⟩
  f24 := ⟨Try.f105.name, by decide, Try.func105.trans (congrArg some (by kernel_rfl))⟩
  f25 := ⟨Try.f106.name, by decide, Try.func106.trans (congrArg some (by kernel_rfl))⟩
  f26 := ⟨Try.f107.name, by decide, Try.func107.trans (congrArg some (by kernel_rfl))⟩
  f27 := ⟨Try.f108.name, by decide, Try.func108.trans (congrArg some (by kernel_rfl))⟩
  f28 := Try.func90.trans (congrArg some (by kernel_rfl))
  f29 := Try.func91.trans (congrArg some (by kernel_rfl))
  f46 := ⟨Try.f117.name, by decide, Try.func117.trans (congrArg some (by kernel_rfl))⟩
  f47 := Try.func110.trans (congrArg some (by kernel_rfl))
  f48 := Try.func111.trans (congrArg some (by kernel_rfl))
  f49 := ⟨Try.f118.name, by decide, Try.func118.trans (congrArg some (by kernel_rfl))⟩
  f50 := ⟨Try.f119.name, by decide, Try.func119.trans (congrArg some (by kernel_rfl))⟩
  f57 := ⟨Try.f122.name, by decide, Try.func122.trans (congrArg some (by kernel_rfl))⟩
  t0 := Try.underlying0
  a0 := Try.isAgg0
  z0 := Try.sizeOf0
  v0 := Try.zeroValue0
  t3 := Try.underlying3
  a3 := Try.isAgg3
  z3 := Try.sizeOf3
  v3 := Try.zeroValue3
  t4 := Try.underlying4
  a4 := Try.isAgg4
  z4 := Try.sizeOf4
  v4 := Try.zeroValue4
  t5 := Try.underlying5
  a5 := Try.isAgg5
  z5 := Try.sizeOf5
  v5 := Try.zeroValue5
  t9 := Try.underlying9
  a9 := Try.isAgg9
  z9 := Try.sizeOf9
  v9 := Try.zeroValue9
  t22 := Try.underlying26
  a22 := Try.isAgg26
  z22 := Try.sizeOf26
  v22 := Try.zeroValue26
  t25 := Try.underlying114
  a25 := Try.isAgg114
  z25 := Try.sizeOf114
  v25 := Try.zeroValue114
  t39 := Try.underlying119
  a39 := Try.isAgg119
  z39 := Try.sizeOf119
  v39 := Try.zeroValue119
  t45 := Try.underlying123
  a45 := Try.isAgg123
  z45 := Try.sizeOf123
  v45 := Try.zeroValue123
  t46 := Try.underlying124
  a46 := Try.isAgg124
  z46 := Try.sizeOf124
  v46 := Try.zeroValue124
  t50 := Try.underlying92
  a50 := Try.isAgg92
  z50 := Try.sizeOf92
  v50 := Try.zeroValue92
  t53 := Try.underlying130
  a53 := Try.isAgg130
  z53 := Try.sizeOf130
  v53 := Try.zeroValue130
  t55 := Try.underlying132
  a55 := Try.isAgg132
  z55 := Try.sizeOf132
  v55 := Try.zeroValue132
  t66 := Try.underlying143
  a66 := Try.isAgg143
  z66 := Try.sizeOf143
  v66 := Try.zeroValue143
  t70 := Try.underlying147
  a70 := Try.isAgg147
  z70 := Try.sizeOf147
  v70 := Try.zeroValue147
  t76 := Try.underlying153
  a76 := Try.isAgg153
  z76 := Try.sizeOf153
  v76 := Try.zeroValue153
  t77 := Try.underlying154
  a77 := Try.isAgg154
  z77 := Try.sizeOf154
  v77 := Try.zeroValue154 }
end Go.Proofs
end
section
/- The walks of cmp.Compare and cmp.Or over whole numbers. -/
namespace Go.Sl
def cmpI (x y : Int) : Int := if x < y then -1 else if y < x then 1 else 0
def orI (a b : Int) : Int := if a = 0 then b else a
end Go.Sl
namespace Go.Proofs.Ythcapomobidnbaa
open Go.RowKit Go.Sl
set_option maxHeartbeats 1000000
theorem nan_calls (x : Int) (w : World) : Calls Try.prog 77 #[.int .i64 x] w fun e w' => e = .returned (.bool false) ∧ w = w' := by
  go_enter Try.func77, Try.ntmps77
  go_wp2
  go_ret
  exact ⟨by simp, rfl⟩
theorem compare_calls (x y : Int) (w : World) : Calls Try.prog 57 #[.int .i64 x, .int .i64 y] w fun e w' => e = .returned (.int .i64 (cmpI x y)) ∧ w = w' := by
  rcases Int.lt_trichotomy x y with h | h | h
  · have HC : Hid (cmpI x y = -1) := if_pos h
    have t1 : decide (x < y) = true := by simpa using h
    clear h
    go_enter Try.func57, Try.ntmps57
    go_wp2_with (go_at_call 77; refine (nan_calls _ _).mono ?_; rintro e w' ⟨rfl, rfl⟩)
    go_ret
    exact ⟨by rw [HC.out]; rfl, rfl⟩
  · have HC : Hid (cmpI x y = 0) := by unfold Hid cmpI; rw [if_neg (by omega), if_neg (by omega)]
    have t1 : decide (x < y) = false := by simp; omega
    have t2 : decide (y < x) = false := by simp; omega
    clear h
    go_enter Try.func57, Try.ntmps57
    go_wp2_with (go_at_call 77; refine (nan_calls _ _).mono ?_; rintro e w' ⟨rfl, rfl⟩)
    go_ret
    exact ⟨by rw [HC.out]; rfl, rfl⟩
  · have HC : Hid (cmpI x y = 1) := by unfold Hid cmpI; rw [if_neg (by omega), if_pos h]
    have t1 : decide (x < y) = false := by simp; omega
    have t2 : decide (y < x) = true := by simpa using h
    clear h
    go_enter Try.func57, Try.ntmps57
    go_wp2_with (go_at_call 77; refine (nan_calls _ _).mono ?_; rintro e w' ⟨rfl, rfl⟩)
    go_ret
    exact ⟨by rw [HC.out]; rfl, rfl⟩
theorem or_calls (q : Nat) (a b : Int) (w : World) (c0 : w.cell? ⟨q, 0, none⟩ = some (.int .i64 a)) (c1 : w.cell? ⟨q, 1, none⟩ = some (.int .i64 b)) :
    Calls Try.prog 63 #[.slice (some ⟨q, 0, none⟩) 2 2] w fun e w' => e = .returned (.int .i64 (orI a b)) ∧ w = w' := by
  go_enter Try.func63, Try.ntmps63
  go_wp2
  go_loop [8] (fun i => ∃ j : Nat, j ≤ 2 ∧ i = .int .i64 j ∧ Hid (1 ≤ j → a = 0) ∧ Hid (2 ≤ j → b = 0)) (fun i => 2 - (intOf i).toNat)
  case atStart => exact ⟨0, by omega, rfl, by unfold Hid; omega, by unfold Hid; omega⟩
  case round =>
    obtain ⟨j, hj, rfl, h1, h2⟩ := hrel
    have hj3 : j = 0 ∨ j = 1 ∨ j = 2 := by omega
    rcases hj3 with rfl | rfl | rfl
    · by_cases ha : a = 0
      · have t : (a != 0) = false := by simpa using ha
        have HA : Hid (a = 0) := ha
        clear ha
        go_wp2
        go_round
        case rel => exact ⟨1, by omega, by go_num, fun _ => HA.out, by unfold Hid; omega⟩
        case measure => simp [intOf]
      · have t : (a != 0) = true := by simpa using ha
        have HO : Hid (orI a b = a) := if_neg ha
        clear ha
        go_wp2
        go_ret
        exact ⟨by rw [HO.out]; rfl, rfl⟩
    · have HA := Lib.hid (h1.out (by omega))
      by_cases hb : b = 0
      · have t : (b != 0) = false := by simpa using hb
        have HB : Hid (b = 0) := hb
        clear hb
        go_wp2
        go_round
        case rel => exact ⟨2, by omega, by go_num, fun _ => HA.out, fun _ => HB.out⟩
        case measure => simp [intOf]
      · have t : (b != 0) = true := by simpa using hb
        have HO : Hid (orI a b = b) := by unfold Hid orI; rw [if_pos HA.out]
        clear hb
        go_wp2
        go_ret
        exact ⟨by rw [HO.out]; rfl, rfl⟩
    · have HO : Hid (orI a b = 0) := by unfold Hid orI; rw [if_pos (h1.out (by omega))]; exact h2.out (by omega)
      go_wp2
      go_ret
      exact ⟨by rw [HO.out]; rfl, rfl⟩
end Go.Proofs.Ythcapomobidnbaa
end
section
/- What the shelf's sort of structs does to an owned slice. No program is named here. -/
namespace Go.Sl
open Go Go.RowKit Go.Sort Go.Proofs
section
variable {α : Type} [Inhabited α] {size : Nat} {cells : α → List Value} {pos : 0 < size} {hl : ∀ x, (cells x).length = size} {h1 : ∀ x, ∀ u ∈ cells x, u.oneCell' = true} {h : Hp} {b off cap : Nat} {xs : List α} {w : World}
theorem Ow.holds (o : Ow (Kd.flat size cells pos hl h1) h (some ⟨b, off, .none⟩) cap xs) (s : h.sub w) (hc : 0 < xs.length) : HoldsK cells size w b off xs.toArray := by
  obtain ⟨b', off', cur, E, e, hb, hsz, hrow⟩ := o.row _ rfl (by have := o.le; omega)
  cases e
  have hbw := s b _ hb
  intro t ht
  have ht' : t < xs.length * size := by simpa [size_flatK] using ht
  have hq : t / size < xs.length := (Nat.div_lt_iff_lt_mul pos).2 ht'
  have hm : t % size < size := Nat.mod_lt _ pos
  obtain ⟨cs, hK, hcs⟩ := hrow (t / size) xs[t / size] (by simp [hq])
  have hK' : cs = cells xs[t / size] := hK
  subst hK'
  have hu := hcs (t % size) _ (List.getElem?_eq_getElem (by rw [hl]; exact hm))
  have e2 : off + t / size * size + t % size = off + t := by
    have := Nat.div_add_mod t size
    rw [Nat.mul_comm] at this; omega
  simp only [Kd.flat] at hu
  rw [e2] at hu
  refine ⟨?_, frozen_of_row w b _ cur E hbw⟩
  rw [cell_of_row w b _ cur E (0, 0) hbw, hu, get_flatK _ _ _ t (by simpa using ht')]
  simp only [id]
  have e3 : xs.toArray[t / size]! = xs[t / size] := by simp [hq]
  rw [e3, getElem!_pos _ _ (by rw [hl]; exact hm)]
theorem Ow.sorted (o : Ow (Kd.flat size cells pos hl h1) h (some ⟨b, off, .none⟩) cap xs) (s : h.sub w) (hc : 0 < xs.length) {w' : World} {n : Nat} {d : Array α} {os : Array Obj} (hd : d.size = xs.length) (hw : w' = sortWorldK cells size w b off n d os) :
    ∃ h', Ow (Kd.flat size cells pos hl h1) h' (some ⟨b, off, .none⟩) cap d.toList ∧ Upd h h' w w' := by
  obtain ⟨b', off', cur, E, e, hb, hsz, _⟩ := o.row _ rfl (by have := o.le; omega)
  cases e
  have hbw := s b _ hb
  have hlt := s.lt (b := b) (by simp [hb])
  have hle := o.le
  have hsz' : off + cap * size ≤ cur.size := hsz
  have hfit : xs.length * size ≤ cap * size := Nat.mul_le_mul_right _ hle
  have hblock : ∀ q, q < w.heap.size → w'.heap[q]? = if q = b then some (.cells (putCells id off (flatK cells size d) cur) E (0, 0)) else w.heap[q]? := by
    intro q hq
    subst hw
    show (((w.heap.modify b (onCells (putCells id off (flatK cells size d)))) ++ os)[q]?) = _
    rw [Array.getElem?_append, if_pos (by simpa using hq), Array.getElem?_modify]
    by_cases e : b = q
    · subst e
      rw [if_pos rfl, if_pos rfl, hbw]; rfl
    · rw [if_neg e, if_neg (fun h => e h.symm)]
  refine ⟨h.put b (.cells (putCells id off (flatK cells size d) cur) E), ⟨by simpa [hd] using hle, o.max, o.nil, fun ad e _ => ?_⟩, ?_⟩
  · cases e
    refine ⟨b, off, _, E, rfl, Hp.put_self, by simpa [putCells] using hsz, fun i x hx => ⟨cells x, rfl, fun j u hu => ?_⟩⟩
    have hi : i < d.size := by simpa using (List.getElem?_eq_some_iff.1 hx).1
    have hj : j < size := by rw [← hl x]; exact (List.getElem?_eq_some_iff.1 hu).1
    have ht : i * size + j < d.size * size := by
      have := Nat.mul_le_mul_right size (show i + 1 ≤ d.size from hi); rw [Nat.add_mul, Nat.one_mul] at this; omega
    have e1 : (i * size + j) / size = i := by rw [Nat.mul_comm, Nat.mul_add_div pos, Nat.div_eq_of_lt hj, Nat.add_zero]
    have e2 : (i * size + j) % size = j := by rw [Nat.mul_comm, Nat.mul_add_mod, Nat.mod_eq_of_lt hj]
    have hds : d.size * size = xs.length * size := by rw [hd]
    simp only [Kd.flat, putCells, Array.getElem?_mapIdx]
    rw [Array.getElem?_eq_getElem (by omega)]
    simp only [Option.map_some, size_flatK]
    rw [if_pos (by omega)]
    have e4 : off + i * size + j - off = i * size + j := by omega
    have e5 : d[i]! = x := by
      have h2 := (List.getElem?_eq_some_iff.1 hx).2
      rw [getElem!_pos d i hi]; simpa using h2
    have hu2 := List.getElem?_eq_some_iff.1 hu
    rw [e4, get_flatK _ _ _ _ ht, e1, e2, e5, getElem!_pos _ _ (by rw [hl]; exact hj), hu2.2]; rfl
  · refine ⟨by subst hw; rfl, by subst hw; rfl, by subst hw; rfl, ?_, fun q hq hn => ?_, fun q o2 e2 => ?_, fun q hq => ?_⟩
    · subst hw
      show w.heap.size ≤ ((w.heap.modify b _) ++ os).size
      simp
    · rw [hblock q hq, if_neg (fun e => by rw [e, hb] at hn; cases hn)]
    · simp only [Hp.put] at e2
      split at e2
      · rename_i hq; cases e2; rw [hq, hblock b hlt, if_pos rfl]
      · rename_i hq
        rw [hblock q (s.lt (by simp [e2])), if_neg hq]; exact s q o2 e2
    · left
      simp only [Hp.put] at hq
      split at hq
      · rename_i h2; rw [h2, hb]; simp
      · exact hq
end
/-- A rising list's strict weak order. -/
theorem swo_ord {κ α : Type} (o : Ord κ) (key : α → κ) (lt : α → α → Bool) (h : ∀ x y, lt x y = o.lt (key x) (key y)) : SWO lt where
  irrefl x := by rw [h, o.irrefl]
  trans x y z a b := by rw [h] at *; exact o.trans _ _ _ a b
  ntrans x y z a b := by
    rw [h] at *
    rcases o.tri (key x) (key y) with e | e | e
    · rw [a] at e; cases e
    · rw [e]; exact b
    · rcases o.tri (key y) (key z) with f | f | f
      · rw [b] at f; cases f
      · rw [← f]; exact a
      · exact o.asymm (o.trans _ _ _ f e)
/-- What a list of keys, each once, is when sorted. -/
def isort {κ α : Type} [DecidableEq κ] (o : Ord κ) (key : α → κ) (l : List α) : List α := l.foldr (fun x acc => put o key x acc) []
section
variable {κ α : Type} [DecidableEq κ] {o : Ord κ} {key : α → κ}
theorem isort_rising (l : List α) : Rising o key (isort o key l) := by
  induction l with
  | nil => exact List.Pairwise.nil
  | cons x l ih => exact ih.put o key x
theorem mem_isort {l : List α} (h : l.Pairwise fun x y => key x ≠ key y) {z : α} : z ∈ isort o key l ↔ z ∈ l := by
  induction l with
  | nil => simp [isort]
  | cons x l ih =>
    obtain ⟨a, b⟩ := List.pairwise_cons.1 h
    show z ∈ put o key x (isort o key l) ↔ _
    rw [mem_put, ih b, List.mem_cons]
    constructor
    · rintro (e | ⟨e, _⟩)
      · exact .inl e
      · exact .inr e
    · rintro (e | e)
      · exact .inl e
      · exact .inr ⟨e, fun e2 => a z e e2.symm⟩
theorem isort_of [Inhabited α] {l : List α} (hn : l.Pairwise fun x y => key x ≠ key y) {lt : α → α → Bool} (hlt : ∀ x y, lt x y = o.lt (key x) (key y)) {d : Array α} (hp : PermIn 0 l.length l.toArray d) (hs : SortedIn lt 0 l.length d) : d.toList = isort o key l := by
  obtain ⟨h1, _, h3⟩ := hp
  have h1' : d.size = l.length := by simpa using h1
  have hperm : d.toList.Perm l := by
    have e1 : (d.extract 0 l.length).toList = d.toList := by rw [← h1']; simp
    have e2 : (l.toArray.extract 0 l.length).toList = l := by simp
    rwa [e1, e2] at h3
  refine Rising.ext o key (Rising.of_sorted ?_ ?_) (isort_rising l) fun z => by rw [mem_isort hn]; exact hperm.mem_iff
  · rw [List.pairwise_iff_getElem]
    intro i j hi hj hij
    have hi' : i < d.size := by simpa using hi
    have hj' : j < d.size := by simpa using hj
    have := hs i j (Nat.zero_le _) hij (by omega)
    rw [getElem!_pos d i hi', getElem!_pos d j hj', hlt] at this
    simpa using this
  · exact hperm.symm.pairwise hn fun h => h.symm
end
end Go.Sl
end
section
/- The walk of roll.sorted. -/
namespace Go.Sl
instance : Inhabited SWay := ⟨⟨0, 0, 0, 0, 0⟩⟩
def cfWay (x y : SWay) : Int := orI (cmpI x.cls y.cls) (cmpI x.yr y.yr)
theorem lt_way (x y : SWay) : Go.Proofs.ltOf cfWay x y = ordPair.lt (wkey x) (wkey y) := by
  unfold Go.Proofs.ltOf cfWay orI cmpI
  simp only [ordPair, wkey]
  rw [decide_eq_decide]
  split <;> split <;> (try split) <;> (try split) <;> omega
end Go.Sl
namespace Go.Proofs.Ythcapomobidnbaa
open Go.RowKit Go.Sl Go.Sort
set_option maxHeartbeats 1000000
set_option maxRecDepth 100000
theorem sorted1_calls (x y : SWay) (W : World) : Calls Try.prog 72 #[.agg #[.int .i64 x.cls, .int .i64 x.yr, .int .i64 x.opn, .int .i64 x.mov, .int .i64 x.clo], .agg #[.int .i64 y.cls, .int .i64 y.yr, .int .i64 y.opn, .int .i64 y.mov, .int .i64 y.clo]] W fun e W' => e = .returned (.int .i64 (cfWay x y)) ∧ ∃ q os', W' = grow (W.drewN q) os' := by
  have HC : Hid (cfWay x y = orI (cmpI x.cls y.cls) (cmpI x.yr y.yr)) := rfl
  generalize cfWay x y = r at *
  have C1 := fun W : World => compare_calls x.cls y.cls W
  have C2 := fun W : World => compare_calls x.yr y.yr W
  generalize cmpI x.cls y.cls = a at *
  generalize cmpI x.yr y.yr = b at *
  go_enter Try.func72, Try.ntmps72
  go_wp2
  go_region_held3 (fun w' => w'.cell? ⟨W.heap.size, 0, none⟩ = some (.int .i64 x.cls) ∧ w'.cell? ⟨W.heap.size, 1, none⟩ = some (.int .i64 x.yr) ∧ w'.cell? ⟨W.heap.size + 1, 0, none⟩ = some (.int .i64 y.cls) ∧ w'.cell? ⟨W.heap.size + 1, 1, none⟩ = some (.int .i64 y.yr))
    (go_keep)
    (first
      | (go_at_call 57; ((with_reducible refine (C1 _).mono ?_)); rintro e w' ⟨rfl, rfl⟩)
      | (go_at_call 57; ((with_reducible refine (C2 _).mono ?_)); rintro e w' ⟨rfl, rfl⟩)
      | (go_at_call 63; have OC := fun (V : World) (h0 : V.heap[W.heap.size + 1 + 1]? = some (.cells #[.int .i64 a, .int .i64 b] 3)) => or_calls (W.heap.size + 1 + 1) a b V (by rw [cell_of_row V _ 0 _ _ _ h0]; rfl) (by rw [cell_of_row V _ 1 _ _ _ h0]; rfl); refine (OC _ (by rw [show ∀ V : World, V.drew.heap = V.heap from fun _ => rfl]; exact heap_new_at (by simp))).mono ?_; rintro e w' ⟨rfl, rfl⟩)
      | fail)
  go_wp2
  go_ret
  exact ⟨by rw [HC.out]; rfl, 1, _, by rw [alloc_eq_grow, alloc_eq_grow, alloc_eq_grow]; simp only [grow_grow, drew_grow]; rfl⟩
theorem sortedSome_calls (b off ca : Nat) (rows : List SWay) (h : Hp) (w : World) (hs : h.sub w) (o : Ow kWay h (some ⟨b, off, none⟩) ca rows) (hn : rows.Pairwise fun x y => wkey x ≠ wkey y) (h0 : 0 < rows.length) (hl : rows.length ≤ 1000000) :
    Calls Try.prog 71 #[.slice (some ⟨b, off, none⟩) rows.length ca, .func (.func 72) #[] #[]] w fun e w' => ∃ h', e = .returned (.tuple #[]) ∧ Ow kWay h' (some ⟨b, off, none⟩) ca (isort ordPair wkey rows) ∧ Upd h h' w w' := by
  have eg : ∀ args w, (callFunc 72 args).run Try.prog w = .ok (.enter 72 args) w := enters_of Try.func72 (by kernel_rfl) rfl
  have hH := o.holds hs h0
  have hblk : b < w.heap.size := by
    obtain ⟨b', off', cur, E, e, hb, _, _⟩ := o.row _ rfl (by have := o.le; omega)
    cases e
    exact hs.lt (by simp [hb])
  have hsz := o.small
  have hcmp : Go.Proofs.CmpLays Try.prog 72 #[] SWay.cells 5 cfWay b off rows.toArray.size w := fun _ _ _ _ x y => sorted1_calls x y _
  have key := Go.Proofs.AnyQ.slices_SortFunc Try.sortRow 5 (fun w => by kernel_rfl) (fun w => by kernel_rfl) SWay.cells (fun _ => rfl) (fun x v hv => by simp [SWay.cells] at hv; rcases hv with rfl | rfl | rfl | rfl | rfl <;> rfl) cfWay (swo_ord ordPair wkey _ lt_way) 72 #[] b off ca rows.toArray w eg hcmp hH hblk (by simp; omega)
  refine key.mono ?_
  rintro e w' ⟨he, d, n, os, hp, hso, hw⟩
  have hd : d.size = rows.length := by simpa using hp.1
  obtain ⟨h', o', u'⟩ := o.sorted hs h0 hd hw
  rw [isort_of hn lt_way (by simpa using hp) (by simpa using hso)] at o'
  exact ⟨h', he, o', u'⟩
theorem rollSorted_calls (b off ca : Nat) (rows : List SWay) (h : Hp) (w : World) (hs : h.sub w) (o : Ow kWay h (some ⟨b, off, none⟩) ca rows) (hn : rows.Pairwise fun x y => wkey x ≠ wkey y) (h0 : 0 < rows.length) (hl : rows.length ≤ 1000000) (n : Nat) (hln : rows.length = n) :
    Calls Try.prog 43 #[.slice (some ⟨b, off, none⟩) n ca] w fun e w' => ∃ h', e = .returned (.slice (some ⟨b, off, none⟩) n ca) ∧ Ow kWay h' (some ⟨b, off, none⟩) ca (isort ordPair wkey rows) ∧ Upd h h' w w' := by
  subst hln
  have SC := sortedSome_calls b off ca rows h w hs o hn h0 hl
  go_enter Try.func43, Try.ntmps43
  go_wp2_with fail
  refine SC.mono ?_
  rintro e w1 ⟨h1, rfl, o1, u1⟩
  go_wp2
  go_ret
  exact ⟨h1, rfl, o1, u1⟩
end Go.Proofs.Ythcapomobidnbaa
end
section
/- slices.SortFunc over no rows. -/
namespace Go.Proofs.Ythcapomobidnbaa
open Go.RowKit Go.Sl
set_option maxHeartbeats 1000000
set_option maxRecDepth 100000
theorem ins0_calls (p : Option Addr) (cap : Nat) (fv : Value) (w : World) : Calls Try.prog 101 #[.slice p 0 cap, .int .i64 0, .int .i64 0, fv] w fun e w' => e = .returned (.tuple #[]) ∧ w = w' := by
  go_enter Try.func101, Try.ntmps101
  go_wp2
  go_loop [8] (fun i => i = .int .i64 1) (fun _ => 0)
  case atStart => exact rfl
  case round =>
    obtain rfl := hrel
    go_wp2
    go_end0
    exact ⟨rfl, rfl⟩
theorem pdq0_calls (p : Option Addr) (cap : Nat) (lim : Int) (fv : Value) (w : World) : Calls Try.prog 81 #[.slice p 0 cap, .int .i64 0, .int .i64 0, .int .i64 lim, fv] w fun e w' => e = .returned (.tuple #[]) ∧ w = w' := by
  go_enter Try.func81, Try.ntmps81
  go_wp2
  go_loop [10, 1, 2] (fun b x y => b = .bool true ∧ x = .int .i64 0 ∧ y = .int .i64 0) (fun _ _ _ => 0)
  case atStart => exact ⟨rfl, rfl, rfl⟩
  case round =>
    obtain ⟨rfl, rfl, rfl⟩ := hrel
    go_wp2_with fail
    refine (ins0_calls p cap fv w).mono ?_
    rintro e w' ⟨rfl, rfl⟩
    go_wp2
    exact bodyPost_ret (v := .tuple #[]) (by simp [results, Try.results81, go_sem]) rfl ⟨rfl, rfl⟩
theorem sortNone_calls (p : Option Addr) (cap : Nat) (fv : Value) (w : World) : Calls Try.prog 71 #[.slice p 0 cap, fv] w fun e w' => e = .returned (.tuple #[]) ∧ w = w' := by
  have hl : ∀ W, Calls Try.prog 76 #[.int .u64 0] W fun e w' => e = .returned (.int .i64 (Go.Lib.bitLen 0 : Nat)) ∧ w' = W := fun W =>
    Go.Proofs.Any.bits_Len (Go.Proofs.SlLaysF0.n15.bits (P := Try.prog) (ρ := Try.sortRow_ren) { Try.sortRow with }) 0 W (by omega) (by omega)
  go_enter Try.func71, Try.ntmps71
  go_wp2_with fail
  refine (hl _).mono ?_
  rintro e w' ⟨rfl, rfl⟩
  go_wp2_with fail
  refine (pdq0_calls p cap _ fv _).mono ?_
  rintro e w' ⟨rfl, rfl⟩
  go_wp2
  go_end0
  exact ⟨rfl, rfl⟩
theorem rollSortedNone_calls (p : Option Addr) (cap n : Nat) (hn : 0 = n) (w : World) : Calls Try.prog 43 #[.slice p n cap] w fun e w' => e = .returned (.slice p n cap) ∧ w = w' := by
  subst hn
  have SC := fun fv => sortNone_calls p cap fv w
  go_enter Try.func43, Try.ntmps43
  go_wp2_with fail
  refine (SC _).mono ?_
  rintro e w1 ⟨rfl, rfl⟩
  go_wp2
  go_ret
  exact ⟨rfl, rfl⟩
end Go.Proofs.Ythcapomobidnbaa
end
section
/- Registers of temporary differences, plain. No program is named here. -/
namespace Go.Sl
def rkey (x : STri) : Int × Int := (x.a, x.b)
abbrev RisingR (l : List STri) : Prop := Rising ordPair rkey l
def getB (l : List STri) (c y : Int) : Int := match find rkey (c, y) l with | some b => b.c | none => 0
def sumC (l : List STri) : Int := (l.map (·.c)).sum
def setB (l : List STri) (c y n : Int) : List STri := if n = 0 then del rkey (c, y) l else put ordPair rkey ⟨c, y, n⟩ l
theorem setGo_setB {l : List STri} (h : RisingR l) (c y n : Int) : setGo ordPair rkey ⟨c, y, n⟩ (decide (n = 0)) l = setB l c y n := by
  unfold setB
  by_cases h0 : n = 0
  · rw [if_pos h0, decide_eq_true h0, setGo_true]; rfl
  · rw [if_neg h0, decide_eq_false h0, setGo_false _ _ _ _ h]
def bucketOk (c y : Int) : Bool := decide (1 ≤ c ∧ c ≤ 9 ∧ 0 ≤ y ∧ y ≤ 99)
def moveE (l : List STri) (c y n : Int) : Int :=
  if (bucketOk c y && money n) = false then 1
  else if (money (getB l c y + n) && money (sumC l + n)) = false then 6
  else if 12 < (setB l c y (getB l c y + n)).length then 5 else 0
def moveR (l : List STri) (c y n : Int) : List STri := if moveE l c y n = 0 then setB l c y (getB l c y + n) else l
def reclE (l : List STri) (c y c2 y2 n : Int) : Int :=
  if (bucketOk c y && (bucketOk c2 y2 && (money n && !decide (c = c2 ∧ y = y2)))) = false then 1
  else if (money (getB l c y - n) && money (getB l c2 y2 + n)) = false then 6
  else if 12 < (setB (setB l c y (getB l c y - n)) c2 y2 (getB l c2 y2 + n)).length then 5 else 0
def reclR (l : List STri) (c y c2 y2 n : Int) : List STri := if reclE l c y c2 y2 n = 0 then setB (setB l c y (getB l c y - n)) c2 y2 (getB l c2 y2 + n) else l
/-- What holds of all registers. -/
structure GoodR (l : List STri) : Prop where
  rise : RisingR l
  nz : ∀ b ∈ l, b.c ≠ 0
  mon : ∀ b ∈ l, money b.c = true
  rng : ∀ b ∈ l, bucketOk b.a b.b = true
  len : l.length ≤ 12
theorem GoodR.nil : GoodR [] := ⟨List.Pairwise.nil, by simp, by simp, by simp, by simp⟩
theorem rising_setB {l : List STri} (h : RisingR l) (c y n : Int) : RisingR (setB l c y n) := by
  unfold setB; split
  · exact h.del _ _ _
  · exact h.put _ _ _
theorem mem_setB {l : List STri} {c y n : Int} {x : STri} : x ∈ setB l c y n ↔ (n ≠ 0 ∧ x = ⟨c, y, n⟩) ∨ x ∈ l ∧ rkey x ≠ (c, y) := by
  unfold setB
  split
  · rename_i h; simp [h, mem_del]
  · rename_i h; simp [h, mem_put, rkey]
theorem getB_setB {l : List STri} (h : RisingR l) (c y n c' y' : Int) : getB (setB l c y n) c' y' = if c' = c ∧ y' = y then n else getB l c' y' := by
  unfold setB getB
  by_cases h0 : n = 0
  · rw [if_pos h0, find_del (o := ordPair) _ h]
    by_cases e : (c', y') = (c, y)
    · rw [if_pos e, if_pos (by simpa using e)]; exact h0.symm
    · rw [if_neg e, if_neg (by simpa using e)]
  · rw [if_neg h0, find_put _ h]
    by_cases e : (c', y') = (c, y)
    · rw [if_pos (by simpa [rkey] using e), if_pos (by simpa using e)]
    · rw [if_neg (by simpa [rkey] using e), if_neg (by simpa using e)]
theorem sumC_setB {l : List STri} (h : RisingR l) (c y n : Int) : sumC (setB l c y n) = sumC l - getB l c y + n := by
  have e := sum_del (o := ordPair) (fun b : STri => b.c) (c, y) h
  have e : (l.map (·.c)).sum = ((del rkey (c, y) l).map (·.c)).sum + getB l c y := by
    rw [e]; unfold getB; cases find rkey (c, y) l <;> rfl
  unfold setB sumC
  split
  · rename_i h0; subst h0
    omega
  · rw [sum_put (fun b : STri => b.c) _ h]
    show ((del rkey (c, y) l).map (·.c)).sum + n = _
    omega
theorem len_setB {l : List STri} (h : RisingR l) (c y n : Int) : (setB l c y n).length ≤ l.length + 1 := by
  unfold setB
  split
  · have := del_le (key := rkey) (c, y) l; omega
  · rw [len_put _ h]; have := del_le (key := rkey) (rkey ⟨c, y, n⟩) l; omega
theorem GoodR.setB {l : List STri} (g : GoodR l) {c y n : Int} (hb : bucketOk c y = true) (hn : money n = true) (hl : (setB l c y n).length ≤ 12) : GoodR (setB l c y n) :=
  by
  refine ⟨rising_setB g.rise c y n, fun b hb' => ?_, fun b hb' => ?_, fun b hb' => ?_, hl⟩
  all_goals rcases mem_setB.1 hb' with ⟨h0, rfl⟩ | ⟨h, _⟩
  · exact h0
  · exact g.nz b h
  · exact hn
  · exact g.mon b h
  · exact hb
  · exact g.rng b h
theorem moveE_ok {l : List STri} {c y n : Int} (h : moveE l c y n = 0) : bucketOk c y = true ∧ money n = true ∧ money (getB l c y + n) = true ∧ money (sumC l + n) = true ∧ (Go.Sl.setB l c y (getB l c y + n)).length ≤ 12 := by
  unfold moveE at h
  split at h
  · cases h
  · split at h
    · cases h
    · split at h
      · cases h
      · rename_i h1 h2 h3
        simp at h1 h2
        exact ⟨h1.1, h1.2, h2.1, h2.2, by omega⟩
theorem GoodR.move {l : List STri} (g : GoodR l) (c y n : Int) : GoodR (moveR l c y n) := by
  unfold moveR
  split
  · rename_i h
    obtain ⟨h1, _, h3, _, h5⟩ := moveE_ok h
    exact g.setB h1 h3 h5
  · exact g
theorem reclE_ok {l : List STri} {c y c2 y2 n : Int} (h : reclE l c y c2 y2 n = 0) : bucketOk c y = true ∧ bucketOk c2 y2 = true ∧ money n = true ∧ ¬(c = c2 ∧ y = y2) ∧ money (getB l c y - n) = true ∧ money (getB l c2 y2 + n) = true ∧ (Go.Sl.setB (Go.Sl.setB l c y (getB l c y - n)) c2 y2 (getB l c2 y2 + n)).length ≤ 12 := by
  unfold reclE at h
  split at h
  · cases h
  · split at h
    · cases h
    · split at h
      · cases h
      · rename_i h1 h2 h3
        simp at h1 h2
        exact ⟨h1.1, h1.2.1, h1.2.2.1, by simpa using h1.2.2.2, h2.1, h2.2, by omega⟩
theorem mem_len {l : List STri} (h : ∀ b ∈ l, money b.c = true) : ∀ b ∈ l, -100000000000 ≤ b.c ∧ b.c ≤ 100000000000 := fun b hb => by have := h b hb; simpa [money] using this
theorem sumC_bd {m : Int} (hm : 0 ≤ m) : ∀ l : List STri, (∀ b ∈ l, -m ≤ b.c ∧ b.c ≤ m) → -(l.length * m) ≤ sumC l ∧ sumC l ≤ l.length * m
  | [], _ => by simp [sumC]
  | b :: l, h => by
    have h1 := sumC_bd hm l fun x hx => h x (by simp [hx])
    have h2 := h b (by simp)
    have e : sumC (b :: l) = b.c + sumC l := by simp [sumC]
    rw [e]
    simp only [List.length_cons, Int.natCast_add, Int.add_mul, Int.natCast_one, Int.one_mul]
    omega
theorem GoodR.sum {l : List STri} (g : GoodR l) : -1200000000000 ≤ sumC l ∧ sumC l ≤ 1200000000000 := by
  have h := sumC_bd (m := 100000000000) (by omega) l (mem_len g.mon)
  have := g.len
  omega
theorem GoodR.get {l : List STri} (g : GoodR l) (c y : Int) : -100000000000 ≤ getB l c y ∧ getB l c y ≤ 100000000000 := by
  unfold getB
  split
  · rename_i b hb; exact mem_len g.mon b (find_some hb).1
  · omega
/-- A register out of numbers. -/
def regStep (l : List STri) (z : Int) : List STri := moveR l (1 + within z 3) (within (z.tdiv 3) 5) (amount (z.tdiv 15))
def regOf (zs : List Int) : List STri := (zs.take 10).foldl regStep []
theorem GoodR.foldl : ∀ (zs : List Int) (l : List STri), GoodR l → GoodR (zs.foldl regStep l)
  | [], _, g => g
  | _ :: zs, _, g => GoodR.foldl zs _ (g.move _ _ _)
theorem regOf_good (zs : List Int) : GoodR (regOf zs) := GoodR.foldl _ _ .nil
end Go.Sl
end
section
/- The walk of ref01.Money. -/
namespace Go.Proofs.Ythcapomobidnbaa
open Go.RowKit Go.Sl
set_option maxHeartbeats 400000
theorem refMoney_calls (n : Int) (w : World) : Calls Try.prog 49 #[.int .i64 n] w fun e w' => e = .returned (.bool (money n)) ∧ w = w' := by
  go_enter Try.func49, Try.ntmps49
  go_wp2
  all_goals
    go_ret
    exact ⟨by simp [money]; omega, rfl⟩
end Go.Proofs.Ythcapomobidnbaa
end
section
/- What the type table says of api.Bucket. -/
namespace Go.Proofs.Ythcapomobidnbaa
open Go.RowKit Go.Sl
set_option maxHeartbeats 1000000
set_option maxRecDepth 100000
theorem info_bucket : Info Try.prog 40 (.agg #[.int .i64 0, .int .i64 0, .int .i64 0]) 3 24 := by unfold Info; kernel_rfl
end Go.Proofs.Ythcapomobidnbaa
end
section
/- The walks of the reference's register: Get, Total, set. -/
namespace Go.Sl
open Go Go.RowKit
theorem find_hit {κ α : Type} [DecidableEq κ] {key : α → κ} {k : κ} {l : List α} {j : Nat} {x : α} (h : ∀ y ∈ l.take j, key y ≠ k) (hx : l[j]? = some x) (hk : key x = k) : find key k l = some x := by
  have hj := List.getElem?_eq_some_iff.1 hx
  have e : l = l.take j ++ x :: l.drop (j + 1) := by
    have := List.take_append_drop j l
    rw [List.drop_eq_getElem_cons hj.1, hj.2] at this; exact this.symm
  unfold find
  rw [e, List.find?_append]
  have h2 : (l.take j).find? (fun y => decide (key y = k)) = none := by
    rw [List.find?_eq_none]; intro y hy; simpa using h y hy
  rw [h2]; simp [hk]
theorem find_miss {κ α : Type} [DecidableEq κ] {key : α → κ} {k : κ} {l : List α} (h : ∀ y ∈ l, key y ≠ k) : find key k l = none := by
  unfold find; rw [List.find?_eq_none]; intro y hy; simpa using h y hy
theorem drop_next {α : Type} {xs : List α} {i : Nat} {x : α} (h : Hid (xs[i]? = some x)) : xs.drop i = x :: xs.drop (i + 1) := by
  have h2 := List.getElem?_eq_some_iff.1 h.out
  rw [List.drop_eq_getElem_cons h2.1, h2.2]
/-- A register's own struct. -/
def kReg : Kd (List STri) where
  size := 1
  K h l cs := ∃ A cap, cs = [.slice A l.length cap] ∧ Ow kTri h A cap l
  pos := by decide
  len := by rintro h x cs ⟨A, cap, rfl, _⟩; rfl
  one := by rintro h x cs ⟨A, cap, rfl, _⟩ u hu; simp at hu; subst hu; rfl
  mono := by rintro h h' x cs ⟨A, cap, e, s⟩ l; exact ⟨A, cap, e, s.mono l⟩
theorem Pt.reg {T : TypeId} {h : Hp} {b : Nat} {l : List STri} {w : World} (p : Pt kReg T h b l) (s : h.sub w) : ∃ A ca, w.cell? ⟨b, 0, none⟩ = some (.slice A l.length ca) ∧ Sl kTri h A ca l := by
  obtain ⟨cs, hb, A, ca, rfl, ow⟩ := p
  exact ⟨A, ca, by rw [cell_of_row w b 0 _ _ _ (s b _ hb)]; rfl, ow.sl.mono (Hp.del_le _ _)⟩
end Go.Sl
namespace Go.Proofs.Ythcapomobidnbaa
open Go.RowKit Go.Sl
set_option maxHeartbeats 1000000
set_option maxRecDepth 100000
theorem refGet_calls (p : Nat) (A : Option Addr) (ca : Nat) (l : List STri) (c y : Int) (h : Hp) (w : World) (hs : h.sub w) (hc : w.cell? ⟨p, 0, none⟩ = some (.slice A l.length ca)) (sx : Sl kTri h A ca l) :
    Calls Try.prog 18 #[.pointer (some ⟨p, 0, none⟩), .int .i64 c, .int .i64 y] w fun e w' => e = .returned (.int .i64 (getB l c y)) ∧ Below w.heap.size w w' := by
  have m1 := sx.small
  go_enter Try.func18, Try.ntmps18
  go_wp2
  go_loopw [14] (fun i wr => ∃ (j : Nat), j ≤ l.length ∧ i = .int .i64 j ∧ Hid (∀ z ∈ l.take j, rkey z ≠ (c, y)) ∧ Below w.heap.size w wr) (fun i _ => l.length - (intOf i).toNat)
  case atStart => exact ⟨0, by omega, rfl, by unfold Hid; simp, Below.refl _ _⟩
  case round =>
    obtain ⟨j, hj, rfl, hn, hb⟩ := hrel
    by_cases hlt : j < l.length
    · obtain ⟨x, hx⟩ := some_of_lt hlt
      obtain ⟨b1, o1, rfl, c1, c2, c3⟩ := sx.tri (hs.of_below hb) hx
      have i1 : (0 : Int) ≤ (j : Int) := by omega
      have i2 : (j : Int) < (l.length : Int) := by omega
      have HN : rkey x ≠ (c, y) → Hid (∀ z ∈ l.take (j + 1), rkey z ≠ (c, y)) := fun h z hz => by
        rw [take_next hx] at hz
        rcases List.mem_append.1 hz with hz | hz
        · exact hn.out z hz
        · simp at hz; rw [hz]; exact h
      by_cases ha : x.a = c
      · by_cases hbb : x.b = y
        · have HF : Hid (getB l c y = x.c) := by
            unfold Hid getB; rw [find_hit hn.out hx.out (by simp [rkey, ha, hbb])]
          have t1 : (x.a == c) = true := by simpa using ha
          have t2 : (x.b == y) = true := by simpa using hbb
          clear ha hbb HN
          go_wp2
          go_ret
          exact ⟨by rw [HF.out]; rfl, hb.alloc hb.size _⟩
        · have HN' := HN (by simp [rkey, hbb])
          have t1 : (x.a == c) = true := by simpa using ha
          have t2 : (x.b == y) = false := by simpa using hbb
          clear ha hbb HN
          go_wp2
          go_roundw
          case rel => exact ⟨j + 1, by omega, by go_num, HN', hb.alloc hb.size _⟩
          case measure => simp [intOf]; omega
      · have HN' := HN (by simp [rkey, ha])
        have t1 : (x.a == c) = false := by simpa using ha
        clear ha HN
        go_wp2
        go_roundw
        case rel => exact ⟨j + 1, by omega, by go_num, HN', hb.alloc hb.size _⟩
        case measure => simp [intOf]; omega
    · have HF : Hid (getB l c y = 0) := by
        unfold Hid getB; rw [find_miss fun z hz => hn.out z (by rw [List.take_of_length_le (by omega)]; exact hz)]
      go_wp2
      go_ret
      exact ⟨by rw [HF.out]; rfl, hb⟩
theorem sumC_snoc (l : List STri) (x : STri) : sumC (l ++ [x]) = sumC l + x.c := by simp [sumC]
theorem refTotal_calls (p : Nat) (A : Option Addr) (ca : Nat) (l : List STri) (h : Hp) (w : World) (hs : h.sub w) (hc : w.cell? ⟨p, 0, none⟩ = some (.slice A l.length ca)) (sx : Sl kTri h A ca l) (hl : l.length ≤ 1000) (hm : ∀ b ∈ l, -100000000000 ≤ b.c ∧ b.c ≤ 100000000000) :
    Calls Try.prog 25 #[.pointer (some ⟨p, 0, none⟩)] w fun e w' => e = .returned (.int .i64 (sumC l)) ∧ Below w.heap.size w w' := by
  have m1 := sx.small
  have HM := Lib.hid hm
  clear hm
  go_enter Try.func25, Try.ntmps25
  go_wp2
  go_loopw [3, 11] (fun s i wr => ∃ (j : Nat), j ≤ l.length ∧ i = .int .i64 j ∧ s = .int .i64 (sumC (l.take j)) ∧ Below w.heap.size w wr) (fun _ i _ => l.length - (intOf i).toNat)
  case atStart => exact ⟨0, by omega, rfl, rfl, Below.refl _ _⟩
  case round =>
    obtain ⟨j, hj, rfl, rfl, hb⟩ := hrel
    by_cases hlt : j < l.length
    · obtain ⟨x, hx⟩ := some_of_lt hlt
      obtain ⟨b1, o1, rfl, c1, c2, c3⟩ := sx.tri (hs.of_below hb) hx
      have i1 : (0 : Int) ≤ (j : Int) := by omega
      have i2 : (j : Int) < (l.length : Int) := by omega
      have q1 := HM.out x (List.mem_of_getElem? hx.out)
      have q2 := sumC_bd (m := 100000000000) (by omega) (l.take j) fun b hb => HM.out b (List.mem_of_mem_take hb)
      rw [List.length_take] at q2
      obtain ⟨q3, q4⟩ : -1000000000000000 ≤ sumC (l.take j) ∧ sumC (l.take j) ≤ 1000000000000000 := by omega
      clear q2
      have HT : Hid (sumC (l.take (j + 1)) = sumC (l.take j) + x.c) := by unfold Hid; rw [take_next hx, sumC_snoc]
      go_wp2
      go_roundw
      case rel => exact ⟨j + 1, by omega, by go_num, by rw [HT.out], hb.alloc hb.size _⟩
      case measure => simp [intOf]; omega
    · obtain rfl : j = l.length := by omega
      rw [List.take_length]
      go_wp2
      go_ret
      exact ⟨rfl, hb⟩
theorem refBucket_calls (c y : Int) (w : World) : Calls Try.prog 66 #[.int .i64 c, .int .i64 y] w fun e w' => e = .returned (.bool (bucketOk c y)) ∧ w = w' := by
  have Y : ∀ (y : Int) (w : World), Calls Try.prog 80 #[.int .i64 y] w fun e w' => e = .returned (.bool (decide (0 ≤ y ∧ y ≤ 99))) ∧ w = w' := fun y w => by
    go_enter Try.func80, Try.ntmps80
    go_wp2
    all_goals
      go_ret
      exact ⟨by simp; omega, rfl⟩
  have HB : ∀ b : Bool, b = decide (0 ≤ y ∧ y ≤ 99) → Hid (bucketOk c y = (decide (1 ≤ c ∧ c ≤ 9) && b)) := fun b hb => by
    unfold Hid bucketOk; rw [hb, Bool.eq_iff_iff]; simp; omega
  have YC := Y y
  generalize hq : decide (0 ≤ y ∧ y ≤ 99) = q at *
  have HB' := HB q rfl
  clear HB hq Y
  go_enter Try.func66, Try.ntmps66
  go_wp2_with (go_at_call 80; refine (YC _).mono ?_; rintro e w' ⟨rfl, rfl⟩)
  all_goals
    go_ret
    exact ⟨by rw [HB'.out]; simp; omega, rfl⟩
end Go.Proofs.Ythcapomobidnbaa
end
section
/- The walk of roll.Forward. -/
namespace Go.Sl
open Go Go.RowKit
def setO (v : Int) (r : SWay) : SWay := ⟨r.cls, r.yr, v, r.mov, r.clo⟩
def setC (v : Int) (r : SWay) : SWay := ⟨r.cls, r.yr, r.opn, r.mov, v⟩
def fO (rows : List SWay) (b : STri) : List SWay := ups (setO b.c) b.a b.b rows
def fC (rows : List SWay) (b : STri) : List SWay := ups (setC b.c) b.a b.b rows
def fM (r : SWay) : SWay := ⟨r.cls, r.yr, r.opn, wrap64 (r.clo - r.opn), r.clo⟩
def fwdRaw (o c : List STri) : List SWay := (c.foldl fC (o.foldl fO [])).map fM
def fwd (o c : List STri) : List SWay := isort ordPair wkey (fwdRaw o c)
theorem fold_len {f : List SWay → STri → List SWay} (hf : ∀ rows b, (f rows b).length ≤ rows.length + 1) : ∀ (l : List STri) (rows : List SWay), (l.foldl f rows).length ≤ rows.length + l.length
  | [], rows => by simp
  | b :: l, rows => by
    have h1 := fold_len hf l (f rows b)
    have h2 := hf rows b
    simp only [List.foldl_cons, List.length_cons]; omega
theorem fO_len (rows : List SWay) (b : STri) : (fO rows b).length ≤ rows.length + 1 := len_ups _ _ _ _
theorem fC_len (rows : List SWay) (b : STri) : (fC rows b).length ≤ rows.length + 1 := len_ups _ _ _ _
theorem fold_dist {f : List SWay → STri → List SWay} (hf : ∀ rows b, Dist rows → Dist (f rows b)) : ∀ (l : List STri) (rows : List SWay), Dist rows → Dist (l.foldl f rows)
  | [], _, h => h
  | b :: l, rows, h => fold_dist hf l _ (hf rows b h)
theorem fO_dist (rows : List SWay) (b : STri) (h : Dist rows) : Dist (fO rows b) := Dist.ups (f := setO b.c) (fun _ => rfl) _ _ h
theorem fC_dist (rows : List SWay) (b : STri) (h : Dist rows) : Dist (fC rows b) := Dist.ups (f := setC b.c) (fun _ => rfl) _ _ h
theorem fwdRaw_dist (o c : List STri) : Dist (fwdRaw o c) := by
  have h := fold_dist fC_dist c _ (fold_dist fO_dist o [] List.Pairwise.nil)
  unfold fwdRaw Dist
  rw [List.pairwise_map]
  exact h
theorem isort_len {l : List SWay} (h : Dist l) : (isort ordPair wkey l).length = l.length := by
  induction l with
  | nil => rfl
  | cons x l ih =>
    obtain ⟨h1, h2⟩ := List.pairwise_cons.1 h
    show (put ordPair wkey x (isort ordPair wkey l)).length = _
    rw [len_put x (isort_rising l), del_none, ih h2]; rfl
    refine find_miss fun y hy => ?_
    have := (mem_isort h2).1 hy
    exact (h1 y this).symm
theorem foldl_next {f : List SWay → STri → List SWay} {l : List STri} {j : Nat} {b : STri} (h : Hid (l[j]? = some b)) (rows : List SWay) : (l.take (j + 1)).foldl f rows = f ((l.take j).foldl f rows) b := by
  rw [take_next h, List.foldl_append]; rfl
end Go.Sl
namespace Go.Proofs.Ythcapomobidnbaa
open Go.RowKit Go.Sl
set_option maxHeartbeats 4000000
set_option maxRecDepth 100000
theorem forward_calls (A B : Option Addr) (ca cb : Nat) (xs ys : List STri) (h k : Hp) (w : World) (hs : h.sub w) (ks : k.sub w) (sx : Sl kTri h A ca xs) (sy : Sl kTri k B cb ys) (hx : xs.length ≤ 1000) (hy : ys.length ≤ 1000) :
    Calls Try.prog 17 #[.slice A xs.length ca, .slice B ys.length cb] w fun e w' => ∃ C cap h', e = .returned (.slice C (fwd xs ys).length cap) ∧ Ow kWay h' C cap (fwd xs ys) ∧ Upd Hp.none h' w w' := by
  have m1 := sx.small
  have m2 := sy.small
  go_enter Try.func17, Try.ntmps17
  go_wp2
  go_loopw [5, 6, 14] (fun v iv i wr => ∃ (j cap m : Nat) (z : Int) (C : Option Addr) (h' : Hp), j ≤ xs.length ∧ i = .int .i64 j ∧ iv = .int .i64 z ∧ v = .slice C m cap ∧ Hid (((xs.take j).foldl fO []).length = m) ∧ m ≤ j ∧ Ow kWay h' C cap ((xs.take j).foldl fO []) ∧ Upd Hp.none h' w wr) (fun _ _ i _ => xs.length - (intOf i).toNat)
  case atStart => exact ⟨0, 0, 0, 0, none, Hp.none, by omega, rfl, rfl, rfl, rfl, by omega, Ow.none _ _, Upd.of_below (Below.refl _ _)⟩
  case round =>
    obtain ⟨j, cap, m, z, C, h', hj, rfl, rfl, rfl, hm, hm2, ho, hu⟩ := hrel
    by_cases hlt : j < xs.length
    · obtain ⟨x, hxx⟩ := some_of_lt hlt
      obtain ⟨b1, o1, rfl, c1, c2, c3⟩ := sx.tri (hs.of_below hu.below) hxx
      have i1 : (0 : Int) ≤ (j : Int) := by omega
      have i2 : (j : Int) < (xs.length : Int) := by omega
      have HT := Lib.hid (foldl_next (f := fO) hxx [])
      have HLn : Hid ((fO ((xs.take j).foldl fO []) x).length ≤ m + 1) := by unfold Hid; rw [← hm.out]; exact fO_len _ _
      generalize (xs.take j).foldl fO [] = rows at *
      obtain ⟨r, hr1, hr2, hr3⟩ := at_ups (setO x.c) x.a x.b rows
      have hr2' : Hid ((atR rows x.a x.b).set (atI rows x.a x.b) (setO x.c r) = fO rows x) := hr2
      have AC := fun (W : World) (hW : Below wr.heap.size wr W) => at_calls C cap rows x.a x.b h' W (hu.sub.of_below hW) ho (by rw [hm.out]; omega) m hm.out
      clear hr2
      generalize atR rows x.a x.b = R at *
      generalize atI rows x.a x.b = q at *
      have hr1' : Hid (R[q]? = some r) := hr1
      have i3 : (0 : Int) ≤ (q : Int) := by omega
      have i4 : (q : Int) < (R.length : Int) := by have := (List.getElem?_eq_some_iff.1 hr1).1; omega
      clear hr1
      go_wp2_with fail
      refine (AC _ (by repeat (first | exact Below.refl _ _ | apply Below.drew | refine Below.alloc ?_ (by simp) _))).mono ?_
      rintro e w2 ⟨C2, cap2, h2, rfl, o2, u2⟩
      obtain ⟨b2, of2, rfl, d1, d2, d3, d4, d5⟩ := o2.sl.way u2.sub hr1'
      have hf := o2.cell_free u2.sub (lt_of_some hr1'.out)
      have hfree : h' wr.heap.size = none := hu.sub.free (Nat.le_refl _)
      have g2 : w2.cell? ⟨wr.heap.size, 2, none⟩ = some (.int .i64 x.c) := u2.cell (by simp) hfree
      obtain ⟨h3, o3, u3⟩ := Ow.set (x' := setO x.c r) (v := .int .i64 x.c) (j := 2) o2 u2.sub hr1'.out (by decide) rfl
      rw [hr2'.out] at o3
      have hlr : Hid ((fO rows x).length = R.length) := by unfold Hid; rw [← hr2'.out, List.length_set]
      clear hfree AC
      go_wp2
      go_roundw
      case rel => exact ⟨j + 1, cap2, R.length, q, _, h3, by omega, by go_num, rfl, rfl, by rw [HT.out]; exact hlr.out, by have := HLn.out; have := hlr.out; omega, by rw [HT.out]; exact o3, hu.trans ((u2.before (by repeat (first | exact Below.refl _ _ | apply Below.drew | refine Below.alloc ?_ (by simp) _))).trans u3)⟩
      case measure => simp [intOf]; omega
    · obtain rfl : j = xs.length := by omega
      rw [List.take_length] at hm ho
      have hd0 : Hid (Dist (xs.foldl fO [])) := fold_dist fO_dist xs [] List.Pairwise.nil
      have HF : Hid (fwdRaw xs ys = (ys.foldl fC (xs.foldl fO [])).map fM) := rfl
      generalize xs.foldl fO [] = rows0 at *
      obtain ⟨wo, rfl⟩ : ∃ wo : World, wo = wr := ⟨_, rfl⟩
      go_wp2
      go_loopw [5, 6, 36] (fun v iv i wr => ∃ (j cap m : Nat) (z : Int) (C : Option Addr) (h' : Hp), j ≤ ys.length ∧ i = .int .i64 j ∧ iv = .int .i64 z ∧ v = .slice C m cap ∧ Hid (((ys.take j).foldl fC rows0).length = m) ∧ m ≤ xs.length + j ∧ Ow kWay h' C cap ((ys.take j).foldl fC rows0) ∧ Upd Hp.none h' w wr) (fun _ _ i _ => ys.length - (intOf i).toNat)
      case atStart => exact ⟨0, cap, m, z, C, h', by omega, rfl, rfl, rfl, hm, by omega, ho, hu⟩
      case round =>
        clear ho hm hm2 hu
        obtain ⟨j, cap, m, z, C, h', hj, rfl, rfl, rfl, hm, hm2, ho, hu⟩ := hrel
        by_cases hlt : j < ys.length
        · obtain ⟨x, hxx⟩ := some_of_lt hlt
          obtain ⟨b1, o1, rfl, c1, c2, c3⟩ := sy.tri (ks.of_below hu.below) hxx
          have i1 : (0 : Int) ≤ (j : Int) := by omega
          have i2 : (j : Int) < (ys.length : Int) := by omega
          have HT := Lib.hid (foldl_next (f := fC) hxx rows0)
          have HLn : Hid ((fC ((ys.take j).foldl fC rows0) x).length ≤ m + 1) := by unfold Hid; rw [← hm.out]; exact fC_len _ _
          generalize (ys.take j).foldl fC rows0 = rows at *
          obtain ⟨r, hr1, hr2, hr3⟩ := at_ups (setC x.c) x.a x.b rows
          have hr2' : Hid ((atR rows x.a x.b).set (atI rows x.a x.b) (setC x.c r) = fC rows x) := hr2
          have AC := fun (W : World) (hW : Below wr.heap.size wr W) => at_calls C cap rows x.a x.b h' W (hu.sub.of_below hW) ho (by rw [hm.out]; omega) m hm.out
          clear hr2
          generalize atR rows x.a x.b = R at *
          generalize atI rows x.a x.b = q at *
          have hr1' : Hid (R[q]? = some r) := hr1
          have i3 : (0 : Int) ≤ (q : Int) := by omega
          have i4 : (q : Int) < (R.length : Int) := by have := (List.getElem?_eq_some_iff.1 hr1).1; omega
          clear hr1
          go_wp2_with fail
          refine (AC _ (by repeat (first | exact Below.refl _ _ | apply Below.drew | refine Below.alloc ?_ (by simp) _))).mono ?_
          rintro e w2 ⟨C2, cap2, h2, rfl, o2, u2⟩
          obtain ⟨b2, of2, rfl, d1, d2, d3, d4, d5⟩ := o2.sl.way u2.sub hr1'
          have hf := o2.cell_free u2.sub (lt_of_some hr1'.out)
          have hfree : h' wr.heap.size = none := hu.sub.free (Nat.le_refl _)
          have g2 : w2.cell? ⟨wr.heap.size, 2, none⟩ = some (.int .i64 x.c) := u2.cell (by simp) hfree
          obtain ⟨h3, o3, u3⟩ := Ow.set (x' := setC x.c r) (v := .int .i64 x.c) (j := 4) o2 u2.sub hr1'.out (by decide) rfl
          rw [hr2'.out] at o3
          have hlr : Hid ((fC rows x).length = R.length) := by unfold Hid; rw [← hr2'.out, List.length_set]
          clear hfree AC
          go_wp2
          go_roundw
          case rel => exact ⟨j + 1, cap2, R.length, q, _, h3, by omega, by go_num, rfl, rfl, by rw [HT.out]; exact hlr.out, by have := HLn.out; have := hlr.out; omega, by rw [HT.out]; exact o3, hu.trans ((u2.before (by repeat (first | exact Below.refl _ _ | apply Below.drew | refine Below.alloc ?_ (by simp) _))).trans u3)⟩
          case measure => simp [intOf]; omega
        · obtain rfl : j = ys.length := by omega
          rw [List.take_length] at hm ho
          have hD : Hid (Dist (fwdRaw xs ys)) := fwdRaw_dist xs ys
          generalize ys.foldl fC rows0 = rows1 at *
          obtain ⟨wp, rfl⟩ : ∃ wp : World, wp = wr := ⟨_, rfl⟩
          go_wp2
          go_loopw [58] (fun i wr => ∃ (j : Nat) (zs : List SWay) (h' : Hp), j ≤ m ∧ i = .int .i64 j ∧ Hid (zs = (rows1.take j).map fM ++ rows1.drop j) ∧ Ow kWay h' C cap zs ∧ Upd Hp.none h' w wr) (fun i _ => m - (intOf i).toNat)
          case atStart => exact ⟨0, rows1, h', by omega, rfl, rfl, ho, hu⟩
          case round =>
            clear ho hu
            obtain ⟨j, zs, h', hj, rfl, hz, ho, hu⟩ := hrel
            by_cases hlt : j < m
            · obtain ⟨x, hxx⟩ := some_of_lt (show j < rows1.length by rw [hm.out]; exact hlt)
              have hzx : Hid (zs[j]? = some x) := by unfold Hid; rw [hz.out, map_get_step]; exact hxx.out
              obtain ⟨b1, o1, rfl, c1, c2, c3, c4, c5⟩ := ho.sl.way hu.sub hzx
              have hf := ho.cell_free hu.sub (lt_of_some hzx.out)
              have i1 : (0 : Int) ≤ (j : Int) := by omega
              have i2 : (j : Int) < (m : Int) := by omega
              obtain ⟨h3, o3, u3⟩ := Ow.set (x' := fM x) (v := .int .i64 (wrap64 (x.clo - x.opn))) (j := 3) ho hu.sub hzx.out (by decide) rfl
              have hz2 : Hid (zs.set j (fM x) = (rows1.take (j + 1)).map fM ++ rows1.drop (j + 1)) := by unfold Hid; rw [hz.out]; exact map_set_step fM rows1 j x hxx.out
              go_wp2
              go_region
              go_wp2
              go_roundw
              case rel => exact ⟨j + 1, _, h3, by omega, by go_num, hz2, o3, (hu.trans u3).after ((Below.refl _ _).drew)⟩
              case measure => simp [intOf]; omega
            · obtain rfl : j = m := by omega
              have hzf : Hid (zs = fwdRaw xs ys) := by
                unfold Hid; rw [hz.out, HF.out, List.take_of_length_le (by rw [hm.out]; omega), List.drop_of_length_le (by rw [hm.out]; omega), List.append_nil]
              have hzl : Hid (zs.length = j) := by unfold Hid; rw [hz.out]; simp [hm.out]
              have hDz : Hid (Dist zs) := by unfold Hid; rw [hzf.out]; exact hD.out
              have hfw : Hid (fwd xs ys = isort ordPair wkey zs) := by unfold Hid fwd; rw [hzf.out]
              clear hz hD HF hd0
              by_cases h0 : 0 < zs.length
              · obtain ⟨ad, hC⟩ := ho.some_of_lt h0
                obtain ⟨b1, o1, cur, E, hd, _⟩ := ho.row ad hC (by have := ho.le; omega)
                subst hd
                subst hC
                go_wp2_with fail
                refine (rollSorted_calls b1 o1 cap zs h' _ hu.sub ho hDz.out h0 (by rw [hzl.out]; omega) j hzl.out).mono ?_
                rintro e w4 ⟨h4, rfl, o4, u4⟩
                go_wp2
                go_ret
                exact ⟨_, _, h4, by rw [hfw.out, isort_len hDz.out, hzl.out]; rfl, by rw [hfw.out]; exact o4, hu.trans u4⟩
              · have hz0 : zs = [] := List.eq_nil_of_length_eq_zero (by omega)
                have hj0 : 0 = j := by rw [← hzl.out, hz0]; rfl
                have hfe : Hid (fwd xs ys = []) := by unfold Hid; rw [hfw.out, hz0]; rfl
                have hoe : Hid (Ow kWay h' C cap []) := by rw [hz0] at ho; exact ho
                clear ho h0 hzl hz0 hfw hzf hDz
                go_wp2_with fail
                refine (rollSortedNone_calls C cap j hj0 _).mono ?_
                rintro e w4 ⟨rfl, rfl⟩
                go_wp2
                go_ret
                exact ⟨C, cap, h', by rw [hfe.out, ← hj0]; rfl, by rw [hfe.out]; exact hoe.out, hu⟩
end Go.Proofs.Ythcapomobidnbaa
end
section
/- What the type table says of scutageref09.Way. -/
namespace Go.Proofs.Ythcapomobidnbaa
open Go.RowKit Go.Sl
set_option maxHeartbeats 1000000
set_option maxRecDepth 100000
theorem info_way : Info Try.prog 44 (.agg #[.int .i64 0, .int .i64 0, .int .i64 0, .int .i64 0, .int .i64 0]) 5 40 := by unfold Info; kernel_rfl
end Go.Proofs.Ythcapomobidnbaa
end
section
/- The walk of the reference's Forward. -/
namespace Go.Sl
open Go Go.RowKit
def wayOf (o c : List STri) (cl yr : Int) : List SWay := if getB o cl yr ≠ 0 ∨ getB c cl yr ≠ 0 then [⟨cl, yr, getB o cl yr, wrap64 (getB c cl yr - getB o cl yr), getB c cl yr⟩] else []
def yrsTo (o c : List STri) (cl : Int) : Nat → List SWay
  | 0 => []
  | n + 1 => yrsTo o c cl n ++ wayOf o c cl n
def clsTo (o c : List STri) : Nat → List SWay
  | 0 => []
  | m + 1 => clsTo o c m ++ yrsTo o c (m + 1) 100
def refFwd (o c : List STri) : List SWay := clsTo o c 9
theorem yrsTo_len (o c : List STri) (cl : Int) : ∀ n, (yrsTo o c cl n).length ≤ n
  | 0 => by simp [yrsTo]
  | n + 1 => by
    have := yrsTo_len o c cl n
    simp only [yrsTo, wayOf, List.length_append]
    split <;> simp <;> omega
theorem clsTo_len (o c : List STri) : ∀ m, (clsTo o c m).length ≤ m * 100
  | 0 => by simp [clsTo]
  | m + 1 => by
    have h1 := clsTo_len o c m
    have h2 := yrsTo_len o c (m + 1) 100
    simp only [clsTo, List.length_append]; omega
end Go.Sl
namespace Go.Proofs.Ythcapomobidnbaa
open Go.RowKit Go.Sl
set_option maxHeartbeats 4000000
set_option maxRecDepth 100000
theorem refForward_calls (A B : Option Addr) (ca cb : Nat) (xs ys : List STri) (h k : Hp) (w : World) (hs : h.sub w) (ks : k.sub w) (sx : Sl kTri h A ca xs) (sy : Sl kTri k B cb ys) :
    Calls Try.prog 24 #[.slice A xs.length ca, .slice B ys.length cb] w fun e w' => ∃ C cap h', e = .returned (.slice C (refFwd xs ys).length cap) ∧ Ow kWay h' C cap (refFwd xs ys) ∧ Upd Hp.none h' w w' := by
  have m1 := sx.small
  have m2 := sy.small
  have GX := fun (p : Nat) (W : World) (hW : Below w.heap.size w W) (hc : W.cell? ⟨p, 0, none⟩ = some (.slice A xs.length ca)) (c y : Int) => refGet_calls p A ca xs c y h W (hs.of_below hW) hc sx
  have GY := fun (p : Nat) (W : World) (hW : Below w.heap.size w W) (hc : W.cell? ⟨p, 0, none⟩ = some (.slice B ys.length cb)) (c y : Int) => refGet_calls p B cb ys c y k W (ks.of_below hW) hc sy
  go_enter Try.func24, Try.ntmps24
  go_wp2
  obtain ⟨W0, hW0⟩ : ∃ W0 : World, W0 = (w.alloc (.cells #[.slice A xs.length ca] 30)).alloc (.cells #[.slice B ys.length cb] 30) := ⟨_, rfl⟩
  have B0 : Below w.heap.size w W0 := by rw [hW0]; exact (by repeat (first | exact Below.refl _ _ | apply Below.drew | refine Below.alloc ?_ (by simp) _))
  have p0 : W0.cell? ⟨w.heap.size, 0, none⟩ = some (.slice A xs.length ca) := by rw [hW0]; simp
  have q0 : W0.cell? ⟨w.heap.size + 1, 0, none⟩ = some (.slice B ys.length cb) := by rw [hW0, cell_new (by simp)]; rfl
  rw [← hW0]
  clear hW0
  go_loopw [7, 8, 9, 10, 11] (fun v c y0 a0 b0 wr => ∃ (m cap n : Nat) (C : Option Addr) (h' : Hp), m ≤ 9 ∧ c = .int .i64 (m + 1) ∧ v = .slice C n cap ∧ Hid ((clsTo xs ys m).length = n) ∧ Ow kWay h' C cap (clsTo xs ys m) ∧ Upd Hp.none h' W0 wr) (fun _ c _ _ _ _ => 10 - (intOf c).toNat)
  case atStart => exact ⟨0, 0, 0, none, Hp.none, by omega, rfl, rfl, rfl, Ow.none _ _, Upd.of_below (Below.refl _ _)⟩
  case round =>
    obtain ⟨m, cap, n, C, h', hm, rfl, rfl, hn, ho, hu⟩ := hrel
    by_cases hlt : m < 9
    · have i1 : (0 : Int) ≤ (m : Int) := by omega
      have i2 : (m : Int) < 9 := by omega
      obtain ⟨wo, rfl⟩ : ∃ wo : World, wo = wr := ⟨_, rfl⟩
      have P0 := World.block_lt_of_cell? W0 _ p0
      have Q0 := World.block_lt_of_cell? W0 _ q0
      have hcl := clsTo_len xs ys m
      go_wp2
      go_loopw [7, 9, 10, 11] (fun v yv a0 b0 wr => ∃ (y cap n : Nat) (C : Option Addr) (h' : Hp), y ≤ 100 ∧ yv = .int .i64 y ∧ v = .slice C n cap ∧ Hid ((clsTo xs ys m ++ yrsTo xs ys ((m : Int) + 1) y).length = n) ∧ n ≤ 1000 + y ∧ Ow kWay h' C cap (clsTo xs ys m ++ yrsTo xs ys ((m : Int) + 1) y) ∧ Upd Hp.none h' W0 wr) (fun _ yv _ _ _ => 100 - (intOf yv).toNat)
      case atStart => exact ⟨0, cap, n, C, h', by omega, rfl, rfl, by unfold Hid; simpa [yrsTo] using hn.out, by have := hn.out; omega, by simpa [yrsTo] using ho, hu⟩
      case round =>
        clear ho hn hu
        obtain ⟨y, cap, n, C, h', hy, rfl, rfl, hn, hn2, ho, hu⟩ := hrel
        by_cases hlt2 : y < 100
        · have i3 : (0 : Int) ≤ (y : Int) := by omega
          have i4 : (y : Int) < 100 := by omega
          have G1 := GX w.heap.size wr (B0.trans (hu.below.mono B0.size)) ((hu.below.cell (p := ⟨w.heap.size, 0, none⟩) P0).trans p0) ((m : Int) + 1) y
          have G2 := fun (W : World) (hW : Below wr.heap.size wr W) => GY (w.heap.size + 1) W ((B0.trans (hu.below.mono B0.size)).trans (hW.mono (Nat.le_trans B0.size hu.size))) ((hW.cell (p := ⟨w.heap.size + 1, 0, none⟩) (Nat.lt_of_lt_of_le Q0 hu.size)).trans ((hu.below.cell (p := ⟨w.heap.size + 1, 0, none⟩) Q0).trans q0)) ((m : Int) + 1) y
          have HW : wayOf xs ys ((m : Int) + 1) y = if getB xs ((m : Int) + 1) y ≠ 0 ∨ getB ys ((m : Int) + 1) y ≠ 0 then [⟨(m : Int) + 1, y, getB xs ((m : Int) + 1) y, wrap64 (getB ys ((m : Int) + 1) y - getB xs ((m : Int) + 1) y), getB ys ((m : Int) + 1) y⟩] else [] := rfl
          obtain ⟨os, hos⟩ : ∃ os, os = clsTo xs ys m ++ yrsTo xs ys ((m : Int) + 1) y := ⟨_, rfl⟩
          generalize getB xs ((m : Int) + 1) y = a at *
          generalize getB ys ((m : Int) + 1) y = b at *
          have HY : (a ≠ 0 ∨ b ≠ 0) → Hid (clsTo xs ys m ++ yrsTo xs ys ((m : Int) + 1) (y + 1) = os ++ [⟨(m : Int) + 1, y, a, wrap64 (b - a), b⟩]) := fun h => by
            unfold Hid; rw [yrsTo, HW, if_pos h, ← List.append_assoc, hos]
          have HNo : ¬(a ≠ 0 ∨ b ≠ 0) → Hid (clsTo xs ys m ++ yrsTo xs ys ((m : Int) + 1) (y + 1) = os) := fun h => by
            unfold Hid; rw [yrsTo, HW, if_neg h, List.append_nil, hos]
          rw [← hos] at hn ho
          clear HW hos
          go_wp2_with fail
          refine G1.mono ?_
          rintro e w2 ⟨rfl, b2⟩
          go_wp2_with fail
          refine (G2 _ b2).mono ?_
          rintro e w3 ⟨rfl, b3⟩
          have B2 : Below wr.heap.size wr w3 := b2.trans (b3.mono b2.size)
          clear G1 G2 b2 b3
          by_cases ha : a = 0
          · by_cases hbb : b = 0
            · have HT := HNo (by simp [ha, hbb])
              have t1 : (a != 0) = false := by simpa using ha
              have t2 : (b != 0) = false := by simpa using hbb
              clear ha hbb HY HNo
              go_wp2
              go_roundw
              case rel => exact ⟨y + 1, cap, n, C, h', by omega, by go_num, rfl, by unfold Hid; rw [HT.out]; exact hn.out, by omega, by rw [HT.out]; exact ho, hu.after B2⟩
              case measure => simp [intOf]; omega
            · have HT := HY (.inr hbb)
              have t1 : (a != 0) = false := by simpa using ha
              have t2 : (b != 0) = true := by simpa using hbb
              clear ha hbb HY HNo
              go_wp2_with (at_builtin; refine wpList_app1f (h := h') (xs := os) (y := ⟨(m : Int) + 1, y, a, wrap64 (b - a), b⟩) Try.underlying42 info_way (by rfl) (by rfl) rfl n 1 (by rfl) (by rfl) hn.out ho ((hu.sub.of_below B2).of_below (by repeat (first | exact Below.refl _ _ | apply Below.drew | refine Below.alloc ?_ (by simp) _))) (heap_new_at (by simp)) rfl (by omega) (by omega) ?_; intro C' cap' w4 h4 ho4 hu4)
              go_roundw
              case rel => exact ⟨y + 1, cap', n + 1, C', h4, by omega, by go_num, rfl, by unfold Hid; rw [HT.out, List.length_append, hn.out]; rfl, by omega, by rw [HT.out]; exact ho4, (hu.after B2).trans (hu4.before (by repeat (first | exact Below.refl _ _ | apply Below.drew | refine Below.alloc ?_ (by simp) _)))⟩
              case measure => simp [intOf]; omega
          · have HT := HY (.inl ha)
            have t1 : (a != 0) = true := by simpa using ha
            clear ha HY HNo
            go_wp2_with (at_builtin; refine wpList_app1f (h := h') (xs := os) (y := ⟨(m : Int) + 1, y, a, wrap64 (b - a), b⟩) Try.underlying42 info_way (by rfl) (by rfl) rfl n 1 (by rfl) (by rfl) hn.out ho ((hu.sub.of_below B2).of_below (by repeat (first | exact Below.refl _ _ | apply Below.drew | refine Below.alloc ?_ (by simp) _))) (heap_new_at (by simp)) rfl (by omega) (by omega) ?_; intro C' cap' w4 h4 ho4 hu4)
            go_roundw
            case rel => exact ⟨y + 1, cap', n + 1, C', h4, by omega, by go_num, rfl, by unfold Hid; rw [HT.out, List.length_append, hn.out]; rfl, by omega, by rw [HT.out]; exact ho4, (hu.after B2).trans (hu4.before (by repeat (first | exact Below.refl _ _ | apply Below.drew | refine Below.alloc ?_ (by simp) _)))⟩
            case measure => simp [intOf]; omega
        · obtain rfl : y = 100 := by omega
          go_wp2
          go_roundw
          case rel => exact ⟨m + 1, cap, n, C, h', by omega, by go_num, rfl, hn, ho, hu⟩
          case measure => simp [intOf]; omega
    · obtain rfl : m = 9 := by omega
      go_wp2
      go_ret
      exact ⟨C, cap, h', by rw [← hn.out]; rfl, ho, hu.before B0⟩
end Go.Proofs.Ythcapomobidnbaa
end
section
/- Plain facts about rolls: the program's rows are the document's, for registers. -/
namespace Go.Sl
open Go Go.RowKit
theorem mem_wayOf {o c : List STri} {cl yr : Int} {x : SWay} : x ∈ wayOf o c cl yr ↔ (getB o cl yr ≠ 0 ∨ getB c cl yr ≠ 0) ∧ x = ⟨cl, yr, getB o cl yr, wrap64 (getB c cl yr - getB o cl yr), getB c cl yr⟩ := by
  unfold wayOf; split <;> simp_all
theorem mem_yrsTo {o c : List STri} {cl : Int} {x : SWay} : ∀ {n : Nat}, x ∈ yrsTo o c cl n ↔ ∃ y : Nat, y < n ∧ x ∈ wayOf o c cl y
  | 0 => by simp [yrsTo]
  | n + 1 => by
    simp only [yrsTo, List.mem_append, mem_yrsTo (n := n)]
    constructor
    · rintro (⟨y, h, e⟩ | h)
      · exact ⟨y, by omega, e⟩
      · exact ⟨n, by omega, h⟩
    · rintro ⟨y, h, e⟩
      by_cases hy : y = n
      · subst hy; exact .inr e
      · exact .inl ⟨y, by omega, e⟩
theorem mem_clsTo {o c : List STri} {x : SWay} : ∀ {m : Nat}, x ∈ clsTo o c m ↔ ∃ k y : Nat, k < m ∧ y < 100 ∧ x ∈ wayOf o c ((k : Int) + 1) y
  | 0 => by simp [clsTo]
  | m + 1 => by
    simp only [clsTo, List.mem_append, mem_clsTo (m := m), mem_yrsTo]
    constructor
    · rintro (⟨k, y, h, hy, e⟩ | ⟨y, hy, e⟩)
      · exact ⟨k, y, by omega, hy, e⟩
      · exact ⟨m, y, by omega, hy, e⟩
    · rintro ⟨k, y, h, hy, e⟩
      by_cases hk : k = m
      · subst hk; exact .inr ⟨y, hy, e⟩
      · exact .inl ⟨k, y, by omega, hy, e⟩
theorem rising_yrs {o c : List STri} (cl : Int) : ∀ n : Nat, Rising ordPair wkey (yrsTo o c cl n)
  | 0 => List.Pairwise.nil
  | n + 1 => by
    refine List.pairwise_append.2 ⟨rising_yrs cl n, ?_, fun x hx z hz => ?_⟩
    · unfold wayOf; split <;> simp
    · obtain ⟨y, hy, hx⟩ := mem_yrsTo.1 hx
      obtain ⟨_, rfl⟩ := mem_wayOf.1 hx
      obtain ⟨_, rfl⟩ := mem_wayOf.1 hz
      simp [ordPair, wkey]; omega
theorem rising_cls {o c : List STri} : ∀ m : Nat, Rising ordPair wkey (clsTo o c m)
  | 0 => List.Pairwise.nil
  | m + 1 => by
    refine List.pairwise_append.2 ⟨rising_cls m, rising_yrs _ 100, fun x hx z hz => ?_⟩
    obtain ⟨k, y, hk, hy, hx⟩ := mem_clsTo.1 hx
    obtain ⟨y2, hy2, hz⟩ := mem_yrsTo.1 hz
    obtain ⟨_, rfl⟩ := mem_wayOf.1 hx
    obtain ⟨_, rfl⟩ := mem_wayOf.1 hz
    simp [ordPair, wkey]; omega
theorem find_cons {κ α : Type} [DecidableEq κ] {key : α → κ} {k : κ} {x : α} {l : List α} : find key k (x :: l) = if key x = k then some x else find key k l := by
  by_cases h : key x = k <;> simp [find, h]
/-- What loops over buckets leave of a row. -/
theorem find_fold {f : Int → SWay → SWay} (hf : ∀ v r, wkey (f v r) = wkey r) (k : Int × Int) : ∀ (l : List STri) (rows : List SWay), l.Pairwise (fun x y => rkey x ≠ rkey y) →
    find wkey k (l.foldl (fun rows b => ups (f b.c) b.a b.b rows) rows) = match find rkey k l with
      | some b => some (f b.c ((find wkey k rows).getD ⟨k.1, k.2, 0, 0, 0⟩))
      | none => find wkey k rows
  | [], rows, _ => by simp [find]
  | b :: l, rows, h => by
    obtain ⟨h1, h2⟩ := List.pairwise_cons.1 h
    rw [List.foldl_cons, find_fold hf k l _ h2, find_cons, find_ups (hf b.c)]
    by_cases hk : rkey b = k
    · have hn : find rkey k l = none := find_miss fun y hy e => h1 y hy (hk.trans e.symm)
      have hk' : k = (b.a, b.b) := hk.symm
      rw [hn, if_pos hk, if_pos hk', ← hk']
      subst hk'; rfl
    · have hk' : ¬ k = (b.a, b.b) := fun e => hk e.symm
      rw [if_neg hk, if_neg hk']
theorem rising_ne {l : List STri} (h : RisingR l) : l.Pairwise fun x y => rkey x ≠ rkey y := h.imp fun hxy => ordPair.ne hxy
theorem getB_some {l : List STri} {c y : Int} {b : STri} (h : find rkey (c, y) l = some b) : getB l c y = b.c := by unfold getB; rw [h]
theorem getB_none {l : List STri} {c y : Int} (h : find rkey (c, y) l = none) : getB l c y = 0 := by unfold getB; rw [h]
theorem find_both {o c : List STri} (go : GoodR o) (gc : GoodR c) (cl yr : Int) : find wkey (cl, yr) (c.foldl fC (o.foldl fO [])) = if getB o cl yr ≠ 0 ∨ getB c cl yr ≠ 0 then some ⟨cl, yr, getB o cl yr, 0, getB c cl yr⟩ else none := by
  have e1 := find_fold (f := setO) (fun _ _ => rfl) (cl, yr) o [] (rising_ne go.rise)
  have e2 := find_fold (f := setC) (fun _ _ => rfl) (cl, yr) c (o.foldl fO []) (rising_ne gc.rise)
  have e1' : find wkey (cl, yr) (o.foldl fO []) = _ := e1
  have e2' : find wkey (cl, yr) (c.foldl fC (o.foldl fO [])) = _ := e2
  rw [e2', e1']
  cases ho : find rkey (cl, yr) o with
  | none =>
    cases hc : find rkey (cl, yr) c with
    | none => rw [getB_none ho, getB_none hc]; simp [find]
    | some b =>
      have := gc.nz b (find_some hc).1
      rw [getB_none ho, getB_some hc, if_pos (.inr this)]; rfl
  | some a =>
    have ha := go.nz a (find_some ho).1
    cases hc : find rkey (cl, yr) c with
    | none => rw [getB_none hc, getB_some ho, if_pos (.inl ha)]; rfl
    | some b => rw [getB_some hc, getB_some ho, if_pos (.inl ha)]; rfl
theorem getB_rng {l : List STri} (g : GoodR l) {c y : Int} (h : getB l c y ≠ 0) : 1 ≤ c ∧ c ≤ 9 ∧ 0 ≤ y ∧ y ≤ 99 := by
  cases hf : find rkey (c, y) l with
  | none => exact absurd (getB_none hf) h
  | some b =>
    obtain ⟨h1, h2⟩ := find_some hf
    have := g.rng b h1
    simp only [rkey, Prod.mk.injEq] at h2
    rw [h2.1, h2.2] at this
    simpa [bucketOk] using this
/-- The program's rows are the document's. -/
theorem fwd_ref {o c : List STri} (go : GoodR o) (gc : GoodR c) : fwd o c = refFwd o c := by
  refine Rising.ext ordPair wkey (isort_rising _) (rising_cls 9) fun x => ?_
  unfold fwd
  rw [mem_isort (fwdRaw_dist o c)]
  have hD : Dist (c.foldl fC (o.foldl fO [])) := fold_dist fC_dist c _ (fold_dist fO_dist o [] List.Pairwise.nil)
  show x ∈ (c.foldl fC (o.foldl fO [])).map fM ↔ _
  unfold refFwd
  rw [List.mem_map, mem_clsTo]
  constructor
  · rintro ⟨r, hr, rfl⟩
    have hf := hD.mem_find.1 hr
    have hb := find_both go gc r.cls r.yr
    have hw : wkey r = (r.cls, r.yr) := rfl
    rw [hw] at hf
    rw [hf] at hb
    split at hb
    · rename_i hne
      have hrr := Option.some.inj hb
      have hrg : 1 ≤ r.cls ∧ r.cls ≤ 9 ∧ 0 ≤ r.yr ∧ r.yr ≤ 99 := by
        rcases hne with h | h
        · exact getB_rng go h
        · exact getB_rng gc h
      refine ⟨(r.cls - 1).toNat, r.yr.toNat, by omega, by omega, ?_⟩
      have e1 : (((r.cls - 1).toNat : Nat) : Int) + 1 = r.cls := by omega
      have e2 : ((r.yr.toNat : Nat) : Int) = r.yr := by omega
      rw [e1, e2, mem_wayOf]
      refine ⟨hne, ?_⟩
      conv => lhs; rw [hrr]
      rfl
    · cases hb
  · rintro ⟨k, y, hk, hy, hx⟩
    obtain ⟨hne, rfl⟩ := mem_wayOf.1 hx
    have hb := find_both go gc ((k : Int) + 1) y
    rw [if_pos hne] at hb
    exact ⟨_, (find_some hb).1, rfl⟩
end Go.Sl
end
section
/- The walk of roll.Moved. -/
namespace Go.Sl
open Go Go.RowKit
def addMov (s : Int) (r : SWay) : Int := wrap64 (s + r.mov)
def movSum (rows : List SWay) : Int := rows.foldl addMov 0
end Go.Sl
namespace Go.Proofs.Ythcapomobidnbaa
open Go.RowKit Go.Sl
set_option maxHeartbeats 1000000
set_option maxRecDepth 100000
theorem moved_calls (A B : Option Addr) (ca cb : Nat) (xs ys : List STri) (h k : Hp) (w : World) (hs : h.sub w) (ks : k.sub w) (sx : Sl kTri h A ca xs) (sy : Sl kTri k B cb ys) (hx : xs.length ≤ 1000) (hy : ys.length ≤ 1000) :
    Calls Try.prog 19 #[.slice A xs.length ca, .slice B ys.length cb] w fun e w' => e = .returned (.int .i64 (movSum (fwd xs ys))) ∧ Below w.heap.size w w' := by
  have FC := forward_calls A B ca cb xs ys h k w hs ks sx sy hx hy
  have HM : Hid (movSum (fwd xs ys) = (fwd xs ys).foldl addMov 0) := rfl
  generalize fwd xs ys = rows at *
  go_enter Try.func19, Try.ntmps19
  go_wp2_with fail
  refine FC.mono ?_
  rintro e w1 ⟨C, cap, h1, rfl, o1, u1⟩
  have sl := o1.sl
  have m1 := o1.small
  have s1 := u1.sub
  have b1 := u1.below
  clear o1 u1 FC
  go_wp2
  go_loopw [5, 12] (fun s i wr => ∃ (j : Nat), j ≤ rows.length ∧ i = .int .i64 j ∧ s = .int .i64 ((rows.take j).foldl addMov 0) ∧ Below w1.heap.size w1 wr) (fun _ i _ => rows.length - (intOf i).toNat)
  case atStart => exact ⟨0, by omega, rfl, rfl, Below.refl _ _⟩
  case round =>
    obtain ⟨j, hj, rfl, rfl, hb⟩ := hrel
    by_cases hlt : j < rows.length
    · obtain ⟨x, hxx⟩ := some_of_lt hlt
      obtain ⟨b2, o2, rfl, c1, c2, c3, c4, c5⟩ := sl.way (s1.of_below hb) hxx
      have i1 : (0 : Int) ≤ (j : Int) := by omega
      have i2 : (j : Int) < (rows.length : Int) := by omega
      have HT : Hid ((rows.take (j + 1)).foldl addMov 0 = wrap64 ((rows.take j).foldl addMov 0 + x.mov)) := by unfold Hid; rw [take_next hxx, List.foldl_append]; rfl
      generalize (rows.take j).foldl addMov 0 = s at *
      go_wp2
      go_roundw
      case rel => exact ⟨j + 1, by omega, by go_num, by rw [HT.out], hb.alloc hb.size _⟩
      case measure => simp [intOf]; omega
    · obtain rfl : j = rows.length := by omega
      rw [List.take_length]
      go_wp2
      go_ret
      exact ⟨by rw [HM.out]; rfl, b1.trans (hb.mono b1.size)⟩
end Go.Proofs.Ythcapomobidnbaa
end
section
/- The walk of roll.Classes. -/
namespace Go.Sl
open Go Go.RowKit
def addR (x r : SWay) : SWay := ⟨r.cls, r.yr, wrap64 (r.opn + x.opn), wrap64 (r.mov + x.mov), wrap64 (r.clo + x.clo)⟩
def clsStep (rows : List SWay) (x : SWay) : List SWay := ups (addR x) x.cls (-1) rows
def classes (xs : List SWay) : List SWay := isort ordPair wkey (xs.foldl clsStep [])
theorem cls_dist : ∀ (l : List SWay) (rows : List SWay), Dist rows → Dist (l.foldl clsStep rows)
  | [], _, h => h
  | b :: l, _, h => cls_dist l _ (Dist.ups (f := addR b) (fun _ => rfl) _ _ h)
theorem cls_len : ∀ (l : List SWay) (rows : List SWay), (l.foldl clsStep rows).length ≤ rows.length + l.length
  | [], _ => by simp
  | b :: l, rows => by
    have h1 := cls_len l (clsStep rows b)
    have h2 : (clsStep rows b).length ≤ rows.length + 1 := len_ups _ _ _ _
    simp only [List.foldl_cons, List.length_cons]; omega
theorem cls_next {l : List SWay} {j : Nat} {b : SWay} (h : Hid (l[j]? = some b)) : (l.take (j + 1)).foldl clsStep [] = clsStep ((l.take j).foldl clsStep []) b := by
  rw [take_next h, List.foldl_append]; rfl
theorem Ow.block_ne {α : Type} {k : Kd α} {h : Hp} {b off cap q : Nat} {xs : List α} (o : Ow k h (some ⟨b, off, .none⟩) cap xs) (h0 : 0 < xs.length) (hq : h q = Option.none) : b ≠ q := fun e => by
  obtain ⟨b', off', cur, E, e', hb, _, _⟩ := o.row _ rfl (by have := o.le; omega)
  cases e'
  rw [e, hq] at hb; cases hb
end Go.Sl
namespace Go.Proofs.Ythcapomobidnbaa
open Go.RowKit Go.Sl
set_option maxHeartbeats 4000000
set_option maxRecDepth 100000
theorem classes_calls (A : Option Addr) (ca : Nat) (xs : List SWay) (h : Hp) (w : World) (hs : h.sub w) (sx : Sl kWay h A ca xs) (hx : xs.length ≤ 1000) :
    Calls Try.prog 22 #[.slice A xs.length ca] w fun e w' => ∃ C cap h', e = .returned (.slice C (classes xs).length cap) ∧ Ow kWay h' C cap (classes xs) ∧ Upd Hp.none h' w w' := by
  have m1 := sx.small
  go_enter Try.func22, Try.ntmps22
  go_wp2
  go_loopw [3, 4, 9] (fun v iv i wr => ∃ (j cap m : Nat) (z : Int) (C : Option Addr) (h' : Hp), j ≤ xs.length ∧ i = .int .i64 j ∧ iv = .int .i64 z ∧ v = .slice C m cap ∧ Hid (((xs.take j).foldl clsStep []).length = m) ∧ m ≤ j ∧ Ow kWay h' C cap ((xs.take j).foldl clsStep []) ∧ Upd Hp.none h' w wr) (fun _ _ i _ => xs.length - (intOf i).toNat)
  case atStart => exact ⟨0, 0, 0, 0, none, Hp.none, by omega, rfl, rfl, rfl, rfl, by omega, Ow.none _ _, Upd.of_below (Below.refl _ _)⟩
  case round =>
    obtain ⟨j, cap, m, z, C, h', hj, rfl, rfl, rfl, hm, hm2, ho, hu⟩ := hrel
    by_cases hlt : j < xs.length
    · obtain ⟨x, hxx⟩ := some_of_lt hlt
      obtain ⟨b1, o1, rfl, c1, c2, c3, c4, c5⟩ := sx.way (hs.of_below hu.below) hxx
      have i1 : (0 : Int) ≤ (j : Int) := by omega
      have i2 : (j : Int) < (xs.length : Int) := by omega
      have HT := Lib.hid (cls_next hxx)
      have HLn : Hid ((clsStep ((xs.take j).foldl clsStep []) x).length ≤ m + 1) := by unfold Hid; rw [← hm.out]; exact len_ups _ _ _ _
      generalize (xs.take j).foldl clsStep [] = rows at *
      obtain ⟨r, hr1, hr2, hr3⟩ := at_ups (addR x) x.cls (-1) rows
      have hr2' : Hid ((atR rows x.cls (-1)).set (atI rows x.cls (-1)) (addR x r) = clsStep rows x) := hr2
      have AC := fun (W : World) (hW : Below wr.heap.size wr W) => at_calls C cap rows x.cls (-1) h' W (hu.sub.of_below hW) ho (by rw [hm.out]; omega) m hm.out
      clear hr2
      generalize atR rows x.cls (-1) = R at *
      generalize atI rows x.cls (-1) = q at *
      have hr1' : Hid (R[q]? = some r) := hr1
      have hq := (List.getElem?_eq_some_iff.1 hr1).1
      have i3 : (0 : Int) ≤ (q : Int) := by omega
      have i4 : (q : Int) < (R.length : Int) := by omega
      clear hr1
      go_wp2_with fail
      refine (AC _ (by repeat (first | exact Below.refl _ _ | apply Below.drew | refine Below.alloc ?_ (by simp) _))).mono ?_
      rintro e w2 ⟨C2, cap2, h2, rfl, o2, u2⟩
      obtain ⟨b2, of2, rfl, d1, d2, d3, d4, d5⟩ := o2.sl.way u2.sub hr1'
      have hf := o2.cell_free u2.sub (lt_of_some hr1'.out)
      have hfree : h' wr.heap.size = none := hu.sub.free (Nat.le_refl _)
      have hfree2 : h2 wr.heap.size = none := by
        cases e2 : h2 wr.heap.size with
        | none => rfl
        | some o =>
          rcases u2.dom wr.heap.size (by simp [e2]) with e3 | e3
          · exact absurd hfree e3
          · simp at e3
            omega
      have hne := o2.block_ne (lt_of_some hr1'.out) hfree2
      have g2 : w2.cell? ⟨wr.heap.size, 2, none⟩ = some (.int .i64 x.opn) := u2.cell (by simp) hfree
      have g3 : w2.cell? ⟨wr.heap.size, 3, none⟩ = some (.int .i64 x.mov) := u2.cell (by simp) hfree
      have g4 : w2.cell? ⟨wr.heap.size, 4, none⟩ = some (.int .i64 x.clo) := u2.cell (by simp) hfree
      clear hfree AC hfree2
      go_wp2
      obtain ⟨h3, o3, u3⟩ := Ow.set (x' := ⟨r.cls, r.yr, wrap64 (r.opn + x.opn), r.mov, r.clo⟩) (v := .int .i64 (wrap64 (r.opn + x.opn))) (j := 2) o2 u2.sub hr1'.out (by decide) rfl
      have u3' := u3.after ((Below.refl _ _).drew)
      obtain ⟨h4, o4, u4⟩ := Ow.set (x' := ⟨r.cls, r.yr, wrap64 (r.opn + x.opn), wrap64 (r.mov + x.mov), r.clo⟩) (v := .int .i64 (wrap64 (r.mov + x.mov))) (j := 3) o3 u3'.sub (List.getElem?_set_self hq) (by decide) rfl
      have u4' := u4.after ((Below.refl _ _).drew)
      obtain ⟨h5, o5, u5⟩ := Ow.set (x' := addR x r) (v := .int .i64 (wrap64 (r.clo + x.clo))) (j := 4) o4 u4'.sub (List.getElem?_set_self (by simpa using hq)) (by decide) rfl
      have u5' := u5.after ((Below.refl _ _).drew)
      have U := Lib.hid ((u3'.trans u4').trans u5')
      rw [List.set_set, List.set_set, hr2'.out] at o5
      have hlr : Hid ((clsStep rows x).length = R.length) := by unfold Hid; rw [← hr2'.out, List.length_set]
      clear u3 u3' u4 u4' u5 u5' o3 o4
      go_region
      go_wp2
      go_region
      go_wp2
      go_region
      go_wp2
      go_roundw
      case rel => exact ⟨j + 1, cap2, R.length, q, _, h5, by omega, by go_num, rfl, rfl, by rw [HT.out]; exact hlr.out, by have := HLn.out; have := hlr.out; omega, by rw [HT.out]; exact o5, hu.trans ((u2.before (by repeat (first | exact Below.refl _ _ | apply Below.drew | refine Below.alloc ?_ (by simp) _))).trans U.out)⟩
      case measure => simp [intOf]; omega
    · obtain rfl : j = xs.length := by omega
      rw [List.take_length] at hm ho
      have hD : Hid (Dist (xs.foldl clsStep [])) := cls_dist xs [] List.Pairwise.nil
      have HF : Hid (classes xs = isort ordPair wkey (xs.foldl clsStep [])) := rfl
      generalize xs.foldl clsStep [] = zs at *
      by_cases h0 : 0 < zs.length
      · obtain ⟨ad, hC⟩ := ho.some_of_lt h0
        obtain ⟨b1, o1, cur, E, hd, _⟩ := ho.row ad hC (by have := ho.le; omega)
        subst hd
        subst hC
        go_wp2_with fail
        refine (rollSorted_calls b1 o1 cap zs h' _ hu.sub ho hD.out h0 (by rw [hm.out]; omega) m hm.out).mono ?_
        rintro e w4 ⟨h4, rfl, o4, u4⟩
        go_wp2
        go_ret
        exact ⟨_, _, h4, by rw [HF.out, isort_len hD.out, hm.out]; rfl, by rw [HF.out]; exact o4, hu.trans u4⟩
      · have hz0 : zs = [] := List.eq_nil_of_length_eq_zero (by omega)
        have hj0 : 0 = m := by rw [← hm.out, hz0]; rfl
        have hfe : Hid (classes xs = []) := by unfold Hid; rw [HF.out, hz0]; rfl
        have hoe : Hid (Ow kWay h' C cap []) := by rw [hz0] at ho; exact ho
        clear ho h0 hm hz0 hD HF
        go_wp2_with fail
        refine (rollSortedNone_calls C cap m hj0 _).mono ?_
        rintro e w4 ⟨rfl, rfl⟩
        go_wp2
        go_ret
        exact ⟨C, cap, h', by rw [hfe.out, ← hj0]; rfl, by rw [hfe.out]; exact hoe.out, hu⟩
end Go.Proofs.Ythcapomobidnbaa
end
section
/- Plain facts about rolls: rows turned round, sums, classes, what a bucket moved. -/
namespace Go.Sl
open Go Go.RowKit
/-- The way back. -/
def swapW (r : SWay) : SWay := ⟨r.cls, r.yr, r.clo, wrap64 (r.opn - r.clo), r.opn⟩
theorem wayOf_swap (o c : List STri) (cl yr : Int) : wayOf c o cl yr = (wayOf o c cl yr).map swapW := by
  unfold wayOf
  by_cases h : getB o cl yr ≠ 0 ∨ getB c cl yr ≠ 0
  · rw [if_pos h, if_pos h.symm]; rfl
  · rw [if_neg h, if_neg (fun e => h e.symm)]; rfl
theorem yrsTo_swap (o c : List STri) (cl : Int) : ∀ n, yrsTo c o cl n = (yrsTo o c cl n).map swapW
  | 0 => rfl
  | n + 1 => by simp only [yrsTo, List.map_append, yrsTo_swap o c cl n, wayOf_swap o c]
theorem clsTo_swap (o c : List STri) : ∀ n, clsTo c o n = (clsTo o c n).map swapW
  | 0 => rfl
  | n + 1 => by simp only [clsTo, List.map_append, clsTo_swap o c n, yrsTo_swap o c]
theorem refFwd_swap (o c : List STri) : refFwd c o = (refFwd o c).map swapW := clsTo_swap o c 9
/-- What a row of two registers is. -/
theorem row_of {o c : List STri} {r : SWay} (h : r ∈ refFwd o c) : (r.opn ≠ 0 ∨ r.clo ≠ 0) ∧ r.opn = getB o r.cls r.yr ∧ r.clo = getB c r.cls r.yr ∧ r.mov = wrap64 (r.clo - r.opn) ∧ 1 ≤ r.cls ∧ r.cls ≤ 9 ∧ 0 ≤ r.yr ∧ r.yr ≤ 99 := by
  obtain ⟨k, y, hk, hy, hx⟩ := mem_clsTo.1 h
  obtain ⟨hne, rfl⟩ := mem_wayOf.1 hx
  exact ⟨hne, rfl, rfl, rfl, by show 1 ≤ (k : Int) + 1; omega, by show (k : Int) + 1 ≤ 9; omega, by show 0 ≤ (y : Int); omega, by show (y : Int) ≤ 99; omega⟩
theorem wrap64_small {n : Int} (h : -9223372036854775808 ≤ n ∧ n ≤ 9223372036854775807) : wrap64 n = n := by unfold wrap64; omega
theorem row_good {o c : List STri} (go : GoodR o) (gc : GoodR c) {r : SWay} (h : r ∈ refFwd o c) : (-100000000000 ≤ r.opn ∧ r.opn ≤ 100000000000) ∧ (-100000000000 ≤ r.clo ∧ r.clo ≤ 100000000000) ∧ r.mov = r.clo - r.opn := by
  obtain ⟨_, h1, h2, h3, _⟩ := row_of h
  have g1 := go.get r.cls r.yr
  have g2 := gc.get r.cls r.yr
  rw [← h1] at g1
  rw [← h2] at g2
  exact ⟨g1, g2, by rw [h3, wrap64_small (by omega)]⟩
theorem rising_ref (o c : List STri) : Rising ordPair wkey (refFwd o c) := rising_cls 9
/-- A bucket's row, of two registers. -/
theorem find_ref {o c : List STri} (cl yr : Int) (h : getB o cl yr ≠ 0 ∨ getB c cl yr ≠ 0) (hr : 1 ≤ cl ∧ cl ≤ 9 ∧ 0 ≤ yr ∧ yr ≤ 99) : find wkey (cl, yr) (refFwd o c) = some ⟨cl, yr, getB o cl yr, wrap64 (getB c cl yr - getB o cl yr), getB c cl yr⟩ := by
  refine find_mem (o := ordPair) (rising_ref o c) (y := ⟨cl, yr, getB o cl yr, wrap64 (getB c cl yr - getB o cl yr), getB c cl yr⟩) ?_
  refine mem_clsTo.2 ⟨(cl - 1).toNat, yr.toNat, by omega, by omega, ?_⟩
  have e1 : (((cl - 1).toNat : Nat) : Int) + 1 = cl := by omega
  have e2 : ((yr.toNat : Nat) : Int) = yr := by omega
  rw [e1, e2, mem_wayOf]
  exact ⟨h, rfl⟩
theorem find_ref_none {o c : List STri} (cl yr : Int) (h : ¬(getB o cl yr ≠ 0 ∨ getB c cl yr ≠ 0)) : find wkey (cl, yr) (refFwd o c) = none := by
  refine find_miss fun r hr e => ?_
  obtain ⟨hne, h1, h2, _⟩ := row_of hr
  simp only [wkey, Prod.mk.injEq] at e
  rw [h1, h2, e.1, e.2] at hne
  exact h hne
/-- What a bucket moved: the first row of it. -/
def mvAt (rows : List SWay) (cl yr : Int) : Int := match find wkey (cl, yr) rows with | some r => r.mov | none => 0
theorem mvAt_ref {o c : List STri} (go : GoodR o) (gc : GoodR c) (cl yr : Int) (hr : 1 ≤ cl ∧ cl ≤ 9 ∧ 0 ≤ yr ∧ yr ≤ 99) : mvAt (refFwd o c) cl yr = getB c cl yr - getB o cl yr := by
  have g1 := go.get cl yr
  have g2 := gc.get cl yr
  unfold mvAt
  by_cases h : getB o cl yr ≠ 0 ∨ getB c cl yr ≠ 0
  · rw [find_ref cl yr h hr]; exact wrap64_small (by omega)
  · rw [find_ref_none cl yr h]; show (0 : Int) = _; omega
/-- The opening's buckets are those of the rows. -/
def opnB (r : SWay) : STri := ⟨r.cls, r.yr, r.opn⟩
def cloB (r : SWay) : STri := ⟨r.cls, r.yr, r.clo⟩
theorem rows_opn {o c : List STri} (go : GoodR o) : ((refFwd o c).filter fun r => !decide (r.opn = 0)).map opnB = o := by
  refine Rising.ext ordPair rkey ?_ go.rise fun x => ?_
  · unfold Rising
    rw [List.pairwise_map]
    exact (rising_ref o c).filter _ _ _
  · rw [List.mem_map]
    constructor
    · rintro ⟨r, hr, rfl⟩
      obtain ⟨h1, h2⟩ := List.mem_filter.1 hr
      obtain ⟨_, e1, _⟩ := row_of h1
      have h2' : r.opn ≠ 0 := by simpa using h2
      unfold getB at e1
      cases hf : find rkey (r.cls, r.yr) o with
      | none => rw [hf] at e1; exact absurd e1 h2'
      | some b =>
        rw [hf] at e1
        obtain ⟨m1, m2⟩ := find_some hf
        have : opnB r = b := by
          simp only [rkey, Prod.mk.injEq] at m2
          show (⟨r.cls, r.yr, r.opn⟩ : STri) = b
          rw [← m2.1, ← m2.2, show r.opn = b.c from e1]
        rw [this]; exact m1
    · intro hx
      have hn := go.nz x hx
      have hb := go.rng x hx
      have hg : getB o x.a x.b = x.c := by unfold getB; rw [show ((x.a, x.b) : Int × Int) = rkey x from rfl, find_mem (o := ordPair) go.rise hx]
      have hb' : 1 ≤ x.a ∧ x.a ≤ 9 ∧ 0 ≤ x.b ∧ x.b ≤ 99 := by simpa [bucketOk] using hb
      obtain ⟨m1, m2⟩ := find_some (find_ref (o := o) (c := c) x.a x.b (.inl (by rw [hg]; exact hn)) hb')
      refine ⟨_, List.mem_filter.2 ⟨m1, by simpa [hg] using hn⟩, ?_⟩
      show (⟨x.a, x.b, getB o x.a x.b⟩ : STri) = x
      rw [hg]
theorem rows_clo {o c : List STri} (gc : GoodR c) : ((refFwd o c).filter fun r => !decide (r.clo = 0)).map cloB = c := by
  have h := rows_opn (c := o) gc
  rw [refFwd_swap o c, List.filter_map, List.map_map] at h
  exact h
theorem sum_filter (f : SWay → Int) : ∀ l : List SWay, ((l.filter fun r => !decide (f r = 0)).map f).sum = (l.map f).sum
  | [] => rfl
  | r :: l => by
    have ih := sum_filter f l
    by_cases h : f r = 0
    · simp [h, ih]
    · simp [h, ih]
theorem sum_opn {o c : List STri} (go : GoodR o) : ((refFwd o c).map (·.opn)).sum = sumC o := by
  have h := rows_opn (c := c) go
  rw [← sum_filter]
  conv => rhs; rw [← h]
  unfold sumC
  rw [List.map_map]; rfl
theorem sum_clo {o c : List STri} (gc : GoodR c) : ((refFwd o c).map (·.clo)).sum = sumC c := by
  have h := rows_clo (o := o) gc
  rw [← sum_filter]
  conv => rhs; rw [← h]
  unfold sumC
  rw [List.map_map]; rfl
theorem len_same {o : List STri} (go : GoodR o) : (refFwd o o).length = o.length := by
  have h := rows_opn (c := o) go
  have e : (refFwd o o).filter (fun r => !decide (r.opn = 0)) = refFwd o o := List.filter_eq_self.2 fun r hr => by
    obtain ⟨hne, h1, h2, _⟩ := row_of hr
    have : r.opn ≠ 0 := by rcases hne with h | h
                           · exact h
                           · rw [h1, ← h2]; exact h
    simpa using this
  rw [e] at h
  conv => rhs; rw [← h]
  rw [List.length_map]
theorem len_ref {o c : List STri} (go : GoodR o) (gc : GoodR c) : (refFwd o c).length ≤ 24 := by
  have h1 := congrArg List.length (rows_opn (c := c) go)
  have h2 := congrArg List.length (rows_clo (o := o) gc)
  rw [List.length_map] at h1 h2
  have l1 := go.len
  have l2 := gc.len
  have key : ∀ l : List SWay, (∀ r ∈ l, r.opn ≠ 0 ∨ r.clo ≠ 0) → l.length ≤ (l.filter fun r => !decide (r.opn = 0)).length + (l.filter fun r => !decide (r.clo = 0)).length := by
    intro l
    induction l with
    | nil => intro _; simp
    | cons r l ih =>
      intro h
      have := ih fun x hx => h x (by simp [hx])
      have hr := h r (by simp)
      by_cases a : r.opn = 0 <;> by_cases b : r.clo = 0 <;> simp [a, b] at hr ⊢ <;> omega
  have := key (refFwd o c) fun r hr => (row_of hr).1
  omega
/-- All movements come to what the sums moved. -/
theorem fold_sum (f : SWay → Int) : ∀ (l : List SWay) (s : Int), l.foldl (fun s r => wrap64 (s + f r)) s = if l = [] then s else wrap64 (s + (l.map f).sum)
  | [], s => by simp
  | r :: l, s => by
    rw [List.foldl_cons, fold_sum f l]
    by_cases h : l = []
    · subst h; simp
    · rw [if_neg h, if_neg (by simp)]
      simp only [List.map_cons, List.sum_cons]
      unfold wrap64; omega
theorem fold_sum0 (f : SWay → Int) (l : List SWay) (hb : -9223372036854775808 ≤ (l.map f).sum ∧ (l.map f).sum ≤ 9223372036854775807) : l.foldl (fun s r => wrap64 (s + f r)) 0 = (l.map f).sum := by
  rw [fold_sum]
  split
  · rename_i h; subst h; rfl
  · rw [Int.zero_add]; exact wrap64_small hb
theorem sum_mov : ∀ l : List SWay, (∀ r ∈ l, r.mov = r.clo - r.opn) → (l.map (·.mov)).sum = (l.map (·.clo)).sum - (l.map (·.opn)).sum
  | [], _ => rfl
  | r :: l, h => by
    have := sum_mov l fun x hx => h x (by simp [hx])
    have h0 := h r (by simp)
    simp only [List.map_cons, List.sum_cons]; omega
theorem movSum_ref {o c : List STri} (go : GoodR o) (gc : GoodR c) : movSum (refFwd o c) = sumC c - sumC o := by
  have e := sum_mov (refFwd o c) fun r hr => (row_good go gc hr).2.2
  rw [sum_opn go, sum_clo gc] at e
  have b1 := go.sum
  have b2 := gc.sum
  have : movSum (refFwd o c) = ((refFwd o c).map (·.mov)).sum := fold_sum0 (·.mov) _ (by omega)
  rw [this, e]
/-- Classes of rising rows: each row goes to the last class, or behind it. -/
theorem ups_last {f : SWay → SWay} {c y : Int} : ∀ {G : List SWay} {g : SWay}, (∀ x ∈ G, wkey x ≠ (c, y)) → wkey g = (c, y) → ups f c y (G ++ [g]) = G ++ [f g]
  | [], g, _, h => by simp [ups, h]
  | x :: G, g, hn, h => by
    have := ups_last (f := f) (G := G) (fun z hz => hn z (by simp [hz])) h
    simp only [List.cons_append, ups, if_neg (hn x (by simp)), this]
theorem ups_miss {f : SWay → SWay} {c y : Int} : ∀ {G : List SWay}, (∀ x ∈ G, wkey x ≠ (c, y)) → ups f c y G = G ++ [f ⟨c, y, 0, 0, 0⟩]
  | [], _ => rfl
  | x :: G, hn => by
    have := ups_miss (f := f) (c := c) (y := y) (G := G) fun z hz => hn z (by simp [hz])
    simp only [List.cons_append, ups, if_neg (hn x (by simp)), this]
/-- Classes rise, and are at most so great. -/
def ClsUpto (G : List SWay) (m : Int) : Prop := (G.Pairwise fun x y => x.cls < y.cls) ∧ ∀ x ∈ G, x.cls ≤ m ∧ x.yr = -1
theorem ClsUpto.mono {G : List SWay} {m n : Int} (h : ClsUpto G m) (hm : m ≤ n) : ClsUpto G n := ⟨h.1, fun x hx => ⟨Int.le_trans (h.2 x hx).1 hm, (h.2 x hx).2⟩⟩
theorem clsStep_app {G : List SWay} {m : Int} (h : ClsUpto G m) {x : SWay} (hx : m ≤ x.cls) (hl : ∀ g, G.getLast? = some g → g.cls ≠ x.cls) (hw : (wrap64 x.opn = x.opn ∧ wrap64 x.mov = x.mov) ∧ wrap64 x.clo = x.clo) :
    clsStep G x = G ++ [⟨x.cls, -1, x.opn, x.mov, x.clo⟩] ∧ ClsUpto (clsStep G x) x.cls := by
  have hlt : ∀ y ∈ G, y.cls < x.cls := by
    intro y hy
    cases hg : G.getLast? with
    | none => rw [List.getLast?_eq_none_iff] at hg; subst hg; cases hy
    | some g =>
      obtain ⟨G', rfl⟩ := List.getLast?_eq_some_iff.1 hg
      have h1 := hl g hg
      have h2 := (h.2 g (by simp)).1
      rcases List.mem_append.1 hy with hy | hy
      · have := (List.pairwise_append.1 h.1).2.2 y hy g (by simp); omega
      · simp at hy; subst hy; omega
  have e : clsStep G x = G ++ [⟨x.cls, -1, x.opn, x.mov, x.clo⟩] := by
    unfold clsStep
    rw [ups_miss fun y hy e => by
      have := hlt y hy; simp only [wkey, Prod.mk.injEq] at e; omega]
    simp only [addR, Int.zero_add, hw.1.1, hw.1.2, hw.2]
  refine ⟨e, ?_⟩
  rw [e]
  refine ⟨List.pairwise_append.2 ⟨h.1, by simp, fun y hy z hz => ?_⟩, fun y hy => ?_⟩
  · simp at hz; subst hz; exact hlt y hy
  · rcases List.mem_append.1 hy with hy | hy
    · have := hlt y hy; exact ⟨by omega, (h.2 y hy).2⟩
    · simp at hy; subst hy; exact ⟨Int.le_refl _, rfl⟩
theorem clsStep_last {G : List SWay} {g : SWay} {m : Int} (h : ClsUpto (G ++ [g]) m) {x : SWay} (hg : g.cls = x.cls) : clsStep (G ++ [g]) x = G ++ [addR x g] ∧ ClsUpto (clsStep (G ++ [g]) x) x.cls := by
  have hy := (h.2 g (by simp)).2
  have hlt := (List.pairwise_append.1 h.1).2.2
  have e : clsStep (G ++ [g]) x = G ++ [addR x g] := by
    unfold clsStep
    exact ups_last (fun y hy e => by
      have := hlt y hy g (by simp); simp only [wkey, Prod.mk.injEq] at e; omega) (by simp [wkey, hg, hy])
  refine ⟨e, ?_⟩
  rw [e]
  have h1 := (List.pairwise_append.1 h.1).1
  refine ⟨List.pairwise_append.2 ⟨h1, by simp, fun y hy' z hz => ?_⟩, fun y hy' => ?_⟩
  · simp at hz; subst hz; exact hlt y hy' g (by simp)
  · rcases List.mem_append.1 hy' with hy' | hy'
    · have := hlt y hy' g (by simp)
      exact ⟨by omega, (h.2 y (by simp [hy'])).2⟩
    · simp at hy'; subst hy'; exact ⟨by show g.cls ≤ _; omega, hy⟩
theorem ClsUpto.nil (m : Int) : ClsUpto [] m := ⟨List.Pairwise.nil, by simp⟩
theorem isort_rising_id {l : List SWay} (h : Rising ordPair wkey l) : isort ordPair wkey l = l :=
  Rising.ext ordPair wkey (isort_rising l) h fun _ => mem_isort (h.imp fun hxy => ordPair.ne hxy)
theorem ClsUpto.rising {G : List SWay} {m : Int} (h : ClsUpto G m) : Rising ordPair wkey G := h.1.imp fun hxy => by
  simp [ordPair, wkey, hxy]
/-- Opening and movement are closing, in classes too. -/
def Closes (r : SWay) : Prop := wrap64 (r.opn + r.mov) = r.clo
theorem closes_ups {x : SWay} (hx : Closes x) {c y : Int} : ∀ {G : List SWay}, (∀ r ∈ G, Closes r) → ∀ r ∈ ups (addR x) c y G, Closes r
  | [], _, r, hr => by
    simp [ups] at hr; subst hr
    unfold Closes addR at *
    rw [← hx]; unfold wrap64; simp only; omega
  | g :: G, h, r, hr => by
    have hg := h g (by simp)
    unfold ups at hr
    split at hr
    · rcases List.mem_cons.1 hr with rfl | hr
      · unfold Closes addR at *
        rw [← hx, ← hg]; unfold wrap64; simp only; omega
      · exact h r (by simp [hr])
    · rcases List.mem_cons.1 hr with rfl | hr
      · exact hg
      · exact closes_ups hx (fun z hz => h z (by simp [hz])) r hr
theorem closes_fold : ∀ (l G : List SWay), (∀ r ∈ l, Closes r) → (∀ r ∈ G, Closes r ∧ r.yr = -1) → ∀ r ∈ l.foldl clsStep G, Closes r ∧ r.yr = -1
  | [], _, _, h, r, hr => h r hr
  | x :: l, G, hl, h, r, hr => by
    refine closes_fold l (clsStep G x) (fun z hz => hl z (by simp [hz])) (fun z hz => ⟨closes_ups (hl x (by simp)) (fun q hq => (h q hq).1) z hz, ?_⟩) r hr
    rcases mem_ups hz with hz | ⟨q, hq, rfl⟩
    · exact (h z hz).2
    · simp only [wkey, Prod.mk.injEq] at hq; exact hq.2
theorem closes_classes {l : List SWay} (h : ∀ r ∈ l, Closes r) : ∀ r ∈ classes l, Closes r ∧ r.yr = -1 := fun r hr =>
  closes_fold l [] h (by simp) r ((mem_isort (cls_dist l [] List.Pairwise.nil)).1 hr)
end Go.Sl
end
section
/- '==' and '!=' of structs as one Bool. No program is named here. -/
namespace Go.Sl
open Go Go.RowKit
section
variable {P : Program} {d : Nat} {xs ys : Array Value} {f : Field} {fs : List Field} {a b : Value} {r s : Bool} {w : World}

theorem eqFields_nil : (Op.eqFields d xs ys []).run P w = .ok true w := by simp [Op.eqFields]
theorem eqFields_cons (hn : (f.name == "_") = false) (ha : (Go.part f.type xs f.offset).run P w = .ok a w) (hb : (Go.part f.type ys f.offset).run P w = .ok b w)
    (he : (Op.equalIn d f.type a b).run P w = .ok r w) (hr : (Op.eqFields d xs ys fs).run P w = .ok s w) : (Op.eqFields d xs ys (f :: fs)).run P w = .ok (r && s) w := by
  have hn' : f.name ≠ "_" := by simpa using hn
  rw [Op.eqFields]
  simp only [if_pos hn', Sem.run_bind, ha, hb, he, Result.andThen_ok]
  cases r
  · simp
  · simpa using hr
theorem equalIn_struct {t : TypeId} {fs : Array Field} (hu : P.underlying t = some (.struct fs)) (hp : P.stoodInHeld t = false)
    (h : (Op.eqFields d xs ys fs.toList).run P w = .ok r w) : (Op.equalIn (d + 1) t (.agg xs) (.agg ys)).run P w = .ok r w := by
  have hf : P.fieldsOf t = fs := by simp [Program.fieldsOf, hu]
  rw [run_equalIn_struct (P := P) w d t xs ys (by rw [hf]; exact hu) hp, hf]
  exact h
theorem neq_struct {t : TypeId} (h : (Op.equalIn 10000 t (.agg xs) (.agg ys)).run P w = .ok r w) : (binOp .neq t (.agg xs) (.agg ys)).run P w = .ok (.bool (!r)) w := by
  rw [run_neq_struct, h]; rfl
theorem eql_struct {t : TypeId} (h : (Op.equalIn 10000 t (.agg xs) (.agg ys)).run P w = .ok r w) : (binOp .eql t (.agg xs) (.agg ys)).run P w = .ok (.bool r) w := by
  rw [run_eql_struct, h]; rfl
end
end Go.Sl
end
section
/- '==' and '!=' of roll.Row. -/
namespace Go.Proofs.Ythcapomobidnbaa
open Go.RowKit Go.Sl
set_option maxHeartbeats 1000000
set_option maxRecDepth 100000
theorem equalIn_row (d : Nat) (x0 y0 : Int) (x1 y1 : Int) (x2 y2 : Int) (x3 y3 : Int) (x4 y4 : Int) (w : World) : (Op.equalIn (d + 2) 36 (.agg #[.int .i64 x0, .int .i64 x1, .int .i64 x2, .int .i64 x3, .int .i64 x4]) (.agg #[.int .i64 y0, .int .i64 y1, .int .i64 y2, .int .i64 y3, .int .i64 y4])).run Try.prog w = .ok (x0 == y0 && (x1 == y1 && (x2 == y2 && (x3 == y3 && (x4 == y4 && (true)))))) w := by
  refine equalIn_struct (d := d + 1) Try.underlying36 (by kernel_rfl) ?_
  refine eqFields_cons (by rfl) (by go_simp; rfl) (by go_simp; rfl) (by go_simp) ?_
  refine eqFields_cons (by rfl) (by go_simp; rfl) (by go_simp; rfl) (by go_simp) ?_
  refine eqFields_cons (by rfl) (by go_simp; rfl) (by go_simp; rfl) (by go_simp) ?_
  refine eqFields_cons (by rfl) (by go_simp; rfl) (by go_simp; rfl) (by go_simp) ?_
  refine eqFields_cons (by rfl) (by go_simp; rfl) (by go_simp; rfl) (by go_simp) ?_
  exact eqFields_nil
theorem eqc_row (x y : SWay) : (x.cls == y.cls && (x.yr == y.yr && (x.opn == y.opn && (x.mov == y.mov && (x.clo == y.clo && (true)))))) = decide (x = y) := by
  rw [Bool.eq_iff_iff]; cases x; cases y; simp
theorem ne_row (x y : SWay) (w : World) : (binOp .neq 36 (.agg #[.int .i64 x.cls, .int .i64 x.yr, .int .i64 x.opn, .int .i64 x.mov, .int .i64 x.clo]) (.agg #[.int .i64 y.cls, .int .i64 y.yr, .int .i64 y.opn, .int .i64 y.mov, .int .i64 y.clo])).run Try.prog w = .ok (.bool (neB x y)) w := by
  have h := equalIn_row 9998 x.cls y.cls x.yr y.yr x.opn y.opn x.mov y.mov x.clo y.clo w
  simp only [Nat.reduceAdd] at h
  rw [neq_struct h, eqc_row]; rfl
theorem eq_row (x y : SWay) (w : World) : (binOp .eql 36 (.agg #[.int .i64 x.cls, .int .i64 x.yr, .int .i64 x.opn, .int .i64 x.mov, .int .i64 x.clo]) (.agg #[.int .i64 y.cls, .int .i64 y.yr, .int .i64 y.opn, .int .i64 y.mov, .int .i64 y.clo])).run Try.prog w = .ok (.bool (eqB x y)) w := by
  have h := equalIn_row 9998 x.cls y.cls x.yr y.yr x.opn y.opn x.mov y.mov x.clo y.clo w
  simp only [Nat.reduceAdd] at h
  rw [eql_struct h, eqc_row]; rfl
end Go.Proofs.Ythcapomobidnbaa
end
