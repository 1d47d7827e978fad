/- Walks and plain facts that the laws of this seat share, part 2: contracts of functions, each said at its theorem. -/
import Derived.Test.YtnfedcaehkcffaaGreatPk1
import Derived.Deep.Draws
import Derived.Test.YtnfedcaehkcffaaGreatChecked
import Derived.Shelf.SlSortCmp.WholeK
import Derived.Shelf.SlGeneric
import Derived.Deep.RegionHeld3
set_option linter.all false
section
/- Rising lists: sums, lengths, what is found. No program is named here. -/
namespace Go.Sl
section
variable {κ α : Type} (o : Ord κ) (key : α → κ) [DecidableEq κ]
/-- The element of a key. -/
def find (k : κ) (l : List α) : Option α := l.find? fun y => decide (key y = k)
variable {o key}
theorem find_some {k : κ} {l : List α} {y : α} (h : find key k l = some y) : y ∈ l ∧ key y = k := ⟨List.mem_of_find?_eq_some h, by simpa using List.find?_some h⟩
theorem find_none {k : κ} {l : List α} (h : find key k l = none) : ∀ y ∈ l, key y ≠ k := fun y hy e => by
  have := List.find?_eq_none.1 h y hy; simp [e] at this
theorem find_mem {l : List α} (h : Rising o key l) {y : α} (hy : y ∈ l) : find key (key y) l = some y := by
  cases hf : find key (key y) l with
  | none => exact absurd rfl (find_none hf y hy)
  | some z => obtain ⟨h1, h2⟩ := find_some hf; rw [h.inj o key h1 hy h2]
theorem del_none {k : κ} {l : List α} (h : find key k l = none) : del key k l = l := List.filter_eq_self.2 fun y hy => by simpa using find_none h y hy
theorem put_del (x : α) : ∀ l : List α, Rising o key l → put o key x l = (del key (key x) l).filter (fun y => o.lt (key y) (key x)) ++ x :: (del key (key x) l).filter fun y => o.lt (key x) (key y) := fun l _ => by
  unfold put del
  rw [List.filter_filter, List.filter_filter]
  congr 1
  · refine List.filter_congr fun y _ => ?_
    cases h : o.lt (key y) (key x) with
    | false => rfl
    | true => simp [o.ne h]
  · congr 1
    refine List.filter_congr fun y _ => ?_
    cases h : o.lt (key x) (key y) with
    | false => rfl
    | true => simp [(o.ne h).symm]
theorem split_del (k : κ) : ∀ l : List α, Rising o key l → l.filter (fun y => o.lt (key y) k) ++ l.filter (fun y => o.lt k (key y)) = del key k l
  | [], _ => rfl
  | y :: l, h => by
    have ih := split_del k l h.tail
    rcases o.tri (key y) k with h1 | h1 | h1
    · simp [h1, o.asymm h1, del, o.ne h1] at ih ⊢; exact ih
    · simp [h1, o.irrefl, del] at ih ⊢; exact ih
    · have h2 : ∀ z ∈ l, o.lt k (key z) = true := fun z hz => o.trans _ _ _ h1 (h.head o key z hz)
      have e1 : l.filter (fun z => o.lt (key z) k) = [] := by
        rw [List.filter_eq_nil_iff]; intro z hz; rw [o.asymm (h2 z hz)]; decide
      rw [e1, List.nil_append] at ih
      simp [h1, o.asymm h1, e1, del, (o.ne h1).symm] at ih ⊢; exact ih
theorem put_perm (x : α) {l : List α} (h : Rising o key l) : (put o key x l).Perm (x :: del key (key x) l) := by
  unfold put
  rw [← split_del (key x) l h]
  exact List.perm_middle
theorem sum_perm {l m : List Int} (h : l.Perm m) : l.sum = m.sum := by
  induction h with
  | nil => rfl
  | cons x _ ih => simp [ih]
  | swap x y l => simp; omega
  | trans _ _ a b => exact a.trans b
theorem sum_put (f : α → Int) (x : α) {l : List α} (h : Rising o key l) : ((put o key x l).map f).sum = ((del key (key x) l).map f).sum + f x := by
  rw [sum_perm ((put_perm x h).map f)]; simp; omega
theorem len_put (x : α) {l : List α} (h : Rising o key l) : (put o key x l).length = (del key (key x) l).length + 1 := by
  rw [(put_perm x h).length_eq]; rfl
theorem del_some {k : κ} {l : List α} {y : α} (h : Rising o key l) (hf : find key k l = some y) : l.Perm (y :: del key k l) := by
  obtain ⟨h1, h2⟩ := find_some hf
  subst h2
  have e : put o key y l = l := Rising.ext o key (h.put o key y) h fun z => by
    rw [mem_put]
    constructor
    · rintro (rfl | ⟨hz, _⟩)
      · exact h1
      · exact hz
    · intro hz
      by_cases e : key z = key y
      · exact .inl (h.inj o key hz h1 e)
      · exact .inr ⟨hz, e⟩
  have := put_perm y h
  rwa [e] at this
theorem sum_del (f : α → Int) (k : κ) {l : List α} (h : Rising o key l) : (l.map f).sum = ((del key k l).map f).sum + (match find key k l with | some y => f y | none => 0) := by
  cases hf : find key k l with
  | none => rw [del_none hf]; simp
  | some y => rw [sum_perm ((del_some h hf).map f)]; simp; omega
theorem len_del (k : κ) {l : List α} (h : Rising o key l) : l.length = (del key k l).length + (match find key k l with | some _ => 1 | none => 0) := by
  cases hf : find key k l with
  | none => rw [del_none hf]; rfl
  | some y => rw [(del_some h hf).length_eq]; rfl
theorem del_le (k : κ) (l : List α) : (del key k l).length ≤ l.length := List.length_filter_le _ _
theorem find_put (x : α) {l : List α} (h : Rising o key l) (k : κ) : find key k (put o key x l) = if k = key x then some x else find key k l := by
  have hr := h.put o key x
  by_cases hk : k = key x
  · rw [if_pos hk, hk]; exact find_mem hr ((mem_put o key).2 (.inl rfl))
  · rw [if_neg hk]
    cases hf : find key k l with
    | some y =>
      obtain ⟨h1, h2⟩ := find_some hf
      subst h2
      exact find_mem hr ((mem_put o key).2 (.inr ⟨h1, hk⟩))
    | none =>
      unfold find
      rw [List.find?_eq_none]
      intro y hy
      rcases (mem_put o key).1 hy with rfl | ⟨h1, _⟩
      · simpa using fun e => hk e.symm
      · simpa using find_none hf y h1
theorem find_del (k' : κ) {l : List α} (h : Rising o key l) (k : κ) : find key k (del key k' l) = if k = k' then none else find key k l := by
  have hr := h.del o key k'
  by_cases hk : k = k'
  · rw [if_pos hk]
    unfold find
    rw [List.find?_eq_none]
    intro y hy
    have := (mem_del key).1 hy
    simpa [hk] using this.2
  · rw [if_neg hk]
    cases hf : find key k l with
    | some y =>
      obtain ⟨h1, h2⟩ := find_some hf
      subst h2
      exact find_mem hr ((mem_del key).2 ⟨h1, hk⟩)
    | none =>
      unfold find
      rw [List.find?_eq_none]
      intro y hy
      have := find_none hf y ((mem_del key).1 hy).1
      simpa using this
end
/-- A sorted list of keys that are each once is rising. -/
theorem Rising.of_sorted {κ α : Type} {o : Ord κ} {key : α → κ} {l : List α} (hs : l.Pairwise fun x y => o.lt (key y) (key x) = false) (hn : l.Pairwise fun x y => key x ≠ key y) : Rising o key l := by
  unfold Rising
  induction l with
  | nil => exact List.Pairwise.nil
  | cons x l ih =>
    obtain ⟨a, b⟩ := List.pairwise_cons.1 hs
    obtain ⟨c, d⟩ := List.pairwise_cons.1 hn
    refine List.pairwise_cons.2 ⟨fun y hy => ?_, ih b d⟩
    rcases o.tri (key x) (key y) with h | h | h
    · exact h
    · exact absurd h (c y hy)
    · rw [a y hy] at h; cases h
end Go.Sl
end
section
/- The memory that a body holds: parts of its own, apart from each other, all made since it began. No program is named here. -/
namespace Go.Sl
open Go Go.RowKit
/-- Of the world w0 nothing has turned; the parts l were made since, and are apart. -/
structure Env (w0 w : World) (l : List Hp) : Prop where
  own : Own w l
  fr : ∀ h ∈ l, ∀ q, h q ≠ Option.none → w0.heap.size ≤ q
  low : Below w0.heap.size w0 w
section
variable {w0 w w1 : World} {l : List Hp} {h h' : Hp}
theorem Env.start (w : World) : Env w w [] := ⟨trivial, fun _ e => absurd e (by simp), Below.refl _ _⟩
theorem Env.below (E : Env w0 w l) (b : Below w.heap.size w w1) : Env w0 w1 l := ⟨E.own.below b, E.fr, E.low.trans (b.mono E.low.size)⟩
theorem Own.snoc {w : World} {h' : Hp} (s : h'.sub w) : ∀ {l : List Hp}, Own w l → (∀ k ∈ l, k.apart h') → Own w (l ++ [h'])
  | [], _, _ => ⟨s, fun _ e => absurd e (by simp), trivial⟩
  | k :: l, o, a => ⟨o.1, fun q hq => by
      rcases List.mem_append.1 hq with hq | hq
      · exact o.2.1 q hq
      · simp at hq; subst hq; exact a k (by simp), o.2.2.snoc s fun q hq => a q (by simp [hq])⟩
theorem Env.new (E : Env w0 w l) (u : Upd Hp.none h' w w1) : Env w0 w1 (l ++ [h']) :=
  ⟨(E.own.below u.below).snoc u.sub fun k hk => (u.apart (fun _ e => absurd rfl e) (E.own.mem k hk)).symm, fun k hk q hq => by
    rcases List.mem_append.1 hk with hk | hk
    · exact E.fr k hk q hq
    · simp at hk; subst hk
      rcases u.dom q hq with e | e
      · exact absurd rfl e
      · exact Nat.le_trans E.low.size e, E.low.trans (u.below.mono E.low.size)⟩
theorem Env.upd (E : Env w0 w l) (i : Nat) (hi : l[i]? = some h) (u : Upd h h' w w1) : Env w0 w1 (l.set i h') :=
  ⟨E.own.upd u i hi, fun k hk q hq => by
    rcases List.mem_or_eq_of_mem_set hk with hk | rfl
    · exact E.fr k hk q hq
    · rcases u.dom q hq with e | e
      · exact E.fr h (List.mem_of_getElem? hi) q e
      · exact Nat.le_trans E.low.size e,
   ⟨u.os.trans E.low.os, u.tape.trans E.low.tape, u.output.trans E.low.output, Nat.le_trans E.low.size u.size, fun q hq => by
    refine (u.keep q (Nat.lt_of_lt_of_le hq E.low.size) ?_).trans (E.low.block q hq)
    cases hh : h q with
    | none => rfl
    | some o => have := E.fr h (List.mem_of_getElem? hi) q (by simp [hh]); omega⟩⟩
theorem Env.sub (E : Env w0 w l) (i : Nat) (hi : l[i]? = some h) : h.sub w := E.own.get i h hi
theorem Env.drop (E : Env w0 w l) (i : Nat) : Env w0 w (l.eraseIdx i) := ⟨E.own.erase i, fun k hk => E.fr k (List.mem_of_mem_eraseIdx hk), E.low⟩
theorem Env.arg (E : Env w0 w l) {k : Hp} (s : k.sub w0) : k.sub w := s.of_below E.low
/-- A new block. -/
theorem Upd.newBlock (w : World) (o : Obj) : Upd Hp.none (Hp.one w.heap.size o) w (w.alloc o) :=
  ⟨rfl, rfl, rfl, by simp, fun q hq _ => heap_old_at hq, Hp.one_sub (heap_new_at rfl), fun q hq => by
    right
    simp only [Hp.one] at hq
    split at hq
    · omega
    · exact absurd rfl hq⟩
theorem Hp.sub.free {h : Hp} {w : World} (s : h.sub w) {b : Nat} (hb : w.heap.size ≤ b) : h b = Option.none := by
  cases hh : h b with
  | none => rfl
  | some o => have := s.lt (b := b) (by simp [hh]); omega
/-- A new block that holds what was made before. -/
theorem Upd.put {o : Obj} (u : Upd Hp.none h' w w1) : Upd Hp.none (h'.put w1.heap.size o) w (w1.alloc o) :=
  ⟨u.os, u.tape, u.output, by simp; exact Nat.le_trans u.size (Nat.le_succ _), fun q hq hn => (heap_old_at (Nat.lt_of_lt_of_le hq u.size)).trans (u.keep q hq hn), Hp.put_sub (u.sub.of_below ((Below.refl _ _).alloc (Nat.le_refl _) _)) (heap_new_at rfl), fun q hq => by
    simp only [Hp.put] at hq
    split at hq
    · right; have := u.size; omega
    · exact u.dom q hq⟩
theorem Env.alloc (E : Env w0 w l) (o : Obj) : Env w0 (w.alloc o) (l ++ [Hp.one w.heap.size o]) := E.new (Upd.newBlock w o)
theorem Env.drew (E : Env w0 w l) : Env w0 w.drew l := E.below ((Below.refl _ _).drew)
theorem Env.drewN (E : Env w0 w l) (n : Nat) : Env w0 (w.drewN n) l := E.below ⟨rfl, rfl, rfl, Nat.le_refl _, fun _ _ => rfl⟩
theorem Env.alloc' (E : Env w0 w l) (o : Obj) : Env w0 (w.alloc o) l := E.below ((Below.refl _ _).alloc (Nat.le_refl _) o)
theorem flatMap_len {α : Type} {size : Nat} {cells : α → List Value} (hl : ∀ x, (cells x).length = size) : ∀ xs : List α, (xs.flatMap cells).length = xs.length * size
  | [] => by simp
  | y :: ys => by simp only [List.flatMap_cons, List.length_append, hl, flatMap_len hl ys, List.length_cons, Nat.add_mul, Nat.one_mul]; omega
/-- A literal of flat elements in a new block, owned. -/
theorem Ow.lit {α : Type} {size : Nat} {cells : α → List Value} {pos : 0 < size} {hl : ∀ x, (cells x).length = size} {h1 : ∀ x, ∀ u ∈ cells x, u.oneCell' = true} {h : Hp} {b : Nat} {t : TypeId} {xs : List α}
    (hb : h b = some (.cells (xs.flatMap cells).toArray t (0, 0))) (hm : xs.length ≤ maxLen) : Ow (Kd.flat size cells pos hl h1) h (some ⟨b, 0, .none⟩) xs.length xs :=
  ⟨Nat.le_refl _, hm, (fun e => (nomatch e)), fun ad e _ => by
    cases e
    refine ⟨b, 0, _, t, rfl, hb, ?_, fun i x hx => ⟨cells x, rfl, fun j u hu => ?_⟩⟩
    · have := flatMap_len hl xs
      simp only [Kd.flat, List.size_toArray, this]; omega
    · rw [Nat.zero_add, List.getElem?_toArray]; exact flatMap_get hl xs i x hx j u hu⟩
/-- The rest of a part turns, one block stands. -/
theorem Upd.rest {k' : Hp} {b : Nat} {o : Obj} (hb : h b = some o) (s : h.sub w) (u : Upd (h.del b) k' w w1) : Upd h (k'.put b o) w w1 ∧ k' b = .none := by
  have hlt := s.lt (b := b) (by simp [hb])
  have hk : k' b = .none := by
    cases hh : k' b with
    | none => rfl
    | some q =>
      rcases u.dom b (by simp [hh]) with e | e
      · exact absurd Hp.del_self e
      · omega
  refine ⟨⟨u.os, u.tape, u.output, u.size, fun q hq hn => u.keep q hq (by simp [Hp.del, hn]), fun q o' e => ?_, fun q e => ?_⟩, hk⟩
  · simp only [Hp.put] at e
    split at e
    · rename_i hq; cases e; rw [hq]; exact (u.keep b hlt Hp.del_self).trans (s b _ hb)
    · exact u.sub q o' e
  · simp only [Hp.put] at e
    split at e
    · rename_i hq; left; rw [hq, hb]; simp
    · rcases u.dom q e with h1 | h1
      · left; intro h0; exact h1 (by simp [Hp.del, h0])
      · exact .inr h1
theorem Own.apart_of {w : World} : ∀ {l : List Hp}, Own w l → ∀ {i j : Nat} {h k : Hp}, l[i]? = some h → l[j]? = some k → i ≠ j → h.apart k
  | [], _, i, j, h, k, e, _, _ => by simp at e
  | a :: l, o, 0, 0, h, k, _, _, n => absurd rfl n
  | a :: l, o, 0, j + 1, h, k, e1, e2, _ => by simp at e1 e2; subst e1; exact o.2.1 k (List.mem_of_getElem? e2)
  | a :: l, o, i + 1, 0, h, k, e1, e2, _ => by simp at e1 e2; subst e2; exact (o.2.1 h (List.mem_of_getElem? e1)).symm
  | a :: l, o, i + 1, j + 1, h, k, e1, e2, n => o.2.2.apart_of (i := i) (j := j) (by simpa using e1) (by simpa using e2) (by omega)
/-- A part is written into, and not told any more. -/
theorem Env.scratch (E : Env w0 w l) (i : Nat) (hi : l[i]? = some h) {b j : Nat} {v : Value} (hb : h b ≠ .none) : Env w0 (w.setCell ⟨b, j, .none⟩ v) (l.eraseIdx i) := by
  have D := E.drop i
  have hB : w0.heap.size ≤ b := E.fr h (List.mem_of_getElem? hi) b hb
  have hn : ∀ k ∈ l.eraseIdx i, k b = .none := fun k hk => by
    obtain ⟨m, hm⟩ := List.mem_iff_getElem?.1 hk
    rw [List.getElem?_eraseIdx] at hm
    split at hm
    · exact E.own.apart_of hi hm (by omega) b hb
    · exact E.own.apart_of hi hm (by omega) b hb
  have G : Below b w (w.setCell ⟨b, j, .none⟩ v) := (Below.refl b w).setCell (Nat.le_refl _) v
  have S : (w.setCell ⟨b, j, .none⟩ v).heap.size = w.heap.size := by simp
  refine ⟨?_, D.fr, D.low.setCell hB v⟩
  have key : ∀ l : List Hp, Own w l → (∀ k ∈ l, k b = .none) → Own (w.setCell ⟨b, j, .none⟩ v) l := by
    intro l
    induction l with
    | nil => exact fun _ _ => trivial
    | cons k l ih =>
      intro o hk
      refine ⟨fun q o' e => ?_, o.2.1, ih o.2.2 fun x hx => hk x (by simp [hx])⟩
      rw [Below.heap_setCell w ⟨b, j, .none⟩ v q (fun hq => by have := hk k (by simp); rw [show q = b from hq, this] at e; cases e)]
      exact o.1 q o' e
  exact key _ D.own hn
end
end Go.Sl
end
section
/- The walk of roll.at. -/
namespace Go.Sl
def wkey (x : SWay) : Int × Int := (x.cls, x.yr)
def isW (c y : Int) (x : SWay) : Bool := x.cls == c && x.yr == y
/-- The rows, with one of a bucket. -/
def atR (rows : List SWay) (c y : Int) : List SWay := if rows.any (isW c y) then rows else rows ++ [⟨c, y, 0, 0, 0⟩]
def atI (rows : List SWay) (c y : Int) : Nat := if rows.any (isW c y) then rows.findIdx (isW c y) else rows.length
end Go.Sl
namespace Go.Proofs.YtnfedcaehkcffaaGreat
open Go.RowKit Go.Sl
set_option maxHeartbeats 1000000
set_option maxRecDepth 100000
theorem at1_calls (x : SWay) (p q : Nat) (c y : Int) (W : World) (hp : W.cell? ⟨p, 0, none⟩ = some (.int .i64 c)) (hq : W.cell? ⟨q, 0, none⟩ = some (.int .i64 y)) :
    Calls Tryz.prog 166 #[.agg #[.int .i64 x.cls, .int .i64 x.yr, .int .i64 x.opn, .int .i64 x.mov, .int .i64 x.clo], .pointer (some ⟨p, 0, none⟩), .pointer (some ⟨q, 0, none⟩)] W fun e W' => e = .returned (.bool (isW c y x)) ∧ Below W.heap.size W W' := by
  have h1 := World.block_lt_of_cell? W _ hp
  have h2 := World.block_lt_of_cell? W _ hq
  unfold isW
  cases hk : (x.cls == c) <;> cases ho : (x.yr == y)
  all_goals
    go_enter Tryz.func166, Tryz.ntmps166
    go_wp2
    go_ret
    exact ⟨rfl, (by repeat (first | exact Below.refl _ _ | apply Below.drew | refine Below.alloc ?_ (by simp) _))⟩
theorem at_calls (A : Option Addr) (ca : Nat) (rows : List SWay) (c y : Int) (h : Hp) (w : World) (hs : h.sub w) (o : Ow kWay h A ca rows) (hl : rows.length ≤ 1000000) (n : Nat) (hn : rows.length = n) :
    Calls Tryz.prog 146 #[.slice A n ca, .int .i64 c, .int .i64 y] w fun e w' => ∃ C cap h', e = .returned (.tuple #[.slice C (atR rows c y).length cap, .int .i64 (atI rows c y)]) ∧ Ow kWay h' C cap (atR rows c y) ∧ Upd h h' w w' := by
  subst hn
  have m1 := o.small
  have IC := fun (W : World) (hW : Below w.heap.size w W) (p q : Nat) (hp : W.cell? ⟨p, 0, none⟩ = some (.int .i64 c)) (hq : W.cell? ⟨q, 0, none⟩ = some (.int .i64 y)) =>
    indexFunc_row 166 #[.pointer (some ⟨p, 0, none⟩), .pointer (some ⟨q, 0, none⟩)] (enters_of Tryz.func166 (by kernel_rfl) rfl) (isW c y) A ca rows h W (hs.of_below hW) o.sl
      (fun x V hV => at1_calls x p q c y V ((hV.cell (World.block_lt_of_cell? W _ hp)).trans hp) ((hV.cell (World.block_lt_of_cell? W _ hq)).trans hq))
  cases ha : rows.any (isW c y) with
  | true =>
    have HI : Hid (idx (isW c y) rows = (atI rows c y : Int)) := by unfold Hid idx atI; rw [if_pos ha, if_pos ha]
    have HR : Hid (atR rows c y = rows) := by unfold Hid atR; rw [if_pos ha]
    rw [HI.out] at IC
    clear ha
    generalize atI rows c y = k at *
    have k0 : (0 : Int) ≤ (k : Int) := by omega
    go_enter Tryz.func146, Tryz.ntmps146
    go_wp2_with fail
    refine (IC _ (by repeat (first | exact Below.refl _ _ | apply Below.drew | refine Below.alloc ?_ (by simp) _)) w.heap.size (w.heap.size + 1) (by simp) (by simp)).mono ?_
    rintro e w1 ⟨rfl, b1⟩
    have B : Below w.heap.size w w1 := (show Below w.heap.size w _ from (by repeat (first | exact Below.refl _ _ | apply Below.drew | refine Below.alloc ?_ (by simp) _))).trans (b1.mono (by simp; omega))
    go_wp2
    go_ret2
    exact ⟨A, ca, h, by rw [HR.out]; rfl, by rw [HR.out]; exact o, ⟨B.os, B.tape, B.output, B.size, fun q hq _ => B.block q hq, hs.of_below B, fun _ hq => .inl hq⟩⟩
  | false =>
    have HI : Hid (idx (isW c y) rows = -1) := by unfold Hid idx; rw [ha]; rfl
    have HR : Hid (atR rows c y = rows ++ [⟨c, y, 0, 0, 0⟩]) := by unfold Hid atR; rw [if_neg (by rw [ha]; decide)]
    have HA : Hid (atI rows c y = rows.length) := by unfold Hid atI; rw [if_neg (by rw [ha]; decide)]
    rw [HI.out] at IC
    clear ha
    go_enter Tryz.func146, Tryz.ntmps146
    go_wp2_with fail
    refine (IC _ (by repeat (first | exact Below.refl _ _ | apply Below.drew | refine Below.alloc ?_ (by simp) _)) w.heap.size (w.heap.size + 1) (by simp) (by simp)).mono ?_
    rintro e w1 ⟨rfl, b1⟩
    have B : Below w.heap.size w w1 := (show Below w.heap.size w _ from (by repeat (first | exact Below.refl _ _ | apply Below.drew | refine Below.alloc ?_ (by simp) _))).trans (b1.mono (by simp; omega))
    have k0 : w1.cell? ⟨w.heap.size, 0, none⟩ = some (.int .i64 c) := (b1.cell (p := ⟨w.heap.size, 0, none⟩) (by simp; omega)).trans (by simp)
    have k1 : w1.cell? ⟨w.heap.size + 1, 0, none⟩ = some (.int .i64 y) := (b1.cell (p := ⟨w.heap.size + 1, 0, none⟩) (by simp)).trans (by simp)
    clear b1
    go_wp2_with (at_builtin; refine wpList_app1f (h := h) (xs := rows) (y := ⟨c, y, 0, 0, 0⟩) Tryz.underlying40 info_row (by rfl) (by rfl) rfl rows.length 1 (by rfl) (by rfl) rfl o ((hs.of_below B).of_below (by repeat (first | exact Below.refl _ _ | apply Below.drew | refine Below.alloc ?_ (by simp) _))) (heap_new_at (by simp)) rfl (by omega) (by omega) ?_; intro C' cap' w2 h2 ho2 hu2)
    go_ret2
    exact ⟨C', cap', h2, by rw [HR.out, HA.out, List.length_append]; rfl, by rw [HR.out]; exact ho2, (hu2.before (by repeat (first | exact Below.refl _ _ | apply Below.drew | refine Below.alloc ?_ (by simp) _))).before B⟩
end Go.Proofs.YtnfedcaehkcffaaGreat
end
section
/- Rows of a roll, plain: a row is found or laid, and turned. -/
namespace Go.Sl
/-- A bucket's row, turned; laid first, if there is none. -/
def ups (f : SWay → SWay) (c y : Int) : List SWay → List SWay
  | [] => [f ⟨c, y, 0, 0, 0⟩]
  | r :: rs => if wkey r = (c, y) then f r :: rs else r :: ups f c y rs
theorem isW_iff (c y : Int) (x : SWay) : isW c y x = true ↔ wkey x = (c, y) := by simp [isW, wkey]
theorem at_ups (f : SWay → SWay) (c y : Int) : ∀ rows : List SWay, ∃ r, (atR rows c y)[atI rows c y]? = some r ∧ (atR rows c y).set (atI rows c y) (f r) = ups f c y rows ∧ wkey r = (c, y)
  | [] => ⟨⟨c, y, 0, 0, 0⟩, rfl, rfl, rfl⟩
  | x :: rows => by
    by_cases h : wkey x = (c, y)
    · have hw : isW c y x = true := (isW_iff c y x).2 h
      have ha : (x :: rows).any (isW c y) = true := by simp [hw]
      refine ⟨x, ?_, ?_, h⟩
      · simp only [atR, atI, ha, if_true, List.findIdx_cons, hw, cond_true]; rfl
      · simp only [atR, atI, ha, if_true, List.findIdx_cons, hw, cond_true, List.set_cons_zero, ups, if_pos h]
    · have hw : isW c y x = false := by
        cases e : isW c y x with
        | false => rfl
        | true => exact absurd ((isW_iff c y x).1 e) h
      obtain ⟨r, h1, h2, h3⟩ := at_ups f c y rows
      have ha : (x :: rows).any (isW c y) = rows.any (isW c y) := by simp [hw]
      have eR : atR (x :: rows) c y = x :: atR rows c y := by
        unfold atR; rw [ha]; split <;> simp
      have eI : atI (x :: rows) c y = atI rows c y + 1 := by
        unfold atI; rw [ha]; split
        · simp [List.findIdx_cons, hw]
        · simp
      refine ⟨r, ?_, ?_, h3⟩
      · rw [eR, eI]; simpa using h1
      · rw [eR, eI, List.set_cons_succ, h2, ups, if_neg h]
theorem find_ups {f : SWay → SWay} (hf : ∀ r, wkey (f r) = wkey r) (c y : Int) (k : Int × Int) : ∀ rows : List SWay, find wkey k (ups f c y rows) = if k = (c, y) then some (f ((find wkey (c, y) rows).getD ⟨c, y, 0, 0, 0⟩)) else find wkey k rows
  | [] => by
    have h0 : wkey (f ⟨c, y, 0, 0, 0⟩) = (c, y) := hf _
    by_cases hk : k = (c, y)
    · simp [ups, find, h0, hk]
    · simp [ups, find, h0, hk]; exact fun e => hk e.symm
  | r :: rs => by
    have ih := find_ups hf c y k rs
    unfold ups
    by_cases h : wkey r = (c, y)
    · rw [if_pos h]
      have h0 : wkey (f r) = (c, y) := (hf r).trans h
      by_cases hk : k = (c, y)
      · rw [if_pos hk]; subst hk; simp [find, h0, h]
      · rw [if_neg hk]
        have e1 : ¬ (c, y) = k := fun e => hk e.symm
        simp [find, h0, h, e1]
    · rw [if_neg h]
      by_cases hr : wkey r = k
      · have hk : k ≠ (c, y) := fun e => h (hr.trans e)
        rw [if_neg hk]; simp [find, hr]
      · have e2 : find wkey k (r :: ups f c y rs) = find wkey k (ups f c y rs) := by simp [find, hr]
        have e3 : find wkey k (r :: rs) = find wkey k rs := by simp [find, hr]
        have e4 : find wkey (c, y) (r :: rs) = find wkey (c, y) rs := by simp [find, h]
        rw [e2, e3, e4, ih]
theorem mem_ups {f : SWay → SWay} {c y : Int} {x : SWay} : ∀ {rows : List SWay}, x ∈ ups f c y rows → x ∈ rows ∨ ∃ r, wkey r = (c, y) ∧ x = f r
  | [], h => by simp [ups] at h; exact .inr ⟨_, rfl, h⟩
  | r :: rs, h => by
    unfold ups at h
    split at h
    · rename_i e
      rcases List.mem_cons.1 h with h | h
      · exact .inr ⟨r, e, h⟩
      · exact .inl (by simp [h])
    · rcases List.mem_cons.1 h with h | h
      · exact .inl (by simp [h])
      · rcases mem_ups h with h | h
        · exact .inl (by simp [h])
        · exact .inr h
/-- Keys, each once. -/
def Dist (rows : List SWay) : Prop := rows.Pairwise fun x y => wkey x ≠ wkey y
theorem Dist.ups {f : SWay → SWay} (hf : ∀ r, wkey (f r) = wkey r) (c y : Int) : ∀ {rows : List SWay}, Dist rows → Dist (Go.Sl.ups f c y rows)
  | [], _ => by simp [Go.Sl.ups, Dist]
  | r :: rs, h => by
    obtain ⟨h1, h2⟩ := List.pairwise_cons.1 h
    unfold Go.Sl.ups
    split
    · exact List.pairwise_cons.2 ⟨fun x hx => by rw [hf]; exact h1 x hx, h2⟩
    · rename_i e
      refine List.pairwise_cons.2 ⟨fun x hx => ?_, Dist.ups hf c y h2⟩
      rcases mem_ups hx with hx | ⟨q, hq, rfl⟩
      · exact h1 x hx
      · rw [hf, hq]; exact e
theorem len_ups (f : SWay → SWay) (c y : Int) : ∀ rows : List SWay, (ups f c y rows).length ≤ rows.length + 1
  | [] => by simp [ups]
  | r :: rs => by
    unfold ups
    split
    · simp
    · have := len_ups f c y rs; simp; omega
theorem Dist.mem_find {rows : List SWay} (h : Dist rows) {x : SWay} : x ∈ rows ↔ find wkey (wkey x) rows = some x := by
  constructor
  · intro hx
    induction rows with
    | nil => cases hx
    | cons r rs ih =>
      obtain ⟨h1, h2⟩ := List.pairwise_cons.1 h
      rcases List.mem_cons.1 hx with rfl | hx
      · simp [find]
      · have := h1 x hx
        have e : find wkey (wkey x) (r :: rs) = find wkey (wkey x) rs := by simp [find, this]
        rw [e]; exact ih h2 hx
  · intro hf; exact (find_some hf).1
end Go.Sl
end
section
/- The library's slices.SortFunc over roll.Row, laid at this program in plain words. -/
namespace Go.Proofs
open Go.Shelf
set_option maxRecDepth 100000
def Tryz.sortRow_ren : Go.Shelf.Ren := ⟨fun | 6 => 167 | 15 => 125 | 14 => 182 | 28 => 160 | 29 => 161 | 20 => 187 | 21 => 188 | 22 => 189 | 23 => 190 | 24 => 191 | 25 => 192 | 26 => 193 | 27 => 194 | 46 => 196 | 47 => 170 | 48 => 171 | 49 => 197 | 50 => 198 | 57 => 199 | n => n, fun | 22 => 40 | 24 => 65 | 25 => 211 | 3 => 3 | 39 => 182 | 0 => 0 | 53 => 204 | 55 => 206 | 4 => 4 | 46 => 198 | 45 => 197 | 50 => 146 | 5 => 5 | 9 => 9 | 66 => 212 | 70 => 216 | 76 => 224 | 77 => 225 | n => n, fun | n => n⟩
theorem Tryz.sortRow : Go.Proofs.SlLaysF0.n6 Tryz.prog Tryz.sortRow_ren := {
  mixed := by kernel_rfl
  f6 := ⟨Tryz.f167.name, by decide, Tryz.func167.trans (congrArg some (by kernel_rfl))⟩
  f14 := ⟨Tryz.f182.name, by decide, Tryz.func182.trans (congrArg some (by kernel_rfl))⟩
  f15 := Tryz.func125.trans (congrArg some (by kernel_rfl))
  f20 := ⟨Tryz.f187.name, by decide, Tryz.func187.trans (congrArg some (by kernel_rfl))⟩
  f21 := ⟨Tryz.f188.name, by decide, Tryz.func188.trans (congrArg some (by kernel_rfl))⟩
  f22 := ⟨Tryz.f189.name, by decide, Tryz.func189.trans (congrArg some (by kernel_rfl))⟩
  f23 := ⟨Tryz.f190.name, by decide, Tryz.func190.trans (congrArg some (by kernel_rfl))⟩
  f24 := ⟨Tryz.f191.name, by decide, Tryz.func191.trans (congrArg some (by kernel_rfl))⟩
  f25 := ⟨Tryz.f192.name, by decide, Tryz.func192.trans (congrArg some (by kernel_rfl))⟩
  f26 := ⟨Tryz.f193.name, by decide, Tryz.func193.trans (congrArg some (by kernel_rfl))⟩
  f27 := ⟨Tryz.f194.name, by decide, Tryz.func194.trans (congrArg some (by kernel_rfl))⟩
  f28 := Tryz.func160.trans (congrArg some (by kernel_rfl))
  f29 := Tryz.func161.trans (congrArg some (by kernel_rfl))
  f46 := ⟨Tryz.f196.name, by decide, Tryz.func196.trans (congrArg some (by kernel_rfl))⟩
  f47 := Tryz.func170.trans (congrArg some (by kernel_rfl))
  f48 := Tryz.func171.trans (congrArg some (by kernel_rfl))
  f49 := ⟨Tryz.f197.name, by decide, Tryz.func197.trans (congrArg some (by kernel_rfl))⟩
  f50 := ⟨Tryz.f198.name, by decide, Tryz.func198.trans (congrArg some (by kernel_rfl))⟩
  f57 := ⟨Tryz.f199.name, by decide, Tryz.func199.trans (congrArg some (by kernel_rfl))⟩
  t0 := Tryz.underlying0
  a0 := Tryz.isAgg0
  z0 := Tryz.sizeOf0
  v0 := Tryz.zeroValue0
  t3 := Tryz.underlying3
  a3 := Tryz.isAgg3
  z3 := Tryz.sizeOf3
  v3 := Tryz.zeroValue3
  t4 := Tryz.underlying4
  a4 := Tryz.isAgg4
  z4 := Tryz.sizeOf4
  v4 := Tryz.zeroValue4
  t5 := Tryz.underlying5
  a5 := Tryz.isAgg5
  z5 := Tryz.sizeOf5
  v5 := Tryz.zeroValue5
  t9 := Tryz.underlying9
  a9 := Tryz.isAgg9
  z9 := Tryz.sizeOf9
  v9 := Tryz.zeroValue9
  t22 := Tryz.underlying40
  a22 := Tryz.isAgg40
  z22 := Tryz.sizeOf40
  v22 := Tryz.zeroValue40
  t25 := Tryz.underlying211
  a25 := Tryz.isAgg211
  z25 := Tryz.sizeOf211
  v25 := Tryz.zeroValue211
  t39 := Tryz.underlying182
  a39 := Tryz.isAgg182
  z39 := Tryz.sizeOf182
  v39 := Tryz.zeroValue182
  t45 := Tryz.underlying197
  a45 := Tryz.isAgg197
  z45 := Tryz.sizeOf197
  v45 := Tryz.zeroValue197
  t46 := Tryz.underlying198
  a46 := Tryz.isAgg198
  z46 := Tryz.sizeOf198
  v46 := Tryz.zeroValue198
  t50 := Tryz.underlying146
  a50 := Tryz.isAgg146
  z50 := Tryz.sizeOf146
  v50 := Tryz.zeroValue146
  t53 := Tryz.underlying204
  a53 := Tryz.isAgg204
  z53 := Tryz.sizeOf204
  v53 := Tryz.zeroValue204
  t55 := Tryz.underlying206
  a55 := Tryz.isAgg206
  z55 := Tryz.sizeOf206
  v55 := Tryz.zeroValue206
  t66 := Tryz.underlying212
  a66 := Tryz.isAgg212
  z66 := Tryz.sizeOf212
  v66 := Tryz.zeroValue212
  t70 := Tryz.underlying216
  a70 := Tryz.isAgg216
  z70 := Tryz.sizeOf216
  v70 := Tryz.zeroValue216
  t76 := Tryz.underlying224
  a76 := Tryz.isAgg224
  z76 := Tryz.sizeOf224
  v76 := Tryz.zeroValue224
  t77 := Tryz.underlying225
  a77 := Tryz.isAgg225
  z77 := Tryz.sizeOf225
  v77 := Tryz.zeroValue225 }
end Go.Proofs
end
section
/- The walks of cmp.Compare and cmp.Or over whole numbers. -/
namespace Go.Sl
def cmpI (x y : Int) : Int := if x < y then -1 else if y < x then 1 else 0
def orI (a b : Int) : Int := if a = 0 then b else a
end Go.Sl
namespace Go.Proofs.YtnfedcaehkcffaaGreat
open Go.RowKit Go.Sl
set_option maxHeartbeats 1000000
theorem nan_calls (x : Int) (w : World) : Calls Tryz.prog 126 #[.int .i64 x] w fun e w' => e = .returned (.bool false) ∧ w = w' := by
  go_enter Tryz.func126, Tryz.ntmps126
  go_wp2
  go_ret
  exact ⟨by simp, rfl⟩
theorem compare_calls (x y : Int) (w : World) : Calls Tryz.prog 65 #[.int .i64 x, .int .i64 y] w fun e w' => e = .returned (.int .i64 (cmpI x y)) ∧ w = w' := by
  rcases Int.lt_trichotomy x y with h | h | h
  · have HC : Hid (cmpI x y = -1) := if_pos h
    have t1 : decide (x < y) = true := by simpa using h
    clear h
    go_enter Tryz.func65, Tryz.ntmps65
    go_wp2_with (go_at_call 126; refine (nan_calls _ _).mono ?_; rintro e w' ⟨rfl, rfl⟩)
    go_ret
    exact ⟨by rw [HC.out]; rfl, rfl⟩
  · have HC : Hid (cmpI x y = 0) := by unfold Hid cmpI; rw [if_neg (by omega), if_neg (by omega)]
    have t1 : decide (x < y) = false := by simp; omega
    have t2 : decide (y < x) = false := by simp; omega
    clear h
    go_enter Tryz.func65, Tryz.ntmps65
    go_wp2_with (go_at_call 126; refine (nan_calls _ _).mono ?_; rintro e w' ⟨rfl, rfl⟩)
    go_ret
    exact ⟨by rw [HC.out]; rfl, rfl⟩
  · have HC : Hid (cmpI x y = 1) := by unfold Hid cmpI; rw [if_neg (by omega), if_pos h]
    have t1 : decide (x < y) = false := by simp; omega
    have t2 : decide (y < x) = true := by simpa using h
    clear h
    go_enter Tryz.func65, Tryz.ntmps65
    go_wp2_with (go_at_call 126; refine (nan_calls _ _).mono ?_; rintro e w' ⟨rfl, rfl⟩)
    go_ret
    exact ⟨by rw [HC.out]; rfl, rfl⟩
theorem or_calls (q : Nat) (a b : Int) (w : World) (c0 : w.cell? ⟨q, 0, none⟩ = some (.int .i64 a)) (c1 : w.cell? ⟨q, 1, none⟩ = some (.int .i64 b)) :
    Calls Tryz.prog 64 #[.slice (some ⟨q, 0, none⟩) 2 2] w fun e w' => e = .returned (.int .i64 (orI a b)) ∧ w = w' := by
  go_enter Tryz.func64, Tryz.ntmps64
  go_wp2
  go_loop [8] (fun i => ∃ j : Nat, j ≤ 2 ∧ i = .int .i64 j ∧ Hid (1 ≤ j → a = 0) ∧ Hid (2 ≤ j → b = 0)) (fun i => 2 - (intOf i).toNat)
  case atStart => exact ⟨0, by omega, rfl, by unfold Hid; omega, by unfold Hid; omega⟩
  case round =>
    obtain ⟨j, hj, rfl, h1, h2⟩ := hrel
    have hj3 : j = 0 ∨ j = 1 ∨ j = 2 := by omega
    rcases hj3 with rfl | rfl | rfl
    · by_cases ha : a = 0
      · have t : (a != 0) = false := by simpa using ha
        have HA : Hid (a = 0) := ha
        clear ha
        go_wp2
        go_round
        case rel => exact ⟨1, by omega, by go_num, fun _ => HA.out, by unfold Hid; omega⟩
        case measure => simp [intOf]
      · have t : (a != 0) = true := by simpa using ha
        have HO : Hid (orI a b = a) := if_neg ha
        clear ha
        go_wp2
        go_ret
        exact ⟨by rw [HO.out]; rfl, rfl⟩
    · have HA := Lib.hid (h1.out (by omega))
      by_cases hb : b = 0
      · have t : (b != 0) = false := by simpa using hb
        have HB : Hid (b = 0) := hb
        clear hb
        go_wp2
        go_round
        case rel => exact ⟨2, by omega, by go_num, fun _ => HA.out, fun _ => HB.out⟩
        case measure => simp [intOf]
      · have t : (b != 0) = true := by simpa using hb
        have HO : Hid (orI a b = b) := by unfold Hid orI; rw [if_pos HA.out]
        clear hb
        go_wp2
        go_ret
        exact ⟨by rw [HO.out]; rfl, rfl⟩
    · have HO : Hid (orI a b = 0) := by unfold Hid orI; rw [if_pos (h1.out (by omega))]; exact h2.out (by omega)
      go_wp2
      go_ret
      exact ⟨by rw [HO.out]; rfl, rfl⟩
end Go.Proofs.YtnfedcaehkcffaaGreat
end
section
/- What the shelf's sort of structs does to an owned slice. No program is named here. -/
namespace Go.Sl
open Go Go.RowKit Go.Sort Go.Proofs
section
variable {α : Type} [Inhabited α] {size : Nat} {cells : α → List Value} {pos : 0 < size} {hl : ∀ x, (cells x).length = size} {h1 : ∀ x, ∀ u ∈ cells x, u.oneCell' = true} {h : Hp} {b off cap : Nat} {xs : List α} {w : World}
theorem Ow.holds (o : Ow (Kd.flat size cells pos hl h1) h (some ⟨b, off, .none⟩) cap xs) (s : h.sub w) (hc : 0 < xs.length) : HoldsK cells size w b off xs.toArray := by
  obtain ⟨b', off', cur, E, e, hb, hsz, hrow⟩ := o.row _ rfl (by have := o.le; omega)
  cases e
  have hbw := s b _ hb
  intro t ht
  have ht' : t < xs.length * size := by simpa [size_flatK] using ht
  have hq : t / size < xs.length := (Nat.div_lt_iff_lt_mul pos).2 ht'
  have hm : t % size < size := Nat.mod_lt _ pos
  obtain ⟨cs, hK, hcs⟩ := hrow (t / size) xs[t / size] (by simp [hq])
  have hK' : cs = cells xs[t / size] := hK
  subst hK'
  have hu := hcs (t % size) _ (List.getElem?_eq_getElem (by rw [hl]; exact hm))
  have e2 : off + t / size * size + t % size = off + t := by
    have := Nat.div_add_mod t size
    rw [Nat.mul_comm] at this; omega
  simp only [Kd.flat] at hu
  rw [e2] at hu
  refine ⟨?_, frozen_of_row w b _ cur E hbw⟩
  rw [cell_of_row w b _ cur E (0, 0) hbw, hu, get_flatK _ _ _ t (by simpa using ht')]
  simp only [id]
  have e3 : xs.toArray[t / size]! = xs[t / size] := by simp [hq]
  rw [e3, getElem!_pos _ _ (by rw [hl]; exact hm)]
theorem Ow.sorted (o : Ow (Kd.flat size cells pos hl h1) h (some ⟨b, off, .none⟩) cap xs) (s : h.sub w) (hc : 0 < xs.length) {w' : World} {n : Nat} {d : Array α} {os : Array Obj} (hd : d.size = xs.length) (hw : w' = sortWorldK cells size w b off n d os) :
    ∃ h', Ow (Kd.flat size cells pos hl h1) h' (some ⟨b, off, .none⟩) cap d.toList ∧ Upd h h' w w' := by
  obtain ⟨b', off', cur, E, e, hb, hsz, _⟩ := o.row _ rfl (by have := o.le; omega)
  cases e
  have hbw := s b _ hb
  have hlt := s.lt (b := b) (by simp [hb])
  have hle := o.le
  have hsz' : off + cap * size ≤ cur.size := hsz
  have hfit : xs.length * size ≤ cap * size := Nat.mul_le_mul_right _ hle
  have hblock : ∀ q, q < w.heap.size → w'.heap[q]? = if q = b then some (.cells (putCells id off (flatK cells size d) cur) E (0, 0)) else w.heap[q]? := by
    intro q hq
    subst hw
    show (((w.heap.modify b (onCells (putCells id off (flatK cells size d)))) ++ os)[q]?) = _
    rw [Array.getElem?_append, if_pos (by simpa using hq), Array.getElem?_modify]
    by_cases e : b = q
    · subst e
      rw [if_pos rfl, if_pos rfl, hbw]; rfl
    · rw [if_neg e, if_neg (fun h => e h.symm)]
  refine ⟨h.put b (.cells (putCells id off (flatK cells size d) cur) E), ⟨by simpa [hd] using hle, o.max, o.nil, fun ad e _ => ?_⟩, ?_⟩
  · cases e
    refine ⟨b, off, _, E, rfl, Hp.put_self, by simpa [putCells] using hsz, fun i x hx => ⟨cells x, rfl, fun j u hu => ?_⟩⟩
    have hi : i < d.size := by simpa using (List.getElem?_eq_some_iff.1 hx).1
    have hj : j < size := by rw [← hl x]; exact (List.getElem?_eq_some_iff.1 hu).1
    have ht : i * size + j < d.size * size := by
      have := Nat.mul_le_mul_right size (show i + 1 ≤ d.size from hi); rw [Nat.add_mul, Nat.one_mul] at this; omega
    have e1 : (i * size + j) / size = i := by rw [Nat.mul_comm, Nat.mul_add_div pos, Nat.div_eq_of_lt hj, Nat.add_zero]
    have e2 : (i * size + j) % size = j := by rw [Nat.mul_comm, Nat.mul_add_mod, Nat.mod_eq_of_lt hj]
    have hds : d.size * size = xs.length * size := by rw [hd]
    simp only [Kd.flat, putCells, Array.getElem?_mapIdx]
    rw [Array.getElem?_eq_getElem (by omega)]
    simp only [Option.map_some, size_flatK]
    rw [if_pos (by omega)]
    have e4 : off + i * size + j - off = i * size + j := by omega
    have e5 : d[i]! = x := by
      have h2 := (List.getElem?_eq_some_iff.1 hx).2
      rw [getElem!_pos d i hi]; simpa using h2
    have hu2 := List.getElem?_eq_some_iff.1 hu
    rw [e4, get_flatK _ _ _ _ ht, e1, e2, e5, getElem!_pos _ _ (by rw [hl]; exact hj), hu2.2]; rfl
  · refine ⟨by subst hw; rfl, by subst hw; rfl, by subst hw; rfl, ?_, fun q hq hn => ?_, fun q o2 e2 => ?_, fun q hq => ?_⟩
    · subst hw
      show w.heap.size ≤ ((w.heap.modify b _) ++ os).size
      simp
    · rw [hblock q hq, if_neg (fun e => by rw [e, hb] at hn; cases hn)]
    · simp only [Hp.put] at e2
      split at e2
      · rename_i hq; cases e2; rw [hq, hblock b hlt, if_pos rfl]
      · rename_i hq
        rw [hblock q (s.lt (by simp [e2])), if_neg hq]; exact s q o2 e2
    · left
      simp only [Hp.put] at hq
      split at hq
      · rename_i h2; rw [h2, hb]; simp
      · exact hq
end
/-- A rising list's strict weak order. -/
theorem swo_ord {κ α : Type} (o : Ord κ) (key : α → κ) (lt : α → α → Bool) (h : ∀ x y, lt x y = o.lt (key x) (key y)) : SWO lt where
  irrefl x := by rw [h, o.irrefl]
  trans x y z a b := by rw [h] at *; exact o.trans _ _ _ a b
  ntrans x y z a b := by
    rw [h] at *
    rcases o.tri (key x) (key y) with e | e | e
    · rw [a] at e; cases e
    · rw [e]; exact b
    · rcases o.tri (key y) (key z) with f | f | f
      · rw [b] at f; cases f
      · rw [← f]; exact a
      · exact o.asymm (o.trans _ _ _ f e)
/-- What a list of keys, each once, is when sorted. -/
def isort {κ α : Type} [DecidableEq κ] (o : Ord κ) (key : α → κ) (l : List α) : List α := l.foldr (fun x acc => put o key x acc) []
section
variable {κ α : Type} [DecidableEq κ] {o : Ord κ} {key : α → κ}
theorem isort_rising (l : List α) : Rising o key (isort o key l) := by
  induction l with
  | nil => exact List.Pairwise.nil
  | cons x l ih => exact ih.put o key x
theorem mem_isort {l : List α} (h : l.Pairwise fun x y => key x ≠ key y) {z : α} : z ∈ isort o key l ↔ z ∈ l := by
  induction l with
  | nil => simp [isort]
  | cons x l ih =>
    obtain ⟨a, b⟩ := List.pairwise_cons.1 h
    show z ∈ put o key x (isort o key l) ↔ _
    rw [mem_put, ih b, List.mem_cons]
    constructor
    · rintro (e | ⟨e, _⟩)
      · exact .inl e
      · exact .inr e
    · rintro (e | e)
      · exact .inl e
      · exact .inr ⟨e, fun e2 => a z e e2.symm⟩
theorem isort_of [Inhabited α] {l : List α} (hn : l.Pairwise fun x y => key x ≠ key y) {lt : α → α → Bool} (hlt : ∀ x y, lt x y = o.lt (key x) (key y)) {d : Array α} (hp : PermIn 0 l.length l.toArray d) (hs : SortedIn lt 0 l.length d) : d.toList = isort o key l := by
  obtain ⟨h1, _, h3⟩ := hp
  have h1' : d.size = l.length := by simpa using h1
  have hperm : d.toList.Perm l := by
    have e1 : (d.extract 0 l.length).toList = d.toList := by rw [← h1']; simp
    have e2 : (l.toArray.extract 0 l.length).toList = l := by simp
    rwa [e1, e2] at h3
  refine Rising.ext o key (Rising.of_sorted ?_ ?_) (isort_rising l) fun z => by rw [mem_isort hn]; exact hperm.mem_iff
  · rw [List.pairwise_iff_getElem]
    intro i j hi hj hij
    have hi' : i < d.size := by simpa using hi
    have hj' : j < d.size := by simpa using hj
    have := hs i j (Nat.zero_le _) hij (by omega)
    rw [getElem!_pos d i hi', getElem!_pos d j hj', hlt] at this
    simpa using this
  · exact hperm.symm.pairwise hn fun h => h.symm
end
end Go.Sl
end
section
/- The walk of roll.sorted. -/
namespace Go.Sl
instance : Inhabited SWay := ⟨⟨0, 0, 0, 0, 0⟩⟩
def cfWay (x y : SWay) : Int := orI (cmpI x.cls y.cls) (cmpI x.yr y.yr)
theorem lt_way (x y : SWay) : Go.Proofs.ltOf cfWay x y = ordPair.lt (wkey x) (wkey y) := by
  unfold Go.Proofs.ltOf cfWay orI cmpI
  simp only [ordPair, wkey]
  rw [decide_eq_decide]
  split <;> split <;> (try split) <;> (try split) <;> omega
end Go.Sl
namespace Go.Proofs.YtnfedcaehkcffaaGreat
open Go.RowKit Go.Sl Go.Sort
set_option maxHeartbeats 1000000
set_option maxRecDepth 100000
theorem sorted1_calls (x y : SWay) (W : World) : Calls Tryz.prog 168 #[.agg #[.int .i64 x.cls, .int .i64 x.yr, .int .i64 x.opn, .int .i64 x.mov, .int .i64 x.clo], .agg #[.int .i64 y.cls, .int .i64 y.yr, .int .i64 y.opn, .int .i64 y.mov, .int .i64 y.clo]] W fun e W' => e = .returned (.int .i64 (cfWay x y)) ∧ ∃ q os', W' = grow (W.drewN q) os' := by
  have HC : Hid (cfWay x y = orI (cmpI x.cls y.cls) (cmpI x.yr y.yr)) := rfl
  generalize cfWay x y = r at *
  have C1 := fun W : World => compare_calls x.cls y.cls W
  have C2 := fun W : World => compare_calls x.yr y.yr W
  generalize cmpI x.cls y.cls = a at *
  generalize cmpI x.yr y.yr = b at *
  go_enter Tryz.func168, Tryz.ntmps168
  go_wp2
  go_region_held3 (fun w' => w'.cell? ⟨W.heap.size, 0, none⟩ = some (.int .i64 x.cls) ∧ w'.cell? ⟨W.heap.size, 1, none⟩ = some (.int .i64 x.yr) ∧ w'.cell? ⟨W.heap.size + 1, 0, none⟩ = some (.int .i64 y.cls) ∧ w'.cell? ⟨W.heap.size + 1, 1, none⟩ = some (.int .i64 y.yr))
    (go_keep)
    (first
      | (go_at_call 65; ((with_reducible refine (C1 _).mono ?_)); rintro e w' ⟨rfl, rfl⟩)
      | (go_at_call 65; ((with_reducible refine (C2 _).mono ?_)); rintro e w' ⟨rfl, rfl⟩)
      | (go_at_call 64; have OC := fun (V : World) (h0 : V.heap[W.heap.size + 1 + 1]? = some (.cells #[.int .i64 a, .int .i64 b] 3)) => or_calls (W.heap.size + 1 + 1) a b V (by rw [cell_of_row V _ 0 _ _ _ h0]; rfl) (by rw [cell_of_row V _ 1 _ _ _ h0]; rfl); refine (OC _ (by rw [show ∀ V : World, V.drew.heap = V.heap from fun _ => rfl]; exact heap_new_at (by simp))).mono ?_; rintro e w' ⟨rfl, rfl⟩)
      | fail)
  go_wp2
  go_ret
  exact ⟨by rw [HC.out]; rfl, 1, _, by rw [alloc_eq_grow, alloc_eq_grow, alloc_eq_grow]; simp only [grow_grow, drew_grow]; rfl⟩
theorem sortedSome_calls (b off ca : Nat) (rows : List SWay) (h : Hp) (w : World) (hs : h.sub w) (o : Ow kWay h (some ⟨b, off, none⟩) ca rows) (hn : rows.Pairwise fun x y => wkey x ≠ wkey y) (h0 : 0 < rows.length) (hl : rows.length ≤ 1000000) :
    Calls Tryz.prog 167 #[.slice (some ⟨b, off, none⟩) rows.length ca, .func (.func 168) #[] #[]] w fun e w' => ∃ h', e = .returned (.tuple #[]) ∧ Ow kWay h' (some ⟨b, off, none⟩) ca (isort ordPair wkey rows) ∧ Upd h h' w w' := by
  have eg : ∀ args w, (callFunc 168 args).run Tryz.prog w = .ok (.enter 168 args) w := enters_of Tryz.func168 (by kernel_rfl) rfl
  have hH := o.holds hs h0
  have hblk : b < w.heap.size := by
    obtain ⟨b', off', cur, E, e, hb, _, _⟩ := o.row _ rfl (by have := o.le; omega)
    cases e
    exact hs.lt (by simp [hb])
  have hsz := o.small
  have hcmp : Go.Proofs.CmpLays Tryz.prog 168 #[] SWay.cells 5 cfWay b off rows.toArray.size w := fun _ _ _ _ x y => sorted1_calls x y _
  have key := Go.Proofs.AnyQ.slices_SortFunc Tryz.sortRow 5 (fun w => by kernel_rfl) (fun w => by kernel_rfl) SWay.cells (fun _ => rfl) (fun x v hv => by simp [SWay.cells] at hv; rcases hv with rfl | rfl | rfl | rfl | rfl <;> rfl) cfWay (swo_ord ordPair wkey _ lt_way) 168 #[] b off ca rows.toArray w eg hcmp hH hblk (by simp; omega)
  refine key.mono ?_
  rintro e w' ⟨he, d, n, os, hp, hso, hw⟩
  have hd : d.size = rows.length := by simpa using hp.1
  obtain ⟨h', o', u'⟩ := o.sorted hs h0 hd hw
  rw [isort_of hn lt_way (by simpa using hp) (by simpa using hso)] at o'
  exact ⟨h', he, o', u'⟩
theorem rollSorted_calls (b off ca : Nat) (rows : List SWay) (h : Hp) (w : World) (hs : h.sub w) (o : Ow kWay h (some ⟨b, off, none⟩) ca rows) (hn : rows.Pairwise fun x y => wkey x ≠ wkey y) (h0 : 0 < rows.length) (hl : rows.length ≤ 1000000) (n : Nat) (hln : rows.length = n) :
    Calls Tryz.prog 147 #[.slice (some ⟨b, off, none⟩) n ca] w fun e w' => ∃ h', e = .returned (.slice (some ⟨b, off, none⟩) n ca) ∧ Ow kWay h' (some ⟨b, off, none⟩) ca (isort ordPair wkey rows) ∧ Upd h h' w w' := by
  subst hln
  have SC := sortedSome_calls b off ca rows h w hs o hn h0 hl
  go_enter Tryz.func147, Tryz.ntmps147
  go_wp2_with fail
  refine SC.mono ?_
  rintro e w1 ⟨h1, rfl, o1, u1⟩
  go_wp2
  go_ret
  exact ⟨h1, rfl, o1, u1⟩
end Go.Proofs.YtnfedcaehkcffaaGreat
end
section
/- slices.SortFunc over no rows. -/
namespace Go.Proofs.YtnfedcaehkcffaaGreat
open Go.RowKit Go.Sl
set_option maxHeartbeats 1000000
set_option maxRecDepth 100000
theorem ins0_calls (p : Option Addr) (cap : Nat) (fv : Value) (w : World) : Calls Tryz.prog 187 #[.slice p 0 cap, .int .i64 0, .int .i64 0, fv] w fun e w' => e = .returned (.tuple #[]) ∧ w = w' := by
  go_enter Tryz.func187, Tryz.ntmps187
  go_wp2
  go_loop [8] (fun i => i = .int .i64 1) (fun _ => 0)
  case atStart => exact rfl
  case round =>
    obtain rfl := hrel
    go_wp2
    go_end0
    exact ⟨rfl, rfl⟩
theorem pdq0_calls (p : Option Addr) (cap : Nat) (lim : Int) (fv : Value) (w : World) : Calls Tryz.prog 182 #[.slice p 0 cap, .int .i64 0, .int .i64 0, .int .i64 lim, fv] w fun e w' => e = .returned (.tuple #[]) ∧ w = w' := by
  go_enter Tryz.func182, Tryz.ntmps182
  go_wp2
  go_loop [10, 1, 2] (fun b x y => b = .bool true ∧ x = .int .i64 0 ∧ y = .int .i64 0) (fun _ _ _ => 0)
  case atStart => exact ⟨rfl, rfl, rfl⟩
  case round =>
    obtain ⟨rfl, rfl, rfl⟩ := hrel
    go_wp2_with fail
    refine (ins0_calls p cap fv w).mono ?_
    rintro e w' ⟨rfl, rfl⟩
    go_wp2
    exact bodyPost_ret (v := .tuple #[]) (by simp [results, Tryz.results182, go_sem]) rfl ⟨rfl, rfl⟩
theorem sortNone_calls (p : Option Addr) (cap : Nat) (fv : Value) (w : World) : Calls Tryz.prog 167 #[.slice p 0 cap, fv] w fun e w' => e = .returned (.tuple #[]) ∧ w = w' := by
  have hl : ∀ W, Calls Tryz.prog 125 #[.int .u64 0] W fun e w' => e = .returned (.int .i64 (Go.Lib.bitLen 0 : Nat)) ∧ w' = W := fun W =>
    Go.Proofs.Any.bits_Len (Go.Proofs.SlLaysF0.n15.bits (P := Tryz.prog) (ρ := Tryz.sortRow_ren) { Tryz.sortRow with }) 0 W (by omega) (by omega)
  go_enter Tryz.func167, Tryz.ntmps167
  go_wp2_with fail
  refine (hl _).mono ?_
  rintro e w' ⟨rfl, rfl⟩
  go_wp2_with fail
  refine (pdq0_calls p cap _ fv _).mono ?_
  rintro e w' ⟨rfl, rfl⟩
  go_wp2
  go_end0
  exact ⟨rfl, rfl⟩
theorem rollSortedNone_calls (p : Option Addr) (cap n : Nat) (hn : 0 = n) (w : World) : Calls Tryz.prog 147 #[.slice p n cap] w fun e w' => e = .returned (.slice p n cap) ∧ w = w' := by
  subst hn
  have SC := fun fv => sortNone_calls p cap fv w
  go_enter Tryz.func147, Tryz.ntmps147
  go_wp2_with fail
  refine (SC _).mono ?_
  rintro e w1 ⟨rfl, rfl⟩
  go_wp2
  go_ret
  exact ⟨rfl, rfl⟩
end Go.Proofs.YtnfedcaehkcffaaGreat
end
section
/- Registers of temporary differences, plain. No program is named here. -/
namespace Go.Sl
def rkey (x : STri) : Int × Int := (x.a, x.b)
abbrev RisingR (l : List STri) : Prop := Rising ordPair rkey l
def getB (l : List STri) (c y : Int) : Int := match find rkey (c, y) l with | some b => b.c | none => 0
def sumC (l : List STri) : Int := (l.map (·.c)).sum
def setB (l : List STri) (c y n : Int) : List STri := if n = 0 then del rkey (c, y) l else put ordPair rkey ⟨c, y, n⟩ l
theorem setGo_setB {l : List STri} (h : RisingR l) (c y n : Int) : setGo ordPair rkey ⟨c, y, n⟩ (decide (n = 0)) l = setB l c y n := by
  unfold setB
  by_cases h0 : n = 0
  · rw [if_pos h0, decide_eq_true h0, setGo_true]; rfl
  · rw [if_neg h0, decide_eq_false h0, setGo_false _ _ _ _ h]
def bucketOk (c y : Int) : Bool := decide (1 ≤ c ∧ c ≤ 9 ∧ 0 ≤ y ∧ y ≤ 99)
def moveE (l : List STri) (c y n : Int) : Int :=
  if (bucketOk c y && money n) = false then 1
  else if (money (getB l c y + n) && money (sumC l + n)) = false then 6
  else if 12 < (setB l c y (getB l c y + n)).length then 5 else 0
def moveR (l : List STri) (c y n : Int) : List STri := if moveE l c y n = 0 then setB l c y (getB l c y + n) else l
def reclE (l : List STri) (c y c2 y2 n : Int) : Int :=
  if (bucketOk c y && (bucketOk c2 y2 && (money n && !decide (c = c2 ∧ y = y2)))) = false then 1
  else if (money (getB l c y - n) && money (getB l c2 y2 + n)) = false then 6
  else if 12 < (setB (setB l c y (getB l c y - n)) c2 y2 (getB l c2 y2 + n)).length then 5 else 0
def reclR (l : List STri) (c y c2 y2 n : Int) : List STri := if reclE l c y c2 y2 n = 0 then setB (setB l c y (getB l c y - n)) c2 y2 (getB l c2 y2 + n) else l
/-- What holds of all registers. -/
structure GoodR (l : List STri) : Prop where
  rise : RisingR l
  nz : ∀ b ∈ l, b.c ≠ 0
  mon : ∀ b ∈ l, money b.c = true
  rng : ∀ b ∈ l, bucketOk b.a b.b = true
  len : l.length ≤ 12
theorem GoodR.nil : GoodR [] := ⟨List.Pairwise.nil, by simp, by simp, by simp, by simp⟩
theorem rising_setB {l : List STri} (h : RisingR l) (c y n : Int) : RisingR (setB l c y n) := by
  unfold setB; split
  · exact h.del _ _ _
  · exact h.put _ _ _
theorem mem_setB {l : List STri} {c y n : Int} {x : STri} : x ∈ setB l c y n ↔ (n ≠ 0 ∧ x = ⟨c, y, n⟩) ∨ x ∈ l ∧ rkey x ≠ (c, y) := by
  unfold setB
  split
  · rename_i h; simp [h, mem_del]
  · rename_i h; simp [h, mem_put, rkey]
theorem getB_setB {l : List STri} (h : RisingR l) (c y n c' y' : Int) : getB (setB l c y n) c' y' = if c' = c ∧ y' = y then n else getB l c' y' := by
  unfold setB getB
  by_cases h0 : n = 0
  · rw [if_pos h0, find_del (o := ordPair) _ h]
    by_cases e : (c', y') = (c, y)
    · rw [if_pos e, if_pos (by simpa using e)]; exact h0.symm
    · rw [if_neg e, if_neg (by simpa using e)]
  · rw [if_neg h0, find_put _ h]
    by_cases e : (c', y') = (c, y)
    · rw [if_pos (by simpa [rkey] using e), if_pos (by simpa using e)]
    · rw [if_neg (by simpa [rkey] using e), if_neg (by simpa using e)]
theorem sumC_setB {l : List STri} (h : RisingR l) (c y n : Int) : sumC (setB l c y n) = sumC l - getB l c y + n := by
  have e := sum_del (o := ordPair) (fun b : STri => b.c) (c, y) h
  have e : (l.map (·.c)).sum = ((del rkey (c, y) l).map (·.c)).sum + getB l c y := by
    rw [e]; unfold getB; cases find rkey (c, y) l <;> rfl
  unfold setB sumC
  split
  · rename_i h0; subst h0
    omega
  · rw [sum_put (fun b : STri => b.c) _ h]
    show ((del rkey (c, y) l).map (·.c)).sum + n = _
    omega
theorem len_setB {l : List STri} (h : RisingR l) (c y n : Int) : (setB l c y n).length ≤ l.length + 1 := by
  unfold setB
  split
  · have := del_le (key := rkey) (c, y) l; omega
  · rw [len_put _ h]; have := del_le (key := rkey) (rkey ⟨c, y, n⟩) l; omega
theorem GoodR.setB {l : List STri} (g : GoodR l) {c y n : Int} (hb : bucketOk c y = true) (hn : money n = true) (hl : (setB l c y n).length ≤ 12) : GoodR (setB l c y n) :=
  by
  refine ⟨rising_setB g.rise c y n, fun b hb' => ?_, fun b hb' => ?_, fun b hb' => ?_, hl⟩
  all_goals rcases mem_setB.1 hb' with ⟨h0, rfl⟩ | ⟨h, _⟩
  · exact h0
  · exact g.nz b h
  · exact hn
  · exact g.mon b h
  · exact hb
  · exact g.rng b h
theorem moveE_ok {l : List STri} {c y n : Int} (h : moveE l c y n = 0) : bucketOk c y = true ∧ money n = true ∧ money (getB l c y + n) = true ∧ money (sumC l + n) = true ∧ (Go.Sl.setB l c y (getB l c y + n)).length ≤ 12 := by
  unfold moveE at h
  split at h
  · cases h
  · split at h
    · cases h
    · split at h
      · cases h
      · rename_i h1 h2 h3
        simp at h1 h2
        exact ⟨h1.1, h1.2, h2.1, h2.2, by omega⟩
theorem GoodR.move {l : List STri} (g : GoodR l) (c y n : Int) : GoodR (moveR l c y n) := by
  unfold moveR
  split
  · rename_i h
    obtain ⟨h1, _, h3, _, h5⟩ := moveE_ok h
    exact g.setB h1 h3 h5
  · exact g
theorem reclE_ok {l : List STri} {c y c2 y2 n : Int} (h : reclE l c y c2 y2 n = 0) : bucketOk c y = true ∧ bucketOk c2 y2 = true ∧ money n = true ∧ ¬(c = c2 ∧ y = y2) ∧ money (getB l c y - n) = true ∧ money (getB l c2 y2 + n) = true ∧ (Go.Sl.setB (Go.Sl.setB l c y (getB l c y - n)) c2 y2 (getB l c2 y2 + n)).length ≤ 12 := by
  unfold reclE at h
  split at h
  · cases h
  · split at h
    · cases h
    · split at h
      · cases h
      · rename_i h1 h2 h3
        simp at h1 h2
        exact ⟨h1.1, h1.2.1, h1.2.2.1, by simpa using h1.2.2.2, h2.1, h2.2, by omega⟩
theorem mem_len {l : List STri} (h : ∀ b ∈ l, money b.c = true) : ∀ b ∈ l, -100000000000 ≤ b.c ∧ b.c ≤ 100000000000 := fun b hb => by have := h b hb; simpa [money] using this
theorem sumC_bd {m : Int} (hm : 0 ≤ m) : ∀ l : List STri, (∀ b ∈ l, -m ≤ b.c ∧ b.c ≤ m) → -(l.length * m) ≤ sumC l ∧ sumC l ≤ l.length * m
  | [], _ => by simp [sumC]
  | b :: l, h => by
    have h1 := sumC_bd hm l fun x hx => h x (by simp [hx])
    have h2 := h b (by simp)
    have e : sumC (b :: l) = b.c + sumC l := by simp [sumC]
    rw [e]
    simp only [List.length_cons, Int.natCast_add, Int.add_mul, Int.natCast_one, Int.one_mul]
    omega
theorem GoodR.sum {l : List STri} (g : GoodR l) : -1200000000000 ≤ sumC l ∧ sumC l ≤ 1200000000000 := by
  have h := sumC_bd (m := 100000000000) (by omega) l (mem_len g.mon)
  have := g.len
  omega
theorem GoodR.get {l : List STri} (g : GoodR l) (c y : Int) : -100000000000 ≤ getB l c y ∧ getB l c y ≤ 100000000000 := by
  unfold getB
  split
  · rename_i b hb; exact mem_len g.mon b (find_some hb).1
  · omega
/-- A register out of numbers. -/
def regStep (l : List STri) (z : Int) : List STri := moveR l (1 + within z 3) (within (z.tdiv 3) 5) (amount (z.tdiv 15))
def regOf (zs : List Int) : List STri := (zs.take 10).foldl regStep []
theorem GoodR.foldl : ∀ (zs : List Int) (l : List STri), GoodR l → GoodR (zs.foldl regStep l)
  | [], _, g => g
  | _ :: zs, _, g => GoodR.foldl zs _ (g.move _ _ _)
theorem regOf_good (zs : List Int) : GoodR (regOf zs) := GoodR.foldl _ _ .nil
end Go.Sl
end
